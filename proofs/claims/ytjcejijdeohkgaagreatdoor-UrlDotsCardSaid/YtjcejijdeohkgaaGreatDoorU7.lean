/- Plain: the trial's own addresses. -/
import Derived.Test.YtjcejijdeohkgaaGreatDoorU6
namespace Go.Proofs.YtjcejijdeohkgaaGreatDoor

/-- http://A.b:80/x/y?q#f -/
def liveA : Bs := [104, 116, 116, 112, 58, 47, 47, 65, 46, 98, 58, 56, 48, 47, 120, 47, 121, 63, 113, 35, 102]
def liveB : Bs := [46, 46, 47, 122]
def liveC : Bs := [104, 116, 116, 112, 58, 47, 47, 97, 46, 98, 47, 122]
/-- https://h/a%2fb -/
def liveD : Bs := [104, 116, 116, 112, 115, 58, 47, 47, 104, 47, 97, 37, 50, 102, 98]
theorem live_resolve : resolveP liveA liveB = .ok liveC := by kernel_rfl
theorem live_parse : parseP liveD = .ok ⟨[104, 116, 116, 112, 115], [104], 0, [[97, 47, 98]], [], false, [], false⟩ := by kernel_rfl
theorem live_enc : encP [97, 32, 98] = [97, 37, 50, 48, 98] := by kernel_rfl
end Go.Proofs.YtjcejijdeohkgaaGreatDoor
