/- Plain: what the trial of 'Send' answers. -/
import Derived.Test.YtnnckjgafglgeaaDoorE20
import Derived.KernelRfl
namespace Go.Proofs.YtnnckjgafglgeaaDoor

def docT : List Nd := [⟨1, ⟨#[]⟩, [], ⟨#[]⟩, -1, [1]⟩, ⟨2, ⟨#[97]⟩, [], ⟨#[]⟩, 0, [2]⟩, ⟨2, ⟨#[98]⟩, [], ⟨#[]⟩, 1, []⟩]
def lisT : List Lis := [⟨1, 1, ⟨#[120]⟩, false, false, false, false, false⟩, ⟨2, 1, ⟨#[120]⟩, true, false, false, false, false⟩, ⟨3, 2, ⟨#[120]⟩, false, true, false, false, false⟩]
def evT : Ev := ⟨⟨#[120]⟩, 2, 0, 0, ⟨#[]⟩, true, false⟩
theorem docT_ok : docErr docT = 0 := by kernel_rfl
theorem askT : askedV docT lisT evT = (0, [0, 1, 2]) := by kernel_rfl
theorem stepsT : stepsV [0, 1, 2] true = [⟨0, 1, true⟩, ⟨1, 1, true⟩, ⟨2, 2, true⟩, ⟨2, 2, false⟩, ⟨1, 3, false⟩, ⟨0, 3, false⟩] := by kernel_rfl
theorem sendT : sendV docT lisT evT = ⟨0, [⟨2, 1, 1⟩, ⟨3, 2, 2⟩, ⟨1, 1, 3⟩], false, [⟨1, 1, ⟨#[120]⟩, false, false, false, false, false⟩, ⟨2, 1, ⟨#[120]⟩, true, false, false, false, false⟩]⟩ := by kernel_rfl
end Go.Proofs.YtnnckjgafglgeaaDoor
