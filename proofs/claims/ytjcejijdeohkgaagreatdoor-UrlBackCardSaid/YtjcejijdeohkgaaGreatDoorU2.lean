/- Plain: an address, as it is parsed and written. -/
import Derived.Test.YtjcejijdeohkgaaGreatDoorU1
namespace Go.Proofs.YtjcejijdeohkgaaGreatDoor

def splitC (c : UInt8) : Bs → List Bs
  | [] => [[]]
  | b :: r => if b = c then [] :: splitC c r else (match splitC c r with
    | [] => [[b]]
    | p :: ps => (b :: p) :: ps)
theorem splitC_not {c : UInt8} : ∀ {s : Bs}, c ∉ s → splitC c s = [s]
  | [], _ => rfl
  | b :: r, h => by
    have hb : ¬ b = c := fun e => h (by rw [e]; simp)
    unfold splitC
    rw [if_neg hb, splitC_not (fun h' => h (List.mem_cons_of_mem _ h'))]
theorem splitC_cut {c : UInt8} : ∀ {a : Bs} (b : Bs), c ∉ a → splitC c (a ++ c :: b) = a :: splitC c b
  | [], b, _ => by
    show splitC c (c :: b) = _
    rw [splitC, if_pos rfl]
  | x :: a, b, h => by
    have hx : ¬ x = c := fun e => h (by rw [e]; simp)
    show splitC c (x :: (a ++ c :: b)) = _
    rw [splitC, if_neg hx, splitC_cut b (fun h' => h (List.mem_cons_of_mem _ h'))]
theorem splitC_ne (c : UInt8) (s : Bs) : splitC c s ≠ [] := by
  cases s with
  | nil => simp [splitC]
  | cons b r =>
    unfold splitC
    split
    · simp
    · split <;> simp
def frontC (c : UInt8) (s : Bs) : Bs := s.takeWhile (· != c)
def backC (c : UInt8) (s : Bs) : Bs := (s.dropWhile (· != c)).drop 1
theorem front_not {c : UInt8} : ∀ {s : Bs}, c ∉ s → frontC c s = s ∧ backC c s = []
  | [], _ => ⟨rfl, rfl⟩
  | b :: r, h => by
    have hb : (b != c) = true := by
      simp only [bne_iff_ne, ne_eq]
      exact fun e => h (by rw [e]; simp)
    obtain ⟨h1, h2⟩ := front_not (s := r) (fun h' => h (List.mem_cons_of_mem _ h'))
    unfold frontC backC at *
    rw [List.takeWhile_cons, if_pos hb, List.dropWhile_cons, if_pos hb, h1]
    exact ⟨rfl, h2⟩
theorem front_cut {c : UInt8} : ∀ {a : Bs} (b : Bs), c ∉ a → frontC c (a ++ c :: b) = a ∧ backC c (a ++ c :: b) = b
  | [], b, _ => by
    unfold frontC backC
    simp
  | x :: a, b, h => by
    have hx : (x != c) = true := by
      simp only [bne_iff_ne, ne_eq]
      exact fun e => h (by rw [e]; simp)
    obtain ⟨h1, h2⟩ := front_cut (a := a) b (fun h' => h (List.mem_cons_of_mem _ h'))
    unfold frontC backC at *
    rw [List.cons_append, List.takeWhile_cons, if_pos hx, List.dropWhile_cons, if_pos hx, h1]
    exact ⟨rfl, h2⟩
theorem front_free (c : UInt8) : ∀ (s : Bs), c ∉ frontC c s
  | [] => by intro h; cases h
  | b :: r => by
    intro h
    unfold frontC at h
    rw [List.takeWhile_cons] at h
    split at h
    · rename_i hb
      rcases List.mem_cons.1 h with h | h
      · subst h; simp at hb
      · exact front_free c r h
    · cases h
def schSet : Bs := digs ++ [43, 45, 46]
def schK : Nat → Bs → Option Nat
  | _, [] => none
  | k, c :: r => if c = 58 ∧ 0 < k then some k else if letP c = false ∧ (k = 0 ∨ schSet.contains c = false) then none else schK (k + 1) r
def smR (r : Int) : Int := if 65 ≤ r ∧ r ≤ 90 then r + 32 else r
def smallP (s : Bs) : Bs := Lib.mapD smR s
def schP (s : Bs) : Option (Bs × Bs) := (schK 0 s).map fun k => (smallP (s.take k), s.drop (k + 1))
def lowSet : Bs := [97, 98, 99, 100, 101, 102, 103, 104, 105, 106, 107, 108, 109, 110, 111, 112, 113, 114, 115, 116, 117, 118, 119, 120, 121, 122]
def hostSet : Bs := lowSet ++ digs ++ [45]
def hostP (h : Bs) : Bool := decide (h.length ≤ 100) && (splitC 46 h).all (fun p => !p.isEmpty && (Lib.trimS p hostSet).isEmpty)
def httpB : Bs := [104, 116, 116, 112]
def ownP (sch : Bs) : Int := if sch = httpB then 80 else if sch = httpB ++ [115] then 443 else 0
def numP (p : Bs) : Int := match Lib.atoiAll p with
  | .ok n => n
  | _ => 0
def placeP (sch s : Bs) : Option (Bs × Int) :=
  if hostP (smallP (frontC 58 s)) = false then none
  else if s.contains 58 = false then some (smallP (frontC 58 s), 0)
  else if (backC 58 s).length < 1 ∨ 5 < (backC 58 s).length ∨ Lib.trimS (backC 58 s) digs ≠ [] then none
  else if numP (backC 58 s) < 1 ∨ 65535 < numP (backC 58 s) then none
  else some (smallP (frontC 58 s), if numP (backC 58 s) = ownP sch then 0 else numP (backC 58 s))
def tidyF : List Bs → List Bs → List Bs
  | out, [] => out
  | out, s :: r => if s = [46] ∨ s = [46, 46] then (if r = [] then tidyF ((if s = [46, 46] then out.dropLast else out) ++ [[]]) r else tidyF (if s = [46, 46] then out.dropLast else out) r) else tidyF (out ++ [s]) r
def tidyP (l : List Bs) : List Bs := if tidyF [] l = [] then [[]] else tidyF [] l
def segsP : List Bs → Option (List Bs)
  | [] => some []
  | p :: ps => match decP p with
    | none => none
    | some d => (segsP ps).map (d :: ·)
def noSl (p : Bs) : Bs := if p.head? = some 47 then p.drop 1 else p
structure Ur where
  sch : Bs
  host : Bs
  port : Int
  path : List Bs
  query : Bs
  asks : Bool
  frag : Bs
  points : Bool
deriving DecidableEq
def pathT (s : Bs) : Bs := frontC 63 (frontC 35 s)
def asksT (s : Bs) : Bool := (frontC 35 s).contains 63
def pointsT (s : Bs) : Bool := s.contains 35
def queryT (s : Bs) : Option Bs := cleanP (backC 63 (frontC 35 s))
def fragT (s : Bs) : Option Bs := cleanP (backC 35 s)
def endSet : Bs := [47, 63, 35]
def authP (s : Bs) : Bs := s.takeWhile (fun b => !endSet.contains b)
def restP (s : Bs) : Bs := s.dropWhile (fun b => !endSet.contains b)
def parseB (sch rest : Bs) : Except Int Ur :=
  match placeP sch (authP rest) with
  | none => .error 3
  | some (h, port) =>
    match queryT (restP rest), fragT (restP rest), segsP (splitC 47 (noSl (pathT (restP rest)))) with
    | some q, some f, some l => .ok ⟨sch, h, port, tidyP l, q, asksT (restP rest), f, pointsT (restP rest)⟩
    | _, _, _ => .error 3
def parseP (s : Bs) : Except Int Ur :=
  if 500 < s.length then .error 2
  else match schP s with
    | none => .error 3
    | some (sch, rest) => if rest.take 2 = [47, 47] then parseB sch (rest.drop 2) else .error 3
def portT (n : Int) : Bs := if n = 0 then [] else 58 :: Lib.itoa n
def origP (u : Ur) : Bs := u.sch ++ ([58, 47, 47] ++ (u.host ++ portT u.port))
def textP (u : Ur) : Bs := origP u ++ (u.path.flatMap (fun p => 47 :: encP p) ++ ((if u.asks then 63 :: u.query else []) ++ (if u.points then 35 :: u.frag else [])))
def besideP (b : Ur) (s : Bs) : Except Int Ur :=
  match queryT s, fragT s, segsP (splitC 47 (noSl (pathT s))) with
  | some q, some f, some l =>
    if pathT s = [] then .ok ⟨b.sch, b.host, b.port, b.path, if asksT s then q else b.query, asksT s || b.asks, f, pointsT s⟩
    else if (pathT s).head? = some 47 then .ok ⟨b.sch, b.host, b.port, tidyP l, q, asksT s, f, pointsT s⟩
    else .ok ⟨b.sch, b.host, b.port, tidyP (b.path.dropLast ++ l), q, asksT s, f, pointsT s⟩
  | _, _, _ => .error 3
def aimP (b : Ur) (ref : Bs) : Except Int Ur := if (schP ref).isSome then parseP ref else if ref.take 2 = [47, 47] then parseP (b.sch ++ 58 :: ref) else besideP b ref
def resolveP (base ref : Bs) : Except Int Bs :=
  match parseP base with
  | .error e => .error e
  | .ok b => if 500 < ref.length then .error 2 else
    match aimP b ref with
    | .error e => .error e
    | .ok u => if 500 < (textP u).length then .error 2 else .ok (textP u)
def originP (s : Bs) : Except Int Bs := match parseP s with
  | .error e => .error e
  | .ok u => .ok (origP u)
def checkU (u : Ur) : Int := if 500 < (textP u).length then 2 else match parseP (textP u) with
  | .ok v => if u = v then 0 else 3
  | .error _ => 3
end Go.Proofs.YtjcejijdeohkgaaGreatDoor
