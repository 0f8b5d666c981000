/- Several texts in one: U1, U2, U3, U4, U5, U6, U7. -/
import Derived.Lib.SplitLaws
import Derived.Lib.MapLaws
import Derived.Lib.IndexBytes
import Derived.Lib.CutLaws
import Derived.Lib.SlTrimSet
import Derived.Lib.ItoaNum
import Derived.Lib.AtoiAll
import Derived.Lib.AtoiTie
import Derived.KernelRfl
import Derived.Lib.TrimUEq
/- U1. -/
namespace Go.Proofs.YtjcejijdeohkgaaGreatDoor

abbrev Bs := List UInt8
def bs (l : Bs) : ByteArray := ⟨l.toArray⟩
theorem bs_list (l : Bs) : (bs l).data.toList = l := by simp [bs]
theorem bs_of (s : ByteArray) : bs s.data.toList = s := by simp [bs]
theorem bs_size (l : Bs) : (bs l).size = l.length := by simp [bs, ByteArray.size]
theorem bs_inj {a b : Bs} (h : bs a = bs b) : a = b := by rw [← bs_list a, h, bs_list]
def digs : Bs := [48, 49, 50, 51, 52, 53, 54, 55, 56, 57]
def six : Bs := [48, 49, 50, 51, 52, 53, 54, 55, 56, 57, 65, 66, 67, 68, 69, 70]
/-- Of letters. -/
def letP (c : UInt8) : Bool := (decide (97 ≤ c.toNat) && decide (c.toNat ≤ 122)) || (decide (65 ≤ c.toNat) && decide (c.toNat ≤ 90))
def mildSet : Bs := digs ++ [45, 46, 95, 126]
def plainP (c : UInt8) : Bool := letP c || mildSet.contains c
def hexAt (n : Nat) : UInt8 := six.getD n 0
def tri (c : UInt8) : Bs := [37, hexAt (c.toNat / 16), hexAt (c.toNat % 16)]
def upC (c : UInt8) : UInt8 := if 97 ≤ c.toNat ∧ c.toNat ≤ 102 then c - 32 else c
/-- The value of a digit of sixteen. -/
def valP (c : UInt8) : Int := Lib.indexByte six (upC c)
def readP : Bs → UInt8 × Nat
  | [] => (0, 0)
  | c :: r => if c = 37 then (match r with
      | a :: b :: _ => if valP a < 0 ∨ valP b < 0 then (0, 0) else (UInt8.ofNat ((valP a).toNat * 16 + (valP b).toNat), 3)
      | _ => (0, 0)) else (c, 1)
def unitsF : Nat → Bs → Option (List (UInt8 × Nat))
  | _, [] => some []
  | 0, _ :: _ => none
  | f + 1, c :: r => if (readP (c :: r)).2 = 0 then none else (unitsF f ((c :: r).drop (readP (c :: r)).2)).map (readP (c :: r) :: ·)
def units (s : Bs) : Option (List (UInt8 × Nat)) := unitsF s.length s
def encP (s : Bs) : Bs := s.flatMap fun c => if plainP c then [c] else tri c
def decP (s : Bs) : Option Bs := (units s).map (·.map Prod.fst)
def keptSet : Bs := [33, 36, 38, 39, 40, 41, 42, 43, 44, 59, 61, 58, 64, 47, 63]
def clU (u : UInt8 × Nat) : Bs := if plainP u.1 || (u.2 == 1 && keptSet.contains u.1) then [u.1] else tri u.1
def cleanP (s : Bs) : Option Bs := (units s).map (·.flatMap clU)

theorem unitsF_fuel : ∀ (f g : Nat) (s : Bs), s.length ≤ f → s.length ≤ g → unitsF f s = unitsF g s
  | f, g, [], _, _ => by cases f <;> cases g <;> rfl
  | 0, _, _ :: _, h, _ => by simp at h
  | _ + 1, 0, _ :: _, _, h => by simp at h
  | f + 1, g + 1, c :: r, h1, h2 => by
    unfold unitsF
    by_cases h0 : (readP (c :: r)).2 = 0
    · rw [if_pos h0, if_pos h0]
    · rw [if_neg h0, if_neg h0]
      have hl : ((c :: r).drop (readP (c :: r)).2).length ≤ r.length := by
        rw [List.length_drop, List.length_cons]
        omega
      rw [unitsF_fuel f g _ (by rw [List.length_cons] at h1; omega) (by rw [List.length_cons] at h2; omega)]
theorem units_cons (c : UInt8) (r : Bs) : units (c :: r) = if (readP (c :: r)).2 = 0 then none else (units ((c :: r).drop (readP (c :: r)).2)).map (readP (c :: r) :: ·) := by
  have e : units (c :: r) = unitsF (r.length + 1) (c :: r) := rfl
  rw [e]
  unfold unitsF
  by_cases h0 : (readP (c :: r)).2 = 0
  · rw [if_pos h0, if_pos h0]
  · rw [if_neg h0, if_neg h0]
    have hl : ((c :: r).drop (readP (c :: r)).2).length ≤ r.length := by
      rw [List.length_drop, List.length_cons]
      omega
    unfold units
    rw [unitsF_fuel r.length _ _ hl (Nat.le_refl _)]
theorem units_nil : units [] = some [] := rfl
theorem units_one (c : UInt8) (h : c ≠ 37) (r : Bs) : units (c :: r) = (units r).map ((c, 1) :: ·) := by
  have e : readP (c :: r) = (c, 1) := by simp only [readP]; rw [if_neg h]
  rw [units_cons, e, if_neg (by simp)]
  rfl
theorem hex_val : ∀ n : Fin 16, valP (hexAt n.val) = (n.val : Int) := by decide +kernel
theorem tri_back : ∀ c : Fin 256, UInt8.ofNat ((c.val / 16) * 16 + c.val % 16) = UInt8.ofNat c.val := by decide +kernel
theorem read_tri (c : UInt8) (r : Bs) : readP (tri c ++ r) = (c, 3) := by
  have hc : c.toNat < 256 := c.toNat_lt
  have h1 := hex_val ⟨c.toNat / 16, by omega⟩
  have h2 := hex_val ⟨c.toNat % 16, by omega⟩
  simp only at h1 h2
  show readP (37 :: hexAt (c.toNat / 16) :: hexAt (c.toNat % 16) :: r) = (c, 3)
  simp only [readP, if_true, h1, h2]
  rw [if_neg (by omega), Int.toNat_natCast, Int.toNat_natCast]
  have h3 := tri_back ⟨c.toNat, hc⟩
  simp only at h3
  rw [h3]
  simp
theorem units_tri (c : UInt8) (r : Bs) : units (tri c ++ r) = (units r).map ((c, 3) :: ·) := by
  have e : tri c ++ r = 37 :: (hexAt (c.toNat / 16) :: hexAt (c.toNat % 16) :: r) := rfl
  rw [e, units_cons, ← e, read_tri, if_neg (by simp)]
  rfl
theorem plain_not (c : UInt8) (h : plainP c = true) : c ≠ 37 := by
  rintro rfl
  revert h
  decide
theorem kept_not (c : UInt8) (h : keptSet.contains c = true) : c ≠ 37 := by
  rintro rfl
  revert h
  decide
/-- What a text of units is read as. -/
theorem units_of : ∀ (us : List (UInt8 × Nat)) (g : UInt8 × Nat → Bool), (∀ u ∈ us, g u = true → u.1 ≠ 37) → ∀ r, units (us.flatMap (fun u => if g u then [u.1] else tri u.1) ++ r) = (units r).map (us.map (fun u => (u.1, if g u then 1 else 3)) ++ ·)
  | [], _, _, r => by cases h : units r <;> simp [h]
  | u :: us, g, hg, r => by
    have ih := units_of us g (fun v hv => hg v (List.mem_cons_of_mem _ hv)) r
    rw [List.flatMap_cons, List.append_assoc]
    by_cases h : g u = true
    · rw [if_pos h]
      rw [show [u.1] ++ (us.flatMap (fun u => if g u then [u.1] else tri u.1) ++ r) = u.1 :: (us.flatMap (fun u => if g u then [u.1] else tri u.1) ++ r) from rfl, units_one _ (hg u (by simp) h), ih]
      cases units r <;> simp [h]
    · rw [if_neg h, units_tri, ih]
      cases units r <;> simp [h]
theorem enc_units (s : Bs) : units (encP s) = some (s.map fun c => (c, if plainP c then 1 else 3)) := by
  have h := units_of (s.map fun c => (c, 0)) (fun u => plainP u.1) (fun u _ hu => plain_not _ hu) []
  rw [List.append_nil, units_nil, List.flatMap_map, List.map_map] at h
  simp only [Option.map_some, List.append_nil] at h
  exact h
theorem dec_enc (s : Bs) : decP (encP s) = some s := by
  unfold decP
  rw [enc_units, Option.map_some, List.map_map]
  congr 1
  induction s with
  | nil => rfl
  | cons c s ih => rw [List.map_cons, ih]; rfl
def clG (u : UInt8 × Nat) : Bool := plainP u.1 || (u.2 == 1 && keptSet.contains u.1)
theorem clG_not (u : UInt8 × Nat) (h : clG u = true) : u.1 ≠ 37 := by
  unfold clG at h
  rcases Bool.or_eq_true_iff.1 h with h | h
  · exact plain_not _ h
  · exact kept_not _ (Bool.and_eq_true_iff.1 h).2
theorem clean_units {s q : Bs} (h : cleanP s = some q) : ∃ us, units s = some us ∧ q = us.flatMap clU ∧ units q = some (us.map fun u => (u.1, if clG u then 1 else 3)) := by
  unfold cleanP at h
  obtain ⟨us, h1, h2⟩ := Option.map_eq_some_iff.1 h
  refine ⟨us, h1, h2.symm, ?_⟩
  have h3 := units_of us clG (fun u _ hu => clG_not u hu) []
  rw [List.append_nil, units_nil] at h3
  simp only [Option.map_some, List.append_nil] at h3
  rw [← h2]
  exact h3
/-- What is clean stays. -/
theorem clean_clean {s q : Bs} (h : cleanP s = some q) : cleanP q = some q := by
  obtain ⟨us, hu, h2, h3⟩ := clean_units h
  clear hu
  unfold cleanP
  rw [h3, Option.map_some, h2]
  congr 1
  clear h h2 h3
  induction us with
  | nil => rfl
  | cons u us ih =>
    rw [List.map_cons, List.flatMap_cons, List.flatMap_cons, ih]
    congr 1
    unfold clU
    by_cases h : clG u = true
    · have h' : (plainP u.1 || (u.2 == 1 && keptSet.contains u.1)) = true := h
      rw [if_pos h, if_pos h']
      by_cases hp : plainP u.1 = true
      · simp [hp]
      · have : keptSet.contains u.1 = true := by
          rcases Bool.or_eq_true_iff.1 h' with h1 | h1
          · exact absurd h1 hp
          · exact (Bool.and_eq_true_iff.1 h1).2
        simp only [this]
        simp
    · have h' : ¬ (plainP u.1 || (u.2 == 1 && keptSet.contains u.1)) = true := h
      rw [if_neg h, if_neg h']
      have hp : plainP u.1 = false := by
        cases hq : plainP u.1 with
        | false => rfl
        | true => rw [hq] at h'; simp at h'
      simp [hp]
theorem clean_nil : cleanP [] = some [] := rfl
/-- Bytes of what is clean. -/
theorem tri_mem {c b : UInt8} (h : b ∈ tri c) : b = 37 ∨ b ∈ six := by
  have key : ∀ n, hexAt n = 0 ∨ hexAt n ∈ six := by
    intro n
    unfold hexAt
    by_cases hn : n < six.length
    · right
      rw [List.getD_eq_getElem?_getD, List.getElem?_eq_getElem hn]
      exact List.getElem_mem hn
    · left
      rw [List.getD_eq_getElem?_getD, List.getElem?_eq_none (by omega)]
      rfl
  have hc : c.toNat < 256 := c.toNat_lt
  have k2 : ∀ n, n < 16 → hexAt n ∈ six := by
    intro n hn
    unfold hexAt
    have hn' : n < six.length := hn
    rw [List.getD_eq_getElem?_getD, List.getElem?_eq_getElem hn']
    exact List.getElem_mem hn'
  simp only [tri, List.mem_cons, List.not_mem_nil, or_false] at h
  rcases h with rfl | rfl | rfl
  · exact .inl rfl
  · exact .inr (k2 _ (by omega))
  · exact .inr (k2 _ (by omega))
theorem clean_bytes {s q : Bs} (h : cleanP s = some q) : ∀ b ∈ q, plainP b = true ∨ keptSet.contains b = true ∨ b = 37 := by
  obtain ⟨us, _, rfl, _⟩ := clean_units h
  intro b hb
  obtain ⟨u, _, hu⟩ := List.mem_flatMap.1 hb
  unfold clU at hu
  split at hu
  · rename_i h1
    rw [List.mem_singleton] at hu
    subst hu
    rcases Bool.or_eq_true_iff.1 h1 with h1 | h1
    · exact .inl h1
    · exact .inr (.inl (Bool.and_eq_true_iff.1 h1).2)
  · rcases tri_mem hu with h1 | h1
    · exact .inr (.inr h1)
    · left
      have : ∀ x ∈ six, plainP x = true := by decide
      exact this b h1
theorem enc_bytes (s : Bs) : ∀ b ∈ encP s, plainP b = true ∨ b = 37 := by
  intro b hb
  obtain ⟨c, _, hc⟩ := List.mem_flatMap.1 hb
  split at hc
  · rename_i h1
    rw [List.mem_singleton] at hc
    subst hc
    exact .inl h1
  · rcases tri_mem hc with h1 | h1
    · exact .inr h1
    · left
      have : ∀ x ∈ six, plainP x = true := by decide
      exact this b h1
end Go.Proofs.YtjcejijdeohkgaaGreatDoor
/- U2. -/
namespace Go.Proofs.YtjcejijdeohkgaaGreatDoor

def splitC (c : UInt8) : Bs → List Bs
  | [] => [[]]
  | b :: r => if b = c then [] :: splitC c r else (match splitC c r with
    | [] => [[b]]
    | p :: ps => (b :: p) :: ps)
theorem splitC_not {c : UInt8} : ∀ {s : Bs}, c ∉ s → splitC c s = [s]
  | [], _ => rfl
  | b :: r, h => by
    have hb : ¬ b = c := fun e => h (by rw [e]; simp)
    unfold splitC
    rw [if_neg hb, splitC_not (fun h' => h (List.mem_cons_of_mem _ h'))]
theorem splitC_cut {c : UInt8} : ∀ {a : Bs} (b : Bs), c ∉ a → splitC c (a ++ c :: b) = a :: splitC c b
  | [], b, _ => by
    show splitC c (c :: b) = _
    rw [splitC, if_pos rfl]
  | x :: a, b, h => by
    have hx : ¬ x = c := fun e => h (by rw [e]; simp)
    show splitC c (x :: (a ++ c :: b)) = _
    rw [splitC, if_neg hx, splitC_cut b (fun h' => h (List.mem_cons_of_mem _ h'))]
theorem splitC_ne (c : UInt8) (s : Bs) : splitC c s ≠ [] := by
  cases s with
  | nil => simp [splitC]
  | cons b r =>
    unfold splitC
    split
    · simp
    · split <;> simp
def frontC (c : UInt8) (s : Bs) : Bs := s.takeWhile (· != c)
def backC (c : UInt8) (s : Bs) : Bs := (s.dropWhile (· != c)).drop 1
theorem front_not {c : UInt8} : ∀ {s : Bs}, c ∉ s → frontC c s = s ∧ backC c s = []
  | [], _ => ⟨rfl, rfl⟩
  | b :: r, h => by
    have hb : (b != c) = true := by
      simp only [bne_iff_ne, ne_eq]
      exact fun e => h (by rw [e]; simp)
    obtain ⟨h1, h2⟩ := front_not (s := r) (fun h' => h (List.mem_cons_of_mem _ h'))
    unfold frontC backC at *
    rw [List.takeWhile_cons, if_pos hb, List.dropWhile_cons, if_pos hb, h1]
    exact ⟨rfl, h2⟩
theorem front_cut {c : UInt8} : ∀ {a : Bs} (b : Bs), c ∉ a → frontC c (a ++ c :: b) = a ∧ backC c (a ++ c :: b) = b
  | [], b, _ => by
    unfold frontC backC
    simp
  | x :: a, b, h => by
    have hx : (x != c) = true := by
      simp only [bne_iff_ne, ne_eq]
      exact fun e => h (by rw [e]; simp)
    obtain ⟨h1, h2⟩ := front_cut (a := a) b (fun h' => h (List.mem_cons_of_mem _ h'))
    unfold frontC backC at *
    rw [List.cons_append, List.takeWhile_cons, if_pos hx, List.dropWhile_cons, if_pos hx, h1]
    exact ⟨rfl, h2⟩
theorem front_free (c : UInt8) : ∀ (s : Bs), c ∉ frontC c s
  | [] => by intro h; cases h
  | b :: r => by
    intro h
    unfold frontC at h
    rw [List.takeWhile_cons] at h
    split at h
    · rename_i hb
      rcases List.mem_cons.1 h with h | h
      · subst h; simp at hb
      · exact front_free c r h
    · cases h
def schSet : Bs := digs ++ [43, 45, 46]
def schK : Nat → Bs → Option Nat
  | _, [] => none
  | k, c :: r => if c = 58 ∧ 0 < k then some k else if letP c = false ∧ (k = 0 ∨ schSet.contains c = false) then none else schK (k + 1) r
def smR (r : Int) : Int := if 65 ≤ r ∧ r ≤ 90 then r + 32 else r
def smallP (s : Bs) : Bs := Lib.mapD smR s
def schP (s : Bs) : Option (Bs × Bs) := (schK 0 s).map fun k => (smallP (s.take k), s.drop (k + 1))
def lowSet : Bs := [97, 98, 99, 100, 101, 102, 103, 104, 105, 106, 107, 108, 109, 110, 111, 112, 113, 114, 115, 116, 117, 118, 119, 120, 121, 122]
def hostSet : Bs := lowSet ++ digs ++ [45]
def hostP (h : Bs) : Bool := decide (h.length ≤ 100) && (splitC 46 h).all (fun p => !p.isEmpty && (Lib.trimS p hostSet).isEmpty)
def httpB : Bs := [104, 116, 116, 112]
def ownP (sch : Bs) : Int := if sch = httpB then 80 else if sch = httpB ++ [115] then 443 else 0
def numP (p : Bs) : Int := match Lib.atoiAll p with
  | .ok n => n
  | _ => 0
def placeP (sch s : Bs) : Option (Bs × Int) :=
  if hostP (smallP (frontC 58 s)) = false then none
  else if s.contains 58 = false then some (smallP (frontC 58 s), 0)
  else if (backC 58 s).length < 1 ∨ 5 < (backC 58 s).length ∨ Lib.trimS (backC 58 s) digs ≠ [] then none
  else if numP (backC 58 s) < 1 ∨ 65535 < numP (backC 58 s) then none
  else some (smallP (frontC 58 s), if numP (backC 58 s) = ownP sch then 0 else numP (backC 58 s))
def tidyF : List Bs → List Bs → List Bs
  | out, [] => out
  | out, s :: r => if s = [46] ∨ s = [46, 46] then (if r = [] then tidyF ((if s = [46, 46] then out.dropLast else out) ++ [[]]) r else tidyF (if s = [46, 46] then out.dropLast else out) r) else tidyF (out ++ [s]) r
def tidyP (l : List Bs) : List Bs := if tidyF [] l = [] then [[]] else tidyF [] l
def segsP : List Bs → Option (List Bs)
  | [] => some []
  | p :: ps => match decP p with
    | none => none
    | some d => (segsP ps).map (d :: ·)
def noSl (p : Bs) : Bs := if p.head? = some 47 then p.drop 1 else p
structure Ur where
  sch : Bs
  host : Bs
  port : Int
  path : List Bs
  query : Bs
  asks : Bool
  frag : Bs
  points : Bool
deriving DecidableEq
def pathT (s : Bs) : Bs := frontC 63 (frontC 35 s)
def asksT (s : Bs) : Bool := (frontC 35 s).contains 63
def pointsT (s : Bs) : Bool := s.contains 35
def queryT (s : Bs) : Option Bs := cleanP (backC 63 (frontC 35 s))
def fragT (s : Bs) : Option Bs := cleanP (backC 35 s)
def endSet : Bs := [47, 63, 35]
def authP (s : Bs) : Bs := s.takeWhile (fun b => !endSet.contains b)
def restP (s : Bs) : Bs := s.dropWhile (fun b => !endSet.contains b)
def parseB (sch rest : Bs) : Except Int Ur :=
  match placeP sch (authP rest) with
  | none => .error 3
  | some (h, port) =>
    match queryT (restP rest), fragT (restP rest), segsP (splitC 47 (noSl (pathT (restP rest)))) with
    | some q, some f, some l => .ok ⟨sch, h, port, tidyP l, q, asksT (restP rest), f, pointsT (restP rest)⟩
    | _, _, _ => .error 3
def parseP (s : Bs) : Except Int Ur :=
  if 500 < s.length then .error 2
  else match schP s with
    | none => .error 3
    | some (sch, rest) => if rest.take 2 = [47, 47] then parseB sch (rest.drop 2) else .error 3
def portT (n : Int) : Bs := if n = 0 then [] else 58 :: Lib.itoa n
def origP (u : Ur) : Bs := u.sch ++ ([58, 47, 47] ++ (u.host ++ portT u.port))
def textP (u : Ur) : Bs := origP u ++ (u.path.flatMap (fun p => 47 :: encP p) ++ ((if u.asks then 63 :: u.query else []) ++ (if u.points then 35 :: u.frag else [])))
def besideP (b : Ur) (s : Bs) : Except Int Ur :=
  match queryT s, fragT s, segsP (splitC 47 (noSl (pathT s))) with
  | some q, some f, some l =>
    if pathT s = [] then .ok ⟨b.sch, b.host, b.port, b.path, if asksT s then q else b.query, asksT s || b.asks, f, pointsT s⟩
    else if (pathT s).head? = some 47 then .ok ⟨b.sch, b.host, b.port, tidyP l, q, asksT s, f, pointsT s⟩
    else .ok ⟨b.sch, b.host, b.port, tidyP (b.path.dropLast ++ l), q, asksT s, f, pointsT s⟩
  | _, _, _ => .error 3
def aimP (b : Ur) (ref : Bs) : Except Int Ur := if (schP ref).isSome then parseP ref else if ref.take 2 = [47, 47] then parseP (b.sch ++ 58 :: ref) else besideP b ref
def resolveP (base ref : Bs) : Except Int Bs :=
  match parseP base with
  | .error e => .error e
  | .ok b => if 500 < ref.length then .error 2 else
    match aimP b ref with
    | .error e => .error e
    | .ok u => if 500 < (textP u).length then .error 2 else .ok (textP u)
def originP (s : Bs) : Except Int Bs := match parseP s with
  | .error e => .error e
  | .ok u => .ok (origP u)
def checkU (u : Ur) : Int := if 500 < (textP u).length then 2 else match parseP (textP u) with
  | .ok v => if u = v then 0 else 3
  | .error _ => 3
end Go.Proofs.YtjcejijdeohkgaaGreatDoor
/- U3. -/
namespace Go.Proofs.YtjcejijdeohkgaaGreatDoor

def lowC (c : UInt8) : UInt8 := if 65 ≤ c.toNat ∧ c.toNat ≤ 90 then c + 32 else c
theorem decode_asc (c : UInt8) (r : Bs) (h : c.toNat < 128) : Lib.decodeL (c :: r) = (c.toNat, 1) := by
  rw [Lib.decodeL_N]
  unfold Lib.decodeN
  simp [h]
theorem small_cons (c : UInt8) (r : Bs) (h : c.toNat < 128) : smallP (c :: r) = lowC c :: smallP r := by
  unfold smallP
  rw [Lib.mapD_step _ _ (by simp), decode_asc c r h]
  have hd : (c :: r).drop 1 = r := rfl
  simp only [hd]
  have h0 : 0 ≤ smR (c.toNat : Int) := by unfold smR; split <;> omega
  have h1 : smR (c.toNat : Int) ≤ 127 := by unfold smR; split <;> omega
  rw [if_pos h0]
  have e : Lib.encodeRune (smR (c.toNat : Int)) = [lowC c] := by
    unfold Lib.encodeRune
    rw [Lib.encodeRuneZ_one h0 h1]
    have key : ∀ d : Fin 128, (smR (d.val : Int)).toNat.toUInt8 = lowC (UInt8.ofNat d.val) := by decide +kernel
    have := key ⟨c.toNat, h⟩
    simp only at this
    rw [List.map_cons, List.map_nil, this]
    simp
  rw [e]
  rfl
theorem small_asc : ∀ (s : Bs), (∀ c ∈ s, c.toNat < 128) → smallP s = s.map lowC
  | [], _ => rfl
  | c :: r, h => by rw [small_cons c r (h c (by simp)), small_asc r (fun x hx => h x (List.mem_cons_of_mem _ hx)), List.map_cons]
theorem let_asc : ∀ c : UInt8, letP c = true → c.toNat < 128 ∧ lowC c ∈ lowSet ∧ c ≠ 58 := by
  have key : ∀ d : Fin 256, letP (UInt8.ofNat d.val) = true → d.val < 128 ∧ lowC (UInt8.ofNat d.val) ∈ lowSet ∧ UInt8.ofNat d.val ≠ 58 := by decide +kernel
  intro c hc
  have := key ⟨c.toNat, c.toNat_lt⟩
  simp only [UInt8.ofNat_toNat] at this
  exact this hc
theorem sch_asc : ∀ c ∈ schSet, c.toNat < 128 ∧ lowC c = c ∧ c ≠ 58 := by decide
theorem low_let : ∀ c ∈ lowSet, letP c = true ∧ lowC c = c := by decide
theorem host_low : ∀ c ∈ hostSet, c.toNat < 128 ∧ lowC c = c ∧ c ≠ 58 ∧ endSet.contains c = false := by decide
theorem dig_low : ∀ c ∈ digs, c ≠ 58 ∧ endSet.contains c = false := by decide
/-- A scheme's rest. -/
def SchR (x : UInt8) : Prop := x ∈ lowSet ∨ x ∈ schSet
theorem schR_low {x : UInt8} (h : SchR x) : lowC x = x := by
  rcases h with h | h
  · exact (low_let x h).2
  · exact (sch_asc x h).2.1
theorem schR_asc {x : UInt8} (h : SchR x) : x.toNat < 128 := by
  rcases h with h | h
  · exact (let_asc x (low_let x h).1).1
  · exact (sch_asc x h).1
theorem schK_at : ∀ (s : Bs) (k : Nat) (m : Nat), schK k s = some m → k ≤ m ∧ m - k < s.length ∧ s[m - k]? = some 58 ∧ 0 < m ∧ ∀ (j : Nat) x, j < m - k → s[j]? = some x → (letP x = true ∨ (0 < k + j ∧ schSet.contains x = true))
  | [], k, m, h => by cases h
  | c :: r, k, m, h => by
    unfold schK at h
    split at h
    · rename_i h1
      have e : k = m := Option.some.inj h
      subst e
      rw [Nat.sub_self]
      exact ⟨Nat.le_refl _, by simp, by rw [h1.1]; rfl, h1.2, fun j x hj => by omega⟩
    · rename_i h1
      split at h
      · cases h
      · rename_i h2
        obtain ⟨i1, i2, i3, i4, i5⟩ := schK_at r (k + 1) m h
        have e : m - k = (m - (k + 1)) + 1 := by omega
        refine ⟨by omega, by rw [e, List.length_cons]; omega, by rw [e]; exact i3, i4, fun j x hj hx => ?_⟩
        cases j with
        | zero =>
          have hc : c = x := by simpa using hx
          subst hc
          by_cases hl : letP c = true
          · exact .inl hl
          · right
            have hl' : letP c = false := by simpa using hl
            refine ⟨?_, ?_⟩
            · rcases Nat.eq_zero_or_pos k with h0 | h0
              · exact absurd ⟨hl', .inl h0⟩ h2
              · omega
            · cases hs : schSet.contains c with
              | true => rfl
              | false => exact absurd ⟨hl', .inr hs⟩ h2
        | succ j =>
          have := i5 j x (by omega) (by simpa using hx)
          rcases this with h3 | ⟨h3, h4⟩
          · exact .inl h3
          · exact .inr ⟨by omega, h4⟩
/-- What scheme cuts off. -/
theorem sch_good {s sch rest : Bs} (h : schP s = some (sch, rest)) : ∃ c r, sch = c :: r ∧ c ∈ lowSet ∧ ∀ x ∈ r, SchR x := by
  unfold schP at h
  obtain ⟨k, h1, h2⟩ := Option.map_eq_some_iff.1 h
  injection h2 with h2 _
  obtain ⟨_, i2, _, i4, i5⟩ := schK_at s 0 k h1
  rw [Nat.sub_zero] at i2 i5
  have good : ∀ x ∈ s.take k, x.toNat < 128 ∧ SchR (lowC x) := by
    intro x hx
    obtain ⟨j, hj, e⟩ := List.mem_iff_getElem.1 hx
    rw [List.length_take] at hj
    have hx2 : s[j]? = some x := by
      rw [← e, List.getElem_take, List.getElem?_eq_getElem]
    rcases i5 j x (by omega) hx2 with h3 | ⟨_, h3⟩
    · exact ⟨(let_asc x h3).1, .inl (let_asc x h3).2.1⟩
    · have h4 : x ∈ schSet := by simpa using h3
      exact ⟨(sch_asc x h4).1, .inr (by rw [(sch_asc x h4).2.1]; exact h4)⟩
  rw [small_asc _ (fun x hx => (good x hx).1)] at h2
  cases s with
  | nil => simp at i2
  | cons c r =>
    obtain ⟨m, rfl⟩ : ∃ m, k = m + 1 := ⟨k - 1, by omega⟩
    rw [List.take_succ_cons, List.map_cons] at h2
    refine ⟨lowC c, (r.take m).map lowC, h2.symm, ?_, fun x hx => ?_⟩
    · rcases i5 0 c (by omega) rfl with h3 | ⟨h3, _⟩
      · exact (let_asc c h3).2.1
      · omega
    · obtain ⟨y, hy, rfl⟩ := List.mem_map.1 hx
      exact (good y (by rw [List.take_succ_cons]; exact List.mem_cons_of_mem _ hy)).2
theorem schK_run : ∀ (r rest : Bs) (k : Nat), 0 < k → (∀ x ∈ r, SchR x) → schK k (r ++ 58 :: rest) = some (k + r.length)
  | [], rest, k, hk, _ => by
    show schK k (58 :: rest) = _
    unfold schK
    rw [if_pos ⟨rfl, hk⟩]
    rfl
  | c :: r, rest, k, hk, h => by
    show schK k (c :: (r ++ 58 :: rest)) = _
    have hc := h c (by simp)
    have h58 : c ≠ 58 := by
      rcases hc with hc | hc
      · exact (let_asc c (low_let c hc).1).2.2
      · exact (sch_asc c hc).2.2
    unfold schK
    rw [if_neg (fun e => h58 e.1), if_neg, schK_run r rest (k + 1) (by omega) (fun x hx => h x (List.mem_cons_of_mem _ hx))]
    · rw [List.length_cons]; congr 1; omega
    · rintro ⟨h1, h2⟩
      rcases hc with hc | hc
      · rw [(low_let c hc).1] at h1; cases h1
      · rcases h2 with h2 | h2
        · omega
        · rw [show schSet.contains c = true by simpa using hc] at h2; cases h2
theorem sch_run {c : UInt8} {r : Bs} (rest : Bs) (h1 : c ∈ lowSet) (h2 : ∀ x ∈ r, SchR x) : schP ((c :: r) ++ 58 :: rest) = some (c :: r, rest) := by
  unfold schP
  have e : schK 0 ((c :: r) ++ 58 :: rest) = some (1 + r.length) := by
    show schK 0 (c :: (r ++ 58 :: rest)) = _
    unfold schK
    rw [if_neg (by omega), if_neg, schK_run r rest 1 (by omega) h2]
    rintro ⟨h3, _⟩
    rw [(low_let c h1).1] at h3
    cases h3
  rw [e, Option.map_some]
  have e2 : ((c :: r) ++ 58 :: rest).take (1 + r.length) = c :: r := by
    rw [List.take_append_of_le_length (by simp; omega)]
    exact List.take_of_length_le (by simp; omega)
  have e3 : ((c :: r) ++ 58 :: rest).drop (1 + r.length + 1) = rest := by
    rw [show 1 + r.length + 1 = (c :: r).length + 1 by simp; omega, List.drop_append]
    simp
  rw [e2, e3]
  have e4 : smallP (c :: r) = c :: r := by
    have hs : ∀ x ∈ c :: r, SchR x := fun x hx => by
      rcases List.mem_cons.1 hx with rfl | hx
      · exact .inl h1
      · exact h2 x hx
    rw [small_asc _ (fun x hx => schR_asc (hs x hx))]
    have : ∀ l : Bs, (∀ x ∈ l, lowC x = x) → l.map lowC = l := by
      intro l hl
      induction l with
      | nil => rfl
      | cons a l ih => rw [List.map_cons, hl a (by simp), ih (fun x hx => hl x (List.mem_cons_of_mem _ hx))]
    exact this _ (fun x hx => schR_low (hs x hx))
  rw [e4]
end Go.Proofs.YtjcejijdeohkgaaGreatDoor
/- U4. -/
namespace Go.Proofs.YtjcejijdeohkgaaGreatDoor

theorem dropW_nil {p : UInt8 → Bool} : ∀ {l : Bs}, l.dropWhile p = [] → ∀ x ∈ l, p x = true
  | [], _, x, hx => by cases hx
  | a :: l, h, x, hx => by
    rw [List.dropWhile_cons] at h
    split at h
    · rename_i ha
      rcases List.mem_cons.1 hx with rfl | hx
      · exact ha
      · exact dropW_nil h x hx
    · cases h
theorem dropW_all {p : UInt8 → Bool} : ∀ {l : Bs}, (∀ x ∈ l, p x = true) → l.dropWhile p = []
  | [], _ => rfl
  | a :: l, h => by
    rw [List.dropWhile_cons, if_pos (h a (by simp))]
    exact dropW_all (fun x hx => h x (List.mem_cons_of_mem _ hx))
theorem dropW_mem {p : UInt8 → Bool} : ∀ {l : Bs} {x : UInt8}, x ∈ l → x ∈ l.dropWhile p ∨ p x = true
  | [], x, hx => by cases hx
  | a :: l, x, hx => by
    rw [List.dropWhile_cons]
    split
    · rename_i ha
      rcases List.mem_cons.1 hx with rfl | hx
      · exact .inr ha
      · exact dropW_mem hx
    · exact .inl hx
theorem trim_iff (l cs : Bs) : Lib.trimS l cs = [] ↔ ∀ x ∈ l, x ∈ cs := by
  unfold Lib.trimS Lib.trimLeftS Lib.trimRightS
  constructor
  · intro h x hx
    have h2 := dropW_nil h
    rcases dropW_mem (p := (cs.contains ·)) (List.mem_reverse.2 hx) with h3 | h3
    · have := h2 x (List.mem_reverse.2 h3)
      simpa using this
    · simpa using h3
  · intro h
    have e : l.reverse.dropWhile (cs.contains ·) = [] := dropW_all (fun x hx => by simpa using h x (List.mem_reverse.1 hx))
    rw [e]
    rfl
theorem splitC_mem {c : UInt8} : ∀ {s : Bs} {b : UInt8}, b ∈ s → b = c ∨ ∃ p ∈ splitC c s, b ∈ p
  | [], b, h => by cases h
  | a :: r, b, h => by
    by_cases ha : a = c
    · subst ha
      rcases List.mem_cons.1 h with rfl | h
      · exact .inl rfl
      · rcases splitC_mem (c := a) h with h1 | ⟨p, hp, hb⟩
        · exact .inl h1
        · refine .inr ⟨p, ?_, hb⟩
          unfold splitC
          rw [if_pos rfl]
          exact List.mem_cons_of_mem _ hp
    · rcases List.mem_cons.1 h with rfl | h
      · right
        unfold splitC
        rw [if_neg ha]
        cases hs : splitC c r with
        | nil => exact ⟨[b], by simp, by simp⟩
        | cons p ps => exact ⟨b :: p, by simp, by simp⟩
      · rcases splitC_mem (c := c) h with h1 | ⟨p, hp, hb⟩
        · exact .inl h1
        · right
          unfold splitC
          rw [if_neg ha]
          cases hs : splitC c r with
          | nil => rw [hs] at hp; cases hp
          | cons q ps =>
            rw [hs] at hp
            rcases List.mem_cons.1 hp with rfl | hp
            · exact ⟨a :: p, by simp, List.mem_cons_of_mem _ hb⟩
            · exact ⟨p, by simp [hp], hb⟩
theorem host_chars {h : Bs} (hh : hostP h = true) : ∀ b ∈ h, b ∈ hostSet ∨ b = 46 := by
  unfold hostP at hh
  rw [Bool.and_eq_true, List.all_eq_true] at hh
  intro b hb
  rcases splitC_mem (c := 46) hb with h1 | ⟨p, hp, hb⟩
  · exact .inr h1
  · left
    have := hh.2 p hp
    rw [Bool.and_eq_true] at this
    have e : Lib.trimS p hostSet = [] := by simpa using this.2
    exact (trim_iff _ _).1 e b hb
theorem host_ok {b : UInt8} (h : b ∈ hostSet ∨ b = 46) : b.toNat < 128 ∧ lowC b = b ∧ b ≠ 58 ∧ endSet.contains b = false := by
  rcases h with h | rfl
  · exact host_low b h
  · decide
theorem map_low : ∀ {l : Bs}, (∀ x ∈ l, lowC x = x) → l.map lowC = l
  | [], _ => rfl
  | a :: l, h => by rw [List.map_cons, h a (by simp), map_low (fun x hx => h x (List.mem_cons_of_mem _ hx))]
theorem host_small {h : Bs} (hh : hostP h = true) : smallP h = h := by
  have k := host_chars hh
  rw [small_asc _ (fun c hc => (host_ok (k c hc)).1), map_low (fun c hc => (host_ok (k c hc)).2.1)]
theorem decFrom_app : ∀ (a b : Bs) (n : Nat), Lib.decFrom n (a ++ b) = (Lib.decFrom n a).bind (fun v => Lib.decFrom v b)
  | [], b, n => rfl
  | c :: a, b, n => by
    have e : ∀ l, Lib.decFrom n (c :: l) = match Lib.digitVal c with
      | some d => Lib.decFrom (n * 10 + d) l
      | none => none := fun l => by rw [Lib.decFrom]; rfl
    rw [List.cons_append, e, e]
    cases h : Lib.digitVal c with
    | none => rfl
    | some d => exact decFrom_app a b _
theorem dig_val : ∀ n : Fin 10, Lib.digitVal (UInt8.ofNat (48 + n.val)) = some n.val := by decide
theorem dig_mem : ∀ n : Fin 10, UInt8.ofNat (48 + n.val) ∈ digs := by decide
theorem dec_back (u : Nat) : Lib.decFrom 0 (Lib.decDigits u) = some u := by
  induction u using Nat.strongRecOn with
  | _ u ih =>
    rw [Lib.decDigits]
    split
    · rename_i h
      have := dig_val ⟨u, h⟩
      simp only at this
      unfold Lib.decFrom
      rw [this]
      simp only [Nat.zero_mul, Nat.zero_add]
      rfl
    · rename_i h
      rw [decFrom_app, ih (u / 10) (by omega)]
      have := dig_val ⟨u % 10, by omega⟩
      simp only at this
      show Lib.decFrom (u / 10) [UInt8.ofNat (48 + u % 10)] = _
      unfold Lib.decFrom
      rw [this]
      show some (u / 10 * 10 + u % 10) = some u
      congr 1
      omega
theorem dec_mem (u : Nat) : ∀ b ∈ Lib.decDigits u, b ∈ digs := by
  induction u using Nat.strongRecOn with
  | _ u ih =>
    intro b hb
    rw [Lib.decDigits] at hb
    split at hb
    · rename_i h
      rw [List.mem_singleton] at hb
      subst hb
      exact dig_mem ⟨u, h⟩
    · rename_i h
      rcases List.mem_append.1 hb with hb | hb
      · exact ih (u / 10) (by omega) b hb
      · rw [List.mem_singleton] at hb
        subst hb
        exact dig_mem ⟨u % 10, by omega⟩
theorem dec_len : ∀ (k u : Nat), u < 10 ^ (k + 1) → (Lib.decDigits u).length ≤ k + 1
  | 0, u, h => by
    rw [Lib.decDigits, dif_pos (by simpa using h)]
    simp
  | k + 1, u, h => by
    rw [Lib.decDigits]
    split
    · simp
    · have h2 : u < 10 ^ (k + 1) * 10 := by rw [← Nat.pow_succ]; exact h
      have := dec_len k (u / 10) (Nat.div_lt_of_lt_mul (by rw [Nat.mul_comm]; exact h2))
      rw [List.length_append]
      simp only [List.length_cons, List.length_nil]
      omega
theorem dec_ne (u : Nat) : Lib.decDigits u ≠ [] := by
  rw [Lib.decDigits]
  split <;> simp
theorem num_dec (u : Nat) (h : u < 65536) : numP (Lib.decDigits u) = (u : Int) := by
  have hl : (Lib.decDigits u).length ≤ 5 := dec_len 4 u (by omega)
  have e := Lib.parseUint10_short (Lib.decDigits u) 0 0 (by decide) (by omega)
  rw [dec_back] at e
  have hp : Lib.parseMag (Lib.decDigits u) = .ok u := by
    unfold Lib.parseMag
    rw [if_neg (dec_ne u), e]
    rfl
  unfold numP
  have hm := dec_mem u
  cases hd : Lib.decDigits u with
  | nil => exact absurd hd (dec_ne u)
  | cons c r =>
    rw [hd] at hp hm
    have hc : c ∈ digs := hm c (by simp)
    have h43 : ∀ x ∈ digs, x.toNat ≠ 43 ∧ x.toNat ≠ 45 := by decide
    obtain ⟨n1, n2⟩ := h43 c hc
    have e2 : Lib.atoiAll (c :: r) = .ok (u : Int) := by
      unfold Lib.atoiAll
      simp only [n1, n2, or_self, if_false, hp]
      rw [if_neg (by omega)]
      simp
    rw [e2]
def NoDot (p : Bs) : Prop := p ≠ [46] ∧ p ≠ [46, 46]
theorem tidyF_good : ∀ (l out : List Bs), (∀ p ∈ out, NoDot p) → ∀ p ∈ tidyF out l, NoDot p
  | [], out, h => by unfold tidyF; exact h
  | s :: r, out, h => by
    unfold tidyF
    have hd : ∀ p ∈ (if s = [46, 46] then out.dropLast else out), NoDot p := by
      split
      · exact fun p hp => h p (List.dropLast_subset _ hp)
      · exact h
    split
    · split
      · refine tidyF_good r _ (fun p hp => ?_)
        rcases List.mem_append.1 hp with hp | hp
        · exact hd p hp
        · rw [List.mem_singleton] at hp
          subst hp
          exact ⟨by simp, by simp⟩
      · exact tidyF_good r _ hd
    · rename_i hs
      refine tidyF_good r _ (fun p hp => ?_)
      rcases List.mem_append.1 hp with hp | hp
      · exact h p hp
      · rw [List.mem_singleton] at hp
        subst hp
        exact ⟨fun e => hs (.inl e), fun e => hs (.inr e)⟩
theorem tidyF_id : ∀ (l out : List Bs), (∀ p ∈ l, NoDot p) → tidyF out l = out ++ l
  | [], out, _ => by unfold tidyF; rw [List.append_nil]
  | s :: r, out, h => by
    unfold tidyF
    have hs := h s (by simp)
    rw [if_neg (fun e => e.elim hs.1 hs.2), tidyF_id r _ (fun p hp => h p (List.mem_cons_of_mem _ hp)), List.append_assoc]
    rfl
theorem tidy_good (l : List Bs) : tidyP l ≠ [] ∧ ∀ p ∈ tidyP l, NoDot p := by
  unfold tidyP
  split
  · refine ⟨by simp, fun p hp => ?_⟩
    rw [List.mem_singleton] at hp
    subst hp
    exact ⟨by simp, by simp⟩
  · rename_i h
    exact ⟨h, tidyF_good l [] (fun p hp => by cases hp)⟩
theorem tidy_id {l : List Bs} (h0 : l ≠ []) (h : ∀ p ∈ l, NoDot p) : tidyP l = l := by
  unfold tidyP
  rw [tidyF_id l [] h, List.nil_append, if_neg h0]
theorem enc_free (p : Bs) {c : UInt8} (h1 : plainP c = false) (h2 : c ≠ 37) : c ∉ encP p := by
  intro h
  rcases enc_bytes p c h with h | h
  · rw [h1] at h; cases h
  · exact h2 h
theorem clean_free {s q : Bs} (h : cleanP s = some q) {c : UInt8} (h1 : plainP c = false) (h2 : keptSet.contains c = false) (h3 : c ≠ 37) : c ∉ q := by
  intro hc
  rcases clean_bytes h c hc with h4 | h4 | h4
  · rw [h1] at h4; cases h4
  · rw [h2] at h4; cases h4
  · exact h3 h4
/-- Segments, as they are written. -/
def joinT (l : List Bs) : Bs := l.flatMap (fun p => 47 :: encP p)
theorem split_join : ∀ (p : Bs) (l : List Bs), splitC 47 (encP p ++ joinT l) = encP p :: (l.map encP)
  | p, [] => by
    have : joinT [] = [] := rfl
    rw [this, List.append_nil]
    exact splitC_not (enc_free p (by decide) (by decide))
  | p, q :: l => by
    have e : joinT (q :: l) = 47 :: (encP q ++ joinT l) := rfl
    rw [e, splitC_cut _ (enc_free p (by decide) (by decide)), split_join q l, List.map_cons]
theorem segs_enc : ∀ (l : List Bs), segsP (l.map encP) = some l
  | [] => rfl
  | p :: l => by
    rw [List.map_cons, segsP, dec_enc]
    simp only [segs_enc l]
    rfl
theorem join_free (l : List Bs) {c : UInt8} (h0 : c ≠ 47) (h1 : plainP c = false) (h2 : c ≠ 37) : c ∉ joinT l := by
  intro h
  obtain ⟨p, _, hp⟩ := List.mem_flatMap.1 h
  rcases List.mem_cons.1 hp with hp | hp
  · exact h0 hp
  · exact enc_free p h1 h2 hp
end Go.Proofs.YtjcejijdeohkgaaGreatDoor
/- U5. -/
namespace Go.Proofs.YtjcejijdeohkgaaGreatDoor

structure Good (u : Ur) : Prop where
  sch : ∃ c r, u.sch = c :: r ∧ c ∈ lowSet ∧ ∀ x ∈ r, SchR x
  host : hostP u.host = true
  port : u.port = 0 ∨ (1 ≤ u.port ∧ u.port ≤ 65535 ∧ u.port ≠ ownP u.sch)
  path : u.path ≠ [] ∧ ∀ p ∈ u.path, NoDot p
  query : cleanP u.query = some u.query ∧ (u.asks = false → u.query = [])
  frag : cleanP u.frag = some u.frag ∧ (u.points = false → u.frag = [])
theorem place_good {sch s h : Bs} {n : Int} (hp : placeP sch s = some (h, n)) : hostP h = true ∧ (n = 0 ∨ (1 ≤ n ∧ n ≤ 65535 ∧ n ≠ ownP sch)) := by
  unfold placeP at hp
  split at hp
  · cases hp
  · rename_i h1
    have h1' : hostP (smallP (frontC 58 s)) = true := by simpa using h1
    split at hp
    · injection hp with hp
      injection hp with e1 e2
      rw [← e1, ← e2]
      exact ⟨h1', .inl rfl⟩
    · split at hp
      · cases hp
      · split at hp
        · cases hp
        · rename_i h4
          injection hp with hp
          injection hp with e1 e2
          rw [← e1, ← e2]
          refine ⟨h1', ?_⟩
          split
          · exact .inl rfl
          · rename_i h5
            exact .inr ⟨by omega, by omega, h5⟩
theorem backC_nil {c : UInt8} {s : Bs} (h : s.contains c = false) : backC c s = [] := (front_not (by simpa using h)).2
theorem parseB_good {sch rest : Bs} {u : Ur} (hs : ∃ c r, sch = c :: r ∧ c ∈ lowSet ∧ ∀ x ∈ r, SchR x) (h : parseB sch rest = .ok u) : Good u := by
  unfold parseB at h
  split at h
  · cases h
  · rename_i hst port hp
    split at h
    · rename_i q f l hq hf hl
      injection h with h
      subst h
      obtain ⟨p1, p2⟩ := place_good hp
      refine ⟨hs, p1, p2, tidy_good l, ⟨clean_clean hq, fun ha => ?_⟩, ⟨clean_clean hf, fun ha => ?_⟩⟩
      · unfold queryT at hq
        rw [backC_nil ha] at hq
        exact (Option.some.inj hq).symm
      · unfold fragT at hf
        rw [backC_nil ha] at hf
        exact (Option.some.inj hf).symm
    · cases h
theorem parse_parts {s : Bs} {u : Ur} (h : parseP s = .ok u) : s.length ≤ 500 ∧ ∃ sch r, schP s = some (sch, 47 :: 47 :: r) ∧ parseB sch r = .ok u := by
  unfold parseP at h
  split at h
  · cases h
  · rename_i hl
    refine ⟨by omega, ?_⟩
    split at h
    · cases h
    · rename_i sch rest hs
      split at h
      · rename_i h2
        refine ⟨sch, rest.drop 2, ?_, h⟩
        have e : rest = rest.take 2 ++ rest.drop 2 := (List.take_append_drop 2 rest).symm
        rw [hs]
        congr 2
        rw [e, h2]
        rfl
      · cases h
theorem parse_good {s : Bs} {u : Ur} (h : parseP s = .ok u) : Good u := by
  obtain ⟨_, sch, r, h1, h2⟩ := parse_parts h
  exact parseB_good (sch_good h1) h2
theorem beside_good {b u : Ur} {s : Bs} (hb : Good b) (h : besideP b s = .ok u) : Good u := by
  unfold besideP at h
  split at h
  · rename_i q f l hq hf hl
    have hq2 : asksT s = false → q = [] := fun ha => by
      unfold queryT at hq
      rw [backC_nil ha] at hq
      exact (Option.some.inj hq).symm
    have hf2 : pointsT s = false → f = [] := fun ha => by
      unfold fragT at hf
      rw [backC_nil ha] at hf
      exact (Option.some.inj hf).symm
    split at h
    · injection h with h
      subst h
      refine ⟨hb.sch, hb.host, hb.port, hb.path, ?_, ⟨clean_clean hf, hf2⟩⟩
      simp only
      cases ha : asksT s with
      | true => exact ⟨clean_clean hq, fun h => by cases h⟩
      | false => simpa using hb.query
    · split at h
      · injection h with h
        subst h
        exact ⟨hb.sch, hb.host, hb.port, tidy_good _, ⟨clean_clean hq, hq2⟩, ⟨clean_clean hf, hf2⟩⟩
      · injection h with h
        subst h
        exact ⟨hb.sch, hb.host, hb.port, tidy_good _, ⟨clean_clean hq, hq2⟩, ⟨clean_clean hf, hf2⟩⟩
  · cases h
theorem aim_good {b u : Ur} {s : Bs} (hb : Good b) (h : aimP b s = .ok u) : Good u := by
  unfold aimP at h
  split at h
  · exact parse_good h
  · split at h
    · exact parse_good h
    · exact beside_good hb h
theorem portT_eq {n : Int} (h1 : 1 ≤ n) (h2 : n ≤ 65535) : portT n = 58 :: Lib.decDigits n.toNat := by
  unfold portT Lib.itoa
  rw [if_neg (by omega), if_neg (by omega)]
theorem portT_free {n : Int} (h : n = 0 ∨ (1 ≤ n ∧ n ≤ 65535)) : ∀ b ∈ portT n, endSet.contains b = false := by
  rcases h with rfl | ⟨h1, h2⟩
  · intro b hb; cases hb
  · rw [portT_eq h1 h2]
    intro b hb
    rcases List.mem_cons.1 hb with rfl | hb
    · decide
    · exact (dig_low b (dec_mem _ b hb)).2
theorem place_text {u : Ur} (g : Good u) : placeP u.sch (u.host ++ portT u.port) = some (u.host, u.port) := by
  have hc := host_chars g.host
  have h58 : (58 : UInt8) ∉ u.host := fun h => (host_ok (hc 58 h)).2.2.1 rfl
  unfold placeP
  rcases g.port with h0 | ⟨h1, h2, h3⟩
  · rw [h0]
    have e : portT 0 = [] := rfl
    rw [e, List.append_nil, (front_not h58).1, host_small g.host, if_neg (by rw [g.host]; simp), if_pos (by simpa using h58)]
  · rw [portT_eq h1 h2, (front_cut _ h58).1, (front_cut _ h58).2, host_small g.host, if_neg (by rw [g.host]; simp), if_neg (by simp)]
    have hl := dec_len 4 u.port.toNat (by omega)
    have hn := dec_ne u.port.toNat
    have hl0 : (Lib.decDigits u.port.toNat).length ≠ 0 := fun e => hn (List.eq_nil_of_length_eq_zero e)
    have ht : Lib.trimS (Lib.decDigits u.port.toNat) digs = [] := (trim_iff _ _).2 (dec_mem _)
    have hv := num_dec u.port.toNat (by omega)
    rw [if_neg (by rintro (h | h | h)
                   · omega
                   · omega
                   · exact h ht), hv, if_neg (by omega), if_neg (by omega)]
    congr 2
    omega
theorem auth_cut : ∀ {a : Bs} (t : Bs), (∀ b ∈ a, endSet.contains b = false) → authP (a ++ 47 :: t) = a ∧ restP (a ++ 47 :: t) = 47 :: t
  | [], t, _ => ⟨rfl, rfl⟩
  | x :: a, t, h => by
    obtain ⟨h1, h2⟩ := auth_cut (a := a) t (fun b hb => h b (List.mem_cons_of_mem _ hb))
    have hx := h x (by simp)
    unfold authP restP at *
    rw [List.cons_append, List.takeWhile_cons, List.dropWhile_cons, hx]
    simp only [Bool.not_false, if_true]
    exact ⟨by rw [h1], h2⟩
/-- The text behind the host and the port. -/
def tailT (u : Ur) : Bs := joinT u.path ++ ((if u.asks then 63 :: u.query else []) ++ (if u.points then 35 :: u.frag else []))
theorem tail_text {u : Ur} (g : Good u) : pathT (tailT u) = joinT u.path ∧ asksT (tailT u) = u.asks ∧ pointsT (tailT u) = u.points ∧ queryT (tailT u) = some u.query ∧ fragT (tailT u) = some u.frag := by
  have n35 : (35 : UInt8) ∉ joinT u.path ++ (if u.asks then 63 :: u.query else []) := by
    intro h
    rcases List.mem_append.1 h with h | h
    · exact join_free _ (by decide) (by decide) (by decide) h
    · split at h
      · rcases List.mem_cons.1 h with h | h
        · revert h; decide
        · exact clean_free g.query.1 (by decide) (by decide) (by decide) h
      · cases h
  have n63 : (63 : UInt8) ∉ joinT u.path := join_free _ (by decide) (by decide) (by decide)
  have eF : frontC 35 (tailT u) = joinT u.path ++ (if u.asks then 63 :: u.query else []) ∧ backC 35 (tailT u) = u.frag ∧ pointsT (tailT u) = u.points := by
    unfold tailT pointsT
    rw [← List.append_assoc]
    cases hp : u.points with
    | true =>
      rw [if_pos rfl]
      obtain ⟨e1, e2⟩ := front_cut u.frag n35
      exact ⟨e1, e2, by simp⟩
    | false =>
      rw [show (if false = true then 35 :: u.frag else []) = [] from rfl, List.append_nil]
      obtain ⟨e1, e2⟩ := front_not n35
      refine ⟨e1, by rw [e2, g.frag.2 hp], ?_⟩
      simpa using n35
  have eQ : pathT (tailT u) = joinT u.path ∧ backC 63 (frontC 35 (tailT u)) = u.query ∧ asksT (tailT u) = u.asks := by
    unfold pathT asksT
    rw [eF.1]
    cases ha : u.asks with
    | true =>
      rw [if_pos rfl]
      obtain ⟨e1, e2⟩ := front_cut u.query n63
      exact ⟨e1, e2, by simp⟩
    | false =>
      rw [show (if false = true then 63 :: u.query else []) = [] from rfl, List.append_nil]
      obtain ⟨e1, e2⟩ := front_not n63
      refine ⟨e1, by rw [e2, g.query.2 ha], ?_⟩
      simpa using n63
  refine ⟨eQ.1, eQ.2.2, eF.2.2, ?_, ?_⟩
  · unfold queryT
    rw [eQ.2.1]
    exact g.query.1
  · unfold fragT
    rw [eF.2.1]
    exact g.frag.1
theorem segs_text {l : List Bs} (h : l ≠ []) : segsP (splitC 47 (noSl (joinT l))) = some l := by
  cases l with
  | nil => exact absurd rfl h
  | cons p l =>
    have e : joinT (p :: l) = 47 :: (encP p ++ joinT l) := rfl
    have e2 : noSl (joinT (p :: l)) = encP p ++ joinT l := by rw [e]; rfl
    rw [e2, split_join p l, ← List.map_cons, segs_enc]
theorem text_eq (u : Ur) : textP u = u.sch ++ 58 :: 47 :: 47 :: ((u.host ++ portT u.port) ++ tailT u) := by
  unfold textP origP tailT joinT
  simp
theorem parse_text {u : Ur} (g : Good u) (hl : (textP u).length ≤ 500) : parseP (textP u) = .ok u := by
  obtain ⟨c, r, e1, e2, e3⟩ := g.sch
  unfold parseP
  rw [if_neg (by omega), text_eq, e1, sch_run _ e2 e3]
  simp only
  rw [if_pos (show List.take 2 (47 :: 47 :: (u.host ++ portT u.port ++ tailT u)) = [47, 47] from rfl)]
  show parseB (c :: r) ((u.host ++ portT u.port) ++ tailT u) = _
  obtain ⟨t, ht⟩ : ∃ t, tailT u = 47 :: t := by
    unfold tailT
    cases hp : u.path with
    | nil => exact absurd hp g.path.1
    | cons p l => exact ⟨_, rfl⟩
  have hA : ∀ b ∈ u.host ++ portT u.port, endSet.contains b = false := by
    intro b hb
    rcases List.mem_append.1 hb with hb | hb
    · exact (host_ok (host_chars g.host b hb)).2.2.2
    · refine portT_free ?_ b hb
      rcases g.port with h | ⟨h1, h2, _⟩
      · exact .inl h
      · exact .inr ⟨h1, h2⟩
  obtain ⟨a1, a2⟩ := auth_cut t hA
  obtain ⟨t1, t2, t3, t4, t5⟩ := tail_text g
  unfold parseB
  rw [← e1]
  rw [ht, a1, a2, place_text g, ← ht, t1, t2, t3, t4, t5, segs_text g.path.1]
  simp only
  rw [tidy_id g.path.1 g.path.2]
/-- What a resolved text is. -/
theorem resolve_parts {base ref s : Bs} (h : resolveP base ref = .ok s) : ∃ b u, parseP base = .ok b ∧ ref.length ≤ 500 ∧ aimP b ref = .ok u ∧ s = textP u ∧ s.length ≤ 500 ∧ Good u := by
  unfold resolveP at h
  split at h
  · cases h
  · rename_i b hb
    split at h
    · cases h
    · rename_i hr
      split at h
      · cases h
      · rename_i u hu
        split at h
        · cases h
        · rename_i hl
          injection h with h
          subst h
          exact ⟨b, u, hb, by omega, hu, rfl, by omega, aim_good (parse_good hb) hu⟩
theorem text_sch {u : Ur} (g : Good u) : (schP (textP u)).isSome = true := by
  obtain ⟨c, r, e1, e2, e3⟩ := g.sch
  rw [text_eq, e1, sch_run _ e2 e3]
  rfl
theorem resolve_self {b u : Ur} {base : Bs} (hb : parseP base = .ok b) (g : Good u) (hl : (textP u).length ≤ 500) : resolveP base (textP u) = .ok (textP u) := by
  unfold resolveP
  rw [hb]
  simp only
  rw [if_neg (by omega)]
  unfold aimP
  rw [if_pos (text_sch g), parse_text g hl]
  simp only
  rw [if_neg (by omega)]
/-- UrlAgain. -/
theorem plain_again {base ref s : Bs} (h : resolveP base ref = .ok s) : resolveP base s = .ok s ∧ ∀ other t, resolveP other s = .ok t → t = s := by
  obtain ⟨b, u, hb, _, _, rfl, hl, g⟩ := resolve_parts h
  refine ⟨resolve_self hb g hl, fun other t ht => ?_⟩
  obtain ⟨b2, _, hb2, _⟩ := resolve_parts ht
  rw [resolve_self hb2 g hl] at ht
  injection ht with ht
  exact ht.symm
/-- UrlDots. -/
theorem plain_dots {base ref s : Bs} (h : resolveP base ref = .ok s) : ∃ u, parseP s = .ok u ∧ u.path ≠ [] ∧ [46] ∉ u.path ∧ [46, 46] ∉ u.path := by
  obtain ⟨b, u, _, _, _, rfl, hl, g⟩ := resolve_parts h
  exact ⟨u, parse_text g hl, g.path.1, fun hm => (g.path.2 _ hm).1 rfl, fun hm => (g.path.2 _ hm).2 rfl⟩
/-- UrlBack. -/
theorem plain_back {s : Bs} {u : Ur} (h : parseP s = .ok u) : checkU u = 2 ∨ (checkU u = 0 ∧ parseP (textP u) = .ok u) := by
  have g := parse_good h
  unfold checkU
  by_cases hl : 500 < (textP u).length
  · rw [if_pos hl]
    exact .inl rfl
  · rw [if_neg hl, parse_text g (by omega)]
    right
    simp
end Go.Proofs.YtjcejijdeohkgaaGreatDoor
/- U6. -/
namespace Go.Proofs.YtjcejijdeohkgaaGreatDoor

theorem schK_front : ∀ (s b : Bs) (k m : Nat), schK k s = some m → schK k (s.take (m - k + 1) ++ b) = some m
  | [], b, k, m, h => by cases h
  | c :: r, b, k, m, h => by
    have hk := (schK_at (c :: r) k m h).1
    unfold schK at h
    split at h
    · rename_i h1
      have e : k = m := Option.some.inj h
      subst e
      rw [Nat.sub_self, Nat.zero_add, List.take_succ_cons, List.take_zero]
      show schK k (c :: b) = _
      unfold schK
      rw [if_pos h1]
    · rename_i h1
      split at h
      · cases h
      · rename_i h2
        have hm := (schK_at r (k + 1) m h).1
        have e : m - k + 1 = (m - (k + 1) + 1) + 1 := by omega
        rw [e, List.take_succ_cons]
        show schK k (c :: (r.take (m - (k + 1) + 1) ++ b)) = _
        unfold schK
        rw [if_neg h1, if_neg h2, schK_front r b (k + 1) m h]
theorem front_app {c : UInt8} : ∀ {a : Bs} (b : Bs), c ∉ a → frontC c (a ++ b) = a ++ frontC c b
  | [], _, _ => rfl
  | x :: a, b, h => by
    have hx : (x != c) = true := by
      simp only [bne_iff_ne, ne_eq]
      exact fun e => h (by rw [e]; simp)
    have ih := front_app (a := a) b (fun h' => h (List.mem_cons_of_mem _ h'))
    unfold frontC at *
    rw [List.cons_append, List.takeWhile_cons, if_pos hx, ih, List.cons_append]
theorem sch_front {s sch rest : Bs} (h : schP s = some (sch, rest)) : schP (frontC 35 s) = some (sch, frontC 35 rest) := by
  unfold schP at h
  obtain ⟨k, h1, h2⟩ := Option.map_eq_some_iff.1 h
  injection h2 with h2 h3
  obtain ⟨_, i2, i3, i4, i5⟩ := schK_at s 0 k h1
  rw [Nat.sub_zero] at i2 i3 i5
  have hlet : ∀ x, letP x = true → x ≠ 35 := by
    rintro x hx rfl
    revert hx; decide
  have hset : ∀ x ∈ schSet, x ≠ 35 := by decide
  have nf : (35 : UInt8) ∉ s.take (k + 1) := by
    intro hm
    obtain ⟨j, hj, e⟩ := List.mem_iff_getElem.1 hm
    rw [List.length_take] at hj
    have hx2 : s[j]? = some 35 := by
      rw [← e, List.getElem_take, List.getElem?_eq_getElem]
    by_cases hjk : j < k
    · rcases i5 j 35 hjk hx2 with h4 | ⟨_, h4⟩
      · exact hlet 35 h4 rfl
      · exact hset 35 (by simpa using h4) rfl
    · have : j = k := by omega
      subst this
      rw [i3] at hx2
      injection hx2 with hx2
      revert hx2; decide
  have e : frontC 35 s = s.take (k + 1) ++ frontC 35 rest := by
    have := front_app (c := 35) (a := s.take (k + 1)) (s.drop (k + 1)) nf
    rw [List.take_append_drop] at this
    rw [this, h3]
  have hK : schK 0 (frontC 35 s) = some k := by
    rw [e]
    have := schK_front s (frontC 35 rest) 0 k h1
    rwa [Nat.sub_zero] at this
  unfold schP
  rw [hK, Option.map_some]
  have t1 : (frontC 35 s).take k = s.take k := by
    rw [e, List.take_append_of_le_length (by rw [List.length_take]; omega), List.take_take]
    congr 1
    omega
  have t2 : (frontC 35 s).drop (k + 1) = frontC 35 rest := by
    rw [e]
    have hl : (s.take (k + 1)).length = k + 1 := by rw [List.length_take]; omega
    rw [List.drop_append_of_le_length (by omega), List.drop_of_length_le (by omega)]
    rfl
  rw [t1, t2, h2]
theorem auth_front : ∀ (r : Bs), authP (frontC 35 r) = authP r ∧ restP (frontC 35 r) = frontC 35 (restP r)
  | [] => ⟨rfl, rfl⟩
  | x :: r => by
    obtain ⟨h1, h2⟩ := auth_front r
    by_cases hx : x = 35
    · subst hx
      have e : frontC 35 (35 :: r) = [] := by unfold frontC; simp
      have e1 : authP (35 :: r) = [] := rfl
      have e2 : restP (35 :: r) = 35 :: r := rfl
      rw [e, e1, e2, e]
      exact ⟨rfl, rfl⟩
    · have hx2 : (x != 35) = true := by simpa using hx
      have e : frontC 35 (x :: r) = x :: frontC 35 r := by unfold frontC; rw [List.takeWhile_cons, if_pos hx2]
      by_cases hy : endSet.contains x = true
      · have e1 : ∀ l, authP (x :: l) = [] := fun l => by unfold authP; rw [List.takeWhile_cons, hy]; rfl
        have e2 : ∀ l, restP (x :: l) = x :: l := fun l => by unfold restP; rw [List.dropWhile_cons, hy]; rfl
        rw [e, e1, e1, e2, e2, e]
        exact ⟨rfl, rfl⟩
      · have hy' : endSet.contains x = false := by simpa using hy
        have e1 : ∀ l, authP (x :: l) = x :: authP l := fun l => by unfold authP; rw [List.takeWhile_cons, hy']; rfl
        have e2 : ∀ l, restP (x :: l) = restP l := fun l => by unfold restP; rw [List.dropWhile_cons, hy']; rfl
        rw [e, e1, e1, e2, e2, h1, h2]
        exact ⟨rfl, rfl⟩
theorem front_front (c : UInt8) (s : Bs) : frontC c (frontC c s) = frontC c s ∧ backC c (frontC c s) = [] ∧ (frontC c s).contains c = false := by
  have h := front_free c s
  obtain ⟨h1, h2⟩ := front_not h
  exact ⟨h1, h2, by simpa using h⟩
def bareU (u : Ur) : Ur := ⟨u.sch, u.host, u.port, u.path, u.query, u.asks, [], false⟩
/-- Without the fragment. -/
theorem parse_front {s : Bs} {u : Ur} (h : parseP s = .ok u) : parseP (frontC 35 s) = .ok (bareU u) := by
  obtain ⟨hl, sch, r, h1, h2⟩ := parse_parts h
  have hl2 : (frontC 35 s).length ≤ s.length := by unfold frontC; exact (List.takeWhile_sublist _).length_le
  have h3 := sch_front h1
  have e : frontC 35 (47 :: 47 :: r) = 47 :: 47 :: frontC 35 r := by unfold frontC; rfl
  rw [e] at h3
  unfold parseP
  rw [if_neg (by omega), h3]
  simp only
  rw [if_pos (show List.take 2 (47 :: 47 :: frontC 35 r) = [47, 47] from rfl)]
  show parseB sch (frontC 35 r) = _
  obtain ⟨a1, a2⟩ := auth_front r
  obtain ⟨f1, f2, f3⟩ := front_front 35 (restP r)
  unfold parseB at h2 ⊢
  rw [a1, a2]
  split at h2
  · cases h2
  · rename_i hst port hp
    split at h2
    · rename_i q f l hq hf hl'
      injection h2 with h2
      subst h2
      have q1 : queryT (frontC 35 (restP r)) = some q := by unfold queryT at hq ⊢; rw [f1]; exact hq
      have q2 : fragT (frontC 35 (restP r)) = some [] := by unfold fragT; rw [f2]; rfl
      have q3 : pathT (frontC 35 (restP r)) = pathT (restP r) := by unfold pathT; rw [f1]
      have q4 : asksT (frontC 35 (restP r)) = asksT (restP r) := by unfold asksT; rw [f1]
      have q5 : pointsT (frontC 35 (restP r)) = false := f3
      simp only [q1, q2, q3, q4, q5, hl']
      rfl
    · cases h2
theorem beside_nil (b : Ur) : besideP b [] = .ok (bareU b) := by
  have e1 : queryT [] = some [] := rfl
  have e2 : fragT [] = some [] := rfl
  have e3 : segsP (splitC 47 (noSl (pathT []))) = some [[]] := rfl
  unfold besideP
  rw [e1, e2, e3]
  simp only
  rw [if_pos (show pathT [] = [] from rfl)]
  have e4 : asksT [] = false := rfl
  have e5 : pointsT [] = false := rfl
  rw [e4, e5]
  simp [bareU]
theorem aim_nil (b : Ur) : aimP b [] = .ok (bareU b) := by
  unfold aimP
  rw [if_neg (by decide), if_neg (by decide), beside_nil]
/-- UrlHere, its second part: an empty text is where one is. -/
theorem plain_empty {base : Bs} {b : Ur} (hb : parseP base = .ok b) : resolveP base [] = resolveP (frontC 35 base) (frontC 35 base) := by
  have hf := parse_front hb
  obtain ⟨hl, sch, r, h1, h2⟩ := parse_parts hf
  unfold resolveP
  rw [hb, hf]
  simp only
  rw [if_neg (by simp), if_neg (by omega), aim_nil]
  unfold aimP
  rw [if_pos (by rw [h1]; rfl), hf]
theorem sch_colon {s : Bs} (h : (58 : UInt8) ∉ s) : schP s = none := by
  cases hs : schP s with
  | none => rfl
  | some x =>
    obtain ⟨sch, rest⟩ := x
    unfold schP at hs
    obtain ⟨k, h1, _⟩ := Option.map_eq_some_iff.1 hs
    obtain ⟨_, _, i3, _⟩ := schK_at s 0 k h1
    exact absurd (List.mem_of_getElem? i3) h
theorem beside_same {b u : Ur} {s : Bs} (h : besideP b s = .ok u) : u.sch = b.sch ∧ u.host = b.host ∧ u.port = b.port := by
  unfold besideP at h
  split at h
  · split at h
    · injection h with h; subst h; exact ⟨rfl, rfl, rfl⟩
    · split at h
      · injection h with h; subst h; exact ⟨rfl, rfl, rfl⟩
      · injection h with h; subst h; exact ⟨rfl, rfl, rfl⟩
  · cases h
/-- UrlHere, its last part. -/
theorem plain_here {base ref s : Bs} {b : Ur} (hb : parseP base = .ok b) (hr : resolveP base ref = .ok s) (h58 : (58 : UInt8) ∉ ref) (h2 : ref.take 2 ≠ [47, 47]) :
    originP s = .ok (origP b) ∧ ∃ t, s = origP b ++ 47 :: t := by
  obtain ⟨b', u, hb', _, hu, rfl, hl, g⟩ := resolve_parts hr
  rw [hb] at hb'
  injection hb' with hb'
  subst hb'
  unfold aimP at hu
  rw [if_neg (by rw [sch_colon h58]; simp), if_neg h2] at hu
  obtain ⟨e1, e2, e3⟩ := beside_same hu
  have eo : origP u = origP b := by unfold origP; rw [e1, e2, e3]
  refine ⟨?_, ?_⟩
  · unfold originP
    rw [parse_text g hl]
    simp only
    rw [eo]
  · unfold textP
    rw [eo]
    cases hp : u.path with
    | nil => exact absurd hp g.path.1
    | cons p l => exact ⟨_, rfl⟩
/-- UrlHere, where the base is none. -/
theorem resolve_bad {base ref : Bs} {e : Int} (h : parseP base = .error e) : resolveP base ref = .error e := by
  unfold resolveP
  rw [h]
end Go.Proofs.YtjcejijdeohkgaaGreatDoor
/- U7. -/
namespace Go.Proofs.YtjcejijdeohkgaaGreatDoor

/-- http://A.b:80/x/y?q#f -/
def liveA : Bs := [104, 116, 116, 112, 58, 47, 47, 65, 46, 98, 58, 56, 48, 47, 120, 47, 121, 63, 113, 35, 102]
def liveB : Bs := [46, 46, 47, 122]
def liveC : Bs := [104, 116, 116, 112, 58, 47, 47, 97, 46, 98, 47, 122]
/-- https://h/a%2fb -/
def liveD : Bs := [104, 116, 116, 112, 115, 58, 47, 47, 104, 47, 97, 37, 50, 102, 98]
theorem live_resolve : resolveP liveA liveB = .ok liveC := by kernel_rfl
theorem live_parse : parseP liveD = .ok ⟨[104, 116, 116, 112, 115], [104], 0, [[97, 47, 98]], [], false, [], false⟩ := by kernel_rfl
theorem live_enc : encP [97, 32, 98] = [97, 37, 50, 48, 98] := by kernel_rfl
end Go.Proofs.YtjcejijdeohkgaaGreatDoor
