/- Plain: texts as rows of bytes; triples; what is read of a text. -/
import Derived.Lib.SplitLaws
import Derived.Lib.MapLaws
import Derived.Lib.IndexBytes
import Derived.Lib.CutLaws
import Derived.Lib.SlTrimSet
import Derived.Lib.ItoaNum
import Derived.Lib.AtoiAll
import Derived.Lib.AtoiTie
import Derived.KernelRfl
namespace Go.Proofs.YtjcejijdeohkgaaGreatDoor

abbrev Bs := List UInt8
def bs (l : Bs) : ByteArray := ⟨l.toArray⟩
theorem bs_list (l : Bs) : (bs l).data.toList = l := by simp [bs]
theorem bs_of (s : ByteArray) : bs s.data.toList = s := by simp [bs]
theorem bs_size (l : Bs) : (bs l).size = l.length := by simp [bs, ByteArray.size]
theorem bs_inj {a b : Bs} (h : bs a = bs b) : a = b := by rw [← bs_list a, h, bs_list]
def digs : Bs := [48, 49, 50, 51, 52, 53, 54, 55, 56, 57]
def six : Bs := [48, 49, 50, 51, 52, 53, 54, 55, 56, 57, 65, 66, 67, 68, 69, 70]
/-- Of letters. -/
def letP (c : UInt8) : Bool := (decide (97 ≤ c.toNat) && decide (c.toNat ≤ 122)) || (decide (65 ≤ c.toNat) && decide (c.toNat ≤ 90))
def mildSet : Bs := digs ++ [45, 46, 95, 126]
def plainP (c : UInt8) : Bool := letP c || mildSet.contains c
def hexAt (n : Nat) : UInt8 := six.getD n 0
def tri (c : UInt8) : Bs := [37, hexAt (c.toNat / 16), hexAt (c.toNat % 16)]
def upC (c : UInt8) : UInt8 := if 97 ≤ c.toNat ∧ c.toNat ≤ 102 then c - 32 else c
/-- The value of a digit of sixteen. -/
def valP (c : UInt8) : Int := Lib.indexByte six (upC c)
def readP : Bs → UInt8 × Nat
  | [] => (0, 0)
  | c :: r => if c = 37 then (match r with
      | a :: b :: _ => if valP a < 0 ∨ valP b < 0 then (0, 0) else (UInt8.ofNat ((valP a).toNat * 16 + (valP b).toNat), 3)
      | _ => (0, 0)) else (c, 1)
def unitsF : Nat → Bs → Option (List (UInt8 × Nat))
  | _, [] => some []
  | 0, _ :: _ => none
  | f + 1, c :: r => if (readP (c :: r)).2 = 0 then none else (unitsF f ((c :: r).drop (readP (c :: r)).2)).map (readP (c :: r) :: ·)
def units (s : Bs) : Option (List (UInt8 × Nat)) := unitsF s.length s
def encP (s : Bs) : Bs := s.flatMap fun c => if plainP c then [c] else tri c
def decP (s : Bs) : Option Bs := (units s).map (·.map Prod.fst)
def keptSet : Bs := [33, 36, 38, 39, 40, 41, 42, 43, 44, 59, 61, 58, 64, 47, 63]
def clU (u : UInt8 × Nat) : Bs := if plainP u.1 || (u.2 == 1 && keptSet.contains u.1) then [u.1] else tri u.1
def cleanP (s : Bs) : Option Bs := (units s).map (·.flatMap clU)

theorem unitsF_fuel : ∀ (f g : Nat) (s : Bs), s.length ≤ f → s.length ≤ g → unitsF f s = unitsF g s
  | f, g, [], _, _ => by cases f <;> cases g <;> rfl
  | 0, _, _ :: _, h, _ => by simp at h
  | _ + 1, 0, _ :: _, _, h => by simp at h
  | f + 1, g + 1, c :: r, h1, h2 => by
    unfold unitsF
    by_cases h0 : (readP (c :: r)).2 = 0
    · rw [if_pos h0, if_pos h0]
    · rw [if_neg h0, if_neg h0]
      have hl : ((c :: r).drop (readP (c :: r)).2).length ≤ r.length := by
        rw [List.length_drop, List.length_cons]
        omega
      rw [unitsF_fuel f g _ (by rw [List.length_cons] at h1; omega) (by rw [List.length_cons] at h2; omega)]
theorem units_cons (c : UInt8) (r : Bs) : units (c :: r) = if (readP (c :: r)).2 = 0 then none else (units ((c :: r).drop (readP (c :: r)).2)).map (readP (c :: r) :: ·) := by
  have e : units (c :: r) = unitsF (r.length + 1) (c :: r) := rfl
  rw [e]
  unfold unitsF
  by_cases h0 : (readP (c :: r)).2 = 0
  · rw [if_pos h0, if_pos h0]
  · rw [if_neg h0, if_neg h0]
    have hl : ((c :: r).drop (readP (c :: r)).2).length ≤ r.length := by
      rw [List.length_drop, List.length_cons]
      omega
    unfold units
    rw [unitsF_fuel r.length _ _ hl (Nat.le_refl _)]
theorem units_nil : units [] = some [] := rfl
theorem units_one (c : UInt8) (h : c ≠ 37) (r : Bs) : units (c :: r) = (units r).map ((c, 1) :: ·) := by
  have e : readP (c :: r) = (c, 1) := by simp only [readP]; rw [if_neg h]
  rw [units_cons, e, if_neg (by simp)]
  rfl
theorem hex_val : ∀ n : Fin 16, valP (hexAt n.val) = (n.val : Int) := by decide +kernel
theorem tri_back : ∀ c : Fin 256, UInt8.ofNat ((c.val / 16) * 16 + c.val % 16) = UInt8.ofNat c.val := by decide +kernel
theorem read_tri (c : UInt8) (r : Bs) : readP (tri c ++ r) = (c, 3) := by
  have hc : c.toNat < 256 := c.toNat_lt
  have h1 := hex_val ⟨c.toNat / 16, by omega⟩
  have h2 := hex_val ⟨c.toNat % 16, by omega⟩
  simp only at h1 h2
  show readP (37 :: hexAt (c.toNat / 16) :: hexAt (c.toNat % 16) :: r) = (c, 3)
  simp only [readP, if_true, h1, h2]
  rw [if_neg (by omega), Int.toNat_natCast, Int.toNat_natCast]
  have h3 := tri_back ⟨c.toNat, hc⟩
  simp only at h3
  rw [h3]
  simp
theorem units_tri (c : UInt8) (r : Bs) : units (tri c ++ r) = (units r).map ((c, 3) :: ·) := by
  have e : tri c ++ r = 37 :: (hexAt (c.toNat / 16) :: hexAt (c.toNat % 16) :: r) := rfl
  rw [e, units_cons, ← e, read_tri, if_neg (by simp)]
  rfl
theorem plain_not (c : UInt8) (h : plainP c = true) : c ≠ 37 := by
  rintro rfl
  revert h
  decide
theorem kept_not (c : UInt8) (h : keptSet.contains c = true) : c ≠ 37 := by
  rintro rfl
  revert h
  decide
/-- What a text of units is read as. -/
theorem units_of : ∀ (us : List (UInt8 × Nat)) (g : UInt8 × Nat → Bool), (∀ u ∈ us, g u = true → u.1 ≠ 37) → ∀ r, units (us.flatMap (fun u => if g u then [u.1] else tri u.1) ++ r) = (units r).map (us.map (fun u => (u.1, if g u then 1 else 3)) ++ ·)
  | [], _, _, r => by cases h : units r <;> simp [h]
  | u :: us, g, hg, r => by
    have ih := units_of us g (fun v hv => hg v (List.mem_cons_of_mem _ hv)) r
    rw [List.flatMap_cons, List.append_assoc]
    by_cases h : g u = true
    · rw [if_pos h]
      rw [show [u.1] ++ (us.flatMap (fun u => if g u then [u.1] else tri u.1) ++ r) = u.1 :: (us.flatMap (fun u => if g u then [u.1] else tri u.1) ++ r) from rfl, units_one _ (hg u (by simp) h), ih]
      cases units r <;> simp [h]
    · rw [if_neg h, units_tri, ih]
      cases units r <;> simp [h]
theorem enc_units (s : Bs) : units (encP s) = some (s.map fun c => (c, if plainP c then 1 else 3)) := by
  have h := units_of (s.map fun c => (c, 0)) (fun u => plainP u.1) (fun u _ hu => plain_not _ hu) []
  rw [List.append_nil, units_nil, List.flatMap_map, List.map_map] at h
  simp only [Option.map_some, List.append_nil] at h
  exact h
theorem dec_enc (s : Bs) : decP (encP s) = some s := by
  unfold decP
  rw [enc_units, Option.map_some, List.map_map]
  congr 1
  induction s with
  | nil => rfl
  | cons c s ih => rw [List.map_cons, ih]; rfl
def clG (u : UInt8 × Nat) : Bool := plainP u.1 || (u.2 == 1 && keptSet.contains u.1)
theorem clG_not (u : UInt8 × Nat) (h : clG u = true) : u.1 ≠ 37 := by
  unfold clG at h
  rcases Bool.or_eq_true_iff.1 h with h | h
  · exact plain_not _ h
  · exact kept_not _ (Bool.and_eq_true_iff.1 h).2
theorem clean_units {s q : Bs} (h : cleanP s = some q) : ∃ us, units s = some us ∧ q = us.flatMap clU ∧ units q = some (us.map fun u => (u.1, if clG u then 1 else 3)) := by
  unfold cleanP at h
  obtain ⟨us, h1, h2⟩ := Option.map_eq_some_iff.1 h
  refine ⟨us, h1, h2.symm, ?_⟩
  have h3 := units_of us clG (fun u _ hu => clG_not u hu) []
  rw [List.append_nil, units_nil] at h3
  simp only [Option.map_some, List.append_nil] at h3
  rw [← h2]
  exact h3
/-- What is clean stays. -/
theorem clean_clean {s q : Bs} (h : cleanP s = some q) : cleanP q = some q := by
  obtain ⟨us, hu, h2, h3⟩ := clean_units h
  clear hu
  unfold cleanP
  rw [h3, Option.map_some, h2]
  congr 1
  clear h h2 h3
  induction us with
  | nil => rfl
  | cons u us ih =>
    rw [List.map_cons, List.flatMap_cons, List.flatMap_cons, ih]
    congr 1
    unfold clU
    by_cases h : clG u = true
    · have h' : (plainP u.1 || (u.2 == 1 && keptSet.contains u.1)) = true := h
      rw [if_pos h, if_pos h']
      by_cases hp : plainP u.1 = true
      · simp [hp]
      · have : keptSet.contains u.1 = true := by
          rcases Bool.or_eq_true_iff.1 h' with h1 | h1
          · exact absurd h1 hp
          · exact (Bool.and_eq_true_iff.1 h1).2
        simp only [this]
        simp
    · have h' : ¬ (plainP u.1 || (u.2 == 1 && keptSet.contains u.1)) = true := h
      rw [if_neg h, if_neg h']
      have hp : plainP u.1 = false := by
        cases hq : plainP u.1 with
        | false => rfl
        | true => rw [hq] at h'; simp at h'
      simp [hp]
theorem clean_nil : cleanP [] = some [] := rfl
/-- Bytes of what is clean. -/
theorem tri_mem {c b : UInt8} (h : b ∈ tri c) : b = 37 ∨ b ∈ six := by
  have key : ∀ n, hexAt n = 0 ∨ hexAt n ∈ six := by
    intro n
    unfold hexAt
    by_cases hn : n < six.length
    · right
      rw [List.getD_eq_getElem?_getD, List.getElem?_eq_getElem hn]
      exact List.getElem_mem hn
    · left
      rw [List.getD_eq_getElem?_getD, List.getElem?_eq_none (by omega)]
      rfl
  have hc : c.toNat < 256 := c.toNat_lt
  have k2 : ∀ n, n < 16 → hexAt n ∈ six := by
    intro n hn
    unfold hexAt
    have hn' : n < six.length := hn
    rw [List.getD_eq_getElem?_getD, List.getElem?_eq_getElem hn']
    exact List.getElem_mem hn'
  simp only [tri, List.mem_cons, List.not_mem_nil, or_false] at h
  rcases h with rfl | rfl | rfl
  · exact .inl rfl
  · exact .inr (k2 _ (by omega))
  · exact .inr (k2 _ (by omega))
theorem clean_bytes {s q : Bs} (h : cleanP s = some q) : ∀ b ∈ q, plainP b = true ∨ keptSet.contains b = true ∨ b = 37 := by
  obtain ⟨us, _, rfl, _⟩ := clean_units h
  intro b hb
  obtain ⟨u, _, hu⟩ := List.mem_flatMap.1 hb
  unfold clU at hu
  split at hu
  · rename_i h1
    rw [List.mem_singleton] at hu
    subst hu
    rcases Bool.or_eq_true_iff.1 h1 with h1 | h1
    · exact .inl h1
    · exact .inr (.inl (Bool.and_eq_true_iff.1 h1).2)
  · rcases tri_mem hu with h1 | h1
    · exact .inr (.inr h1)
    · left
      have : ∀ x ∈ six, plainP x = true := by decide
      exact this b h1
theorem enc_bytes (s : Bs) : ∀ b ∈ encP s, plainP b = true ∨ b = 37 := by
  intro b hb
  obtain ⟨c, _, hc⟩ := List.mem_flatMap.1 hb
  split at hc
  · rename_i h1
    rw [List.mem_singleton] at hc
    subst hc
    exact .inl h1
  · rcases tri_mem hc with h1 | h1
    · exact .inr h1
    · left
      have : ∀ x ∈ six, plainP x = true := by decide
      exact this b h1
end Go.Proofs.YtjcejijdeohkgaaGreatDoor
