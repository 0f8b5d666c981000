/- Plain: documents, and what dom.Check says of one. -/
import Derived.Lib.SlTrimSet
import Derived.Lib.Bytealg
namespace Go.Proofs.YtnnckjgafglgeaaDoor

structure Attr where
  name : ByteArray
  val : ByteArray
structure Nd where
  kind : Int
  name : ByteArray
  attrs : List Attr
  text : ByteArray
  parent : Int
  kids : List Int
def letters : List UInt8 := [97, 98, 99, 100, 101, 102, 103, 104, 105, 106, 107, 108, 109, 110, 111, 112, 113, 114, 115, 116, 117, 118, 119, 120, 121, 122]
def signs : List UInt8 := letters ++ [48, 49, 50, 51, 52, 53, 54, 55, 56, 57, 45, 95, 58]
def begins (s : ByteArray) (first : List UInt8) : Bool := match s.data.toList with | [] => false | c :: _ => decide (0 ≤ Lib.indexByte first c)
def named (s : ByteArray) (first : List UInt8) : Bool := decide (s.size ≤ 40) && (begins s first && (Lib.trimS s.data.toList signs).isEmpty)
def isName (s : ByteArray) : Bool := named s letters
def isAttr (s : ByteArray) : Bool := named s (letters ++ [45, 95])
/-- The first error of a list of attributes, those ahead being known. -/
def attrsIn : List Attr → List Attr → Int
  | _, [] => 0
  | seen, a :: l => if isAttr a.name then (if 400 < a.val.size then 2 else if seen.any (fun x => x.name.toList == a.name.toList) then 3 else attrsIn (seen ++ [a]) l) else 3
def attrsErr (l : List Attr) : Int := if 12 < l.length then 2 else attrsIn [] l
def mayHave (kind : Int) : Bool := kind == 1 || kind == 2
def bare (x : Nd) : Bool :=
  ((x.kind == 2 || x.kind == 5) || x.name.data.toList.isEmpty) && ((x.kind == 2 || x.attrs.isEmpty) && (((x.kind == 3 || x.kind == 4) || x.text.data.toList.isEmpty) && (mayHave x.kind || x.kids.isEmpty)))
def oneErr (x : Nd) : Int :=
  if x.kind < 1 ∨ 5 < x.kind then 7 else if bare x then (if x.kind = 2 ∧ isName x.name = false then 3 else if attrsErr x.attrs = 0 then (if 400 < x.text.size ∨ 400 < x.name.size then 2 else 0) else attrsErr x.attrs) else 7
def par (nodes : List Nd) (k : Int) : Int := ((nodes[k.toNat]?).map Nd.parent).getD (-1)
def knd (nodes : List Nd) (k : Int) : Int := ((nodes[k.toNat]?).map Nd.kind).getD 0
def badKid (nodes : List Nd) (i : Nat) (seen : List Bool) (k : Int) : Bool := decide (k < 0) || (decide ((nodes.length : Int) ≤ k) || (par nodes k != (i : Int) || seen[k.toNat]?.getD false))
def kidsIn (nodes : List Nd) (i : Nat) : List Int → List Bool → Int × List Bool
  | [], seen => (0, seen)
  | k :: l, seen => if badKid nodes i seen k then (3, seen) else if i = 0 ∧ knd nodes k = 3 then (7, seen) else kidsIn nodes i l (seen.set k.toNat true)
def kidsAll (nodes : List Nd) : Nat → List Nd → List Bool → Int × List Bool
  | _, [], seen => (0, seen)
  | i, x :: l, seen => if (kidsIn nodes i x.kids seen).1 = 0 then kidsAll nodes (i + 1) l (kidsIn nodes i x.kids seen).2 else kidsIn nodes i x.kids seen
/-- Is there one that has a parent, and is no kid? -/
def lost : List Nd → List Bool → Bool
  | x :: l, s :: r => (x.parent != -1 && !s) || lost l r
  | _, _ => false
def kidsErr (nodes : List Nd) : Int :=
  if (kidsAll nodes 0 nodes (List.replicate nodes.length false)).1 = 0 then
    (if lost nodes (kidsAll nodes 0 nodes (List.replicate nodes.length false)).2 then 3 else if par nodes 0 = -1 then 0 else 3)
  else (kidsAll nodes 0 nodes (List.replicate nodes.length false)).1
/-- How many parents lie above. -/
def upF (nodes : List Nd) : Nat → Int → Nat → Nat
  | 0, _, many => many
  | f + 1, n, many => if 0 ≤ par nodes n ∧ many ≤ nodes.length then upF nodes f (par nodes n) (many + 1) else many
def up (nodes : List Nd) (n : Int) : Nat := upF nodes (nodes.length + 2) n 0
def firstErr : Nat → List Nd → Int
  | _, [] => 0
  | i, x :: l => if (x.kind == 1) != (i == 0) then 3 else if oneErr x = 0 then firstErr (i + 1) l else oneErr x
def upErr (nodes : List Nd) : List Nat → Int
  | [] => 0
  | i :: l => if nodes.length < up nodes (i : Int) then 8 else if 40 < up nodes (i : Int) then 2 else upErr nodes l
def docErr (nodes : List Nd) : Int :=
  if 200 < nodes.length then 2 else if nodes.length = 0 then 3
  else if firstErr 0 nodes = 0 then (if kidsErr nodes = 0 then upErr nodes (List.range nodes.length) else kidsErr nodes) else firstErr 0 nodes

/-- Whoever was seen is a kid of its parent. -/
def SeenOk (nodes : List Nd) (seen : List Bool) : Prop := seen.length = nodes.length ∧ ∀ k : Nat, seen[k]? = some true → 0 ≤ par nodes (k : Int) ∧ par nodes (k : Int) < (nodes.length : Int)
theorem kidsIn_seen (nodes : List Nd) (i : Nat) (hi : i < nodes.length) : ∀ (l : List Int) (seen : List Bool), SeenOk nodes seen → SeenOk nodes (kidsIn nodes i l seen).2
  | [], seen, h => h
  | k :: l, seen, h => by
    unfold kidsIn
    split
    · exact h
    · rename_i hb
      split
      · exact h
      · refine kidsIn_seen nodes i hi l _ ⟨by rw [List.length_set]; exact h.1, fun m hm => ?_⟩
        unfold badKid at hb
        simp only [Bool.or_eq_true, decide_eq_true_eq, bne_iff_ne, ne_eq, not_or, Decidable.not_not] at hb
        obtain ⟨h1, h2, h3, h4⟩ := hb
        by_cases e : m = k.toNat
        · have hk : (m : Int) = k := by omega
          rw [hk, h3]
          omega
        · rw [List.getElem?_set_ne (fun e2 => e e2.symm)] at hm
          exact h.2 m hm
theorem kidsAll_seen (nodes : List Nd) : ∀ (l : List Nd) (i : Nat) (seen : List Bool), i + l.length ≤ nodes.length → SeenOk nodes seen → SeenOk nodes (kidsAll nodes i l seen).2
  | [], _, _, _, h => h
  | x :: l, i, seen, hl, h => by
    simp only [List.length_cons] at hl
    have h1 := kidsIn_seen nodes i (by omega) x.kids seen h
    unfold kidsAll
    split
    · exact kidsAll_seen nodes l (i + 1) _ (by omega) h1
    · exact h1
theorem lost_false : ∀ (l : List Nd) (seen : List Bool), lost l seen = false → l.length = seen.length → ∀ (k : Nat) (x : Nd), l[k]? = some x → x.parent = -1 ∨ seen[k]? = some true
  | [], _, _, _, k, x, hx => by simp at hx
  | y :: l, [], _, hl, _, _, _ => by simp at hl
  | y :: l, s :: r, h, hl, k, x, hx => by
    unfold lost at h
    rw [Bool.or_eq_false_iff] at h
    cases k with
    | zero =>
      simp only [List.getElem?_cons_zero, Option.some.injEq] at hx ⊢
      subst hx
      cases s with
      | true => exact .inr rfl
      | false =>
        left
        simpa using h.1
    | succ k => exact lost_false l r h.2 (by simpa using hl) k x (by simpa using hx)
theorem kids_ok (nodes : List Nd) (h : kidsErr nodes = 0) : par nodes 0 = -1 ∧ ∀ k : Nat, k < nodes.length → par nodes (k : Int) = -1 ∨ (0 ≤ par nodes (k : Int) ∧ par nodes (k : Int) < (nodes.length : Int)) := by
  unfold kidsErr at h
  split at h
  · rename_i h0
    split at h
    · cases h
    · rename_i hl
      split at h
      · rename_i hp
        refine ⟨hp, fun k hk => ?_⟩
        have hs := kidsAll_seen nodes nodes 0 (List.replicate nodes.length false) (by omega) ⟨by simp, fun m hm => by rw [List.getElem?_replicate] at hm; split at hm <;> simp at hm⟩
        have hx := List.getElem?_eq_getElem hk
        have hpar : par nodes (k : Int) = nodes[k].parent := by unfold par; rw [Int.toNat_natCast, hx]; rfl
        rcases lost_false nodes _ (by simpa using hl) hs.1.symm k _ hx with h1 | h1
        · exact .inl (hpar.trans h1)
        · exact .inr (hs.2 k h1)
      · cases h
  · rename_i h0; exact absurd h h0
/-- Where one comes to, so many parents up. -/
def climb (nodes : List Nd) : Nat → Int → Int
  | 0, n => n
  | m + 1, n => climb nodes m (par nodes n)
theorem upF_ge (nodes : List Nd) : ∀ (f : Nat) (n : Int) (many : Nat), many ≤ upF nodes f n many
  | 0, _, _ => Nat.le_refl _
  | f + 1, n, many => by
    unfold upF
    split
    · exact Nat.le_trans (Nat.le_succ _) (upF_ge nodes f _ _)
    · exact Nat.le_refl _
theorem upF_end (nodes : List Nd) : ∀ (f : Nat) (n : Int) (many : Nat), nodes.length + 2 ≤ f + many → upF nodes f n many ≤ nodes.length → par nodes (climb nodes (upF nodes f n many - many) n) < 0 ∧ ∀ m, m < upF nodes f n many - many → 0 ≤ par nodes (climb nodes m n)
  | 0, n, many, hf, h => by unfold upF at h; omega
  | f + 1, n, many, hf, h => by
    unfold upF at h ⊢
    split
    · rename_i hc
      rw [if_pos hc] at h
      obtain ⟨a, b⟩ := upF_end nodes f (par nodes n) (many + 1) (by omega) h
      have hg := upF_ge nodes f (par nodes n) (many + 1)
      have e : upF nodes f (par nodes n) (many + 1) - many = (upF nodes f (par nodes n) (many + 1) - (many + 1)) + 1 := by omega
      rw [e]
      refine ⟨a, fun m hm => ?_⟩
      cases m with
      | zero => exact hc.1
      | succ m => exact b m (by omega)
    · rename_i hc
      rw [if_neg hc] at h
      rw [Nat.sub_self]
      exact ⟨by simp only [climb]; omega, fun m hm => by omega⟩
theorem upErr_ok (nodes : List Nd) : ∀ l : List Nat, upErr nodes l = 0 → ∀ i ∈ l, up nodes (i : Int) ≤ nodes.length ∧ up nodes (i : Int) ≤ 40
  | [], _, i, hi => by simp at hi
  | j :: l, h, i, hi => by
    unfold upErr at h
    split at h
    · cases h
    · split at h
      · cases h
      · rcases List.mem_cons.1 hi with rfl | hi
        · omega
        · exact upErr_ok nodes l h i hi
/-- What a document that is right is, as far as the paths ask. -/
structure DocOk (nodes : List Nd) : Prop where
  n1 : 0 < nodes.length
  n2 : nodes.length ≤ 200
  root : par nodes 0 = -1
  valid : ∀ k : Nat, k < nodes.length → par nodes (k : Int) = -1 ∨ (0 ≤ par nodes (k : Int) ∧ par nodes (k : Int) < (nodes.length : Int))
  ends : ∀ k : Nat, k < nodes.length → ∃ m, m ≤ 40 ∧ par nodes (climb nodes m (k : Int)) < 0 ∧ ∀ j, j < m → 0 ≤ par nodes (climb nodes j (k : Int))
theorem doc_ok (nodes : List Nd) (h : docErr nodes = 0) : DocOk nodes := by
  unfold docErr at h
  split at h
  · cases h
  · split at h
    · cases h
    · split at h
      · split at h
        · rename_i hk
          obtain ⟨k1, k2⟩ := kids_ok nodes hk
          refine ⟨by omega, by omega, k1, k2, fun k hlt => ?_⟩
          obtain ⟨u1, u2⟩ := upErr_ok nodes _ h k (List.mem_range.2 hlt)
          obtain ⟨a, b⟩ := upF_end nodes (nodes.length + 2) (k : Int) 0 (by omega) u1
          exact ⟨up nodes (k : Int), u2, a, b⟩
        · rename_i hk; exact absurd h hk
      · rename_i hk; exact absurd h hk
end Go.Proofs.YtnnckjgafglgeaaDoor
