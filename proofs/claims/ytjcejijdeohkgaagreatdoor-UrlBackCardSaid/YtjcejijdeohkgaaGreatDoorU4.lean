/- Plain: hosts, ports, segments. -/
import Derived.Test.YtjcejijdeohkgaaGreatDoorU3
namespace Go.Proofs.YtjcejijdeohkgaaGreatDoor

theorem dropW_nil {p : UInt8 → Bool} : ∀ {l : Bs}, l.dropWhile p = [] → ∀ x ∈ l, p x = true
  | [], _, x, hx => by cases hx
  | a :: l, h, x, hx => by
    rw [List.dropWhile_cons] at h
    split at h
    · rename_i ha
      rcases List.mem_cons.1 hx with rfl | hx
      · exact ha
      · exact dropW_nil h x hx
    · cases h
theorem dropW_all {p : UInt8 → Bool} : ∀ {l : Bs}, (∀ x ∈ l, p x = true) → l.dropWhile p = []
  | [], _ => rfl
  | a :: l, h => by
    rw [List.dropWhile_cons, if_pos (h a (by simp))]
    exact dropW_all (fun x hx => h x (List.mem_cons_of_mem _ hx))
theorem dropW_mem {p : UInt8 → Bool} : ∀ {l : Bs} {x : UInt8}, x ∈ l → x ∈ l.dropWhile p ∨ p x = true
  | [], x, hx => by cases hx
  | a :: l, x, hx => by
    rw [List.dropWhile_cons]
    split
    · rename_i ha
      rcases List.mem_cons.1 hx with rfl | hx
      · exact .inr ha
      · exact dropW_mem hx
    · exact .inl hx
theorem trim_iff (l cs : Bs) : Lib.trimS l cs = [] ↔ ∀ x ∈ l, x ∈ cs := by
  unfold Lib.trimS Lib.trimLeftS Lib.trimRightS
  constructor
  · intro h x hx
    have h2 := dropW_nil h
    rcases dropW_mem (p := (cs.contains ·)) (List.mem_reverse.2 hx) with h3 | h3
    · have := h2 x (List.mem_reverse.2 h3)
      simpa using this
    · simpa using h3
  · intro h
    have e : l.reverse.dropWhile (cs.contains ·) = [] := dropW_all (fun x hx => by simpa using h x (List.mem_reverse.1 hx))
    rw [e]
    rfl
theorem splitC_mem {c : UInt8} : ∀ {s : Bs} {b : UInt8}, b ∈ s → b = c ∨ ∃ p ∈ splitC c s, b ∈ p
  | [], b, h => by cases h
  | a :: r, b, h => by
    by_cases ha : a = c
    · subst ha
      rcases List.mem_cons.1 h with rfl | h
      · exact .inl rfl
      · rcases splitC_mem (c := a) h with h1 | ⟨p, hp, hb⟩
        · exact .inl h1
        · refine .inr ⟨p, ?_, hb⟩
          unfold splitC
          rw [if_pos rfl]
          exact List.mem_cons_of_mem _ hp
    · rcases List.mem_cons.1 h with rfl | h
      · right
        unfold splitC
        rw [if_neg ha]
        cases hs : splitC c r with
        | nil => exact ⟨[b], by simp, by simp⟩
        | cons p ps => exact ⟨b :: p, by simp, by simp⟩
      · rcases splitC_mem (c := c) h with h1 | ⟨p, hp, hb⟩
        · exact .inl h1
        · right
          unfold splitC
          rw [if_neg ha]
          cases hs : splitC c r with
          | nil => rw [hs] at hp; cases hp
          | cons q ps =>
            rw [hs] at hp
            rcases List.mem_cons.1 hp with rfl | hp
            · exact ⟨a :: p, by simp, List.mem_cons_of_mem _ hb⟩
            · exact ⟨p, by simp [hp], hb⟩
theorem host_chars {h : Bs} (hh : hostP h = true) : ∀ b ∈ h, b ∈ hostSet ∨ b = 46 := by
  unfold hostP at hh
  rw [Bool.and_eq_true, List.all_eq_true] at hh
  intro b hb
  rcases splitC_mem (c := 46) hb with h1 | ⟨p, hp, hb⟩
  · exact .inr h1
  · left
    have := hh.2 p hp
    rw [Bool.and_eq_true] at this
    have e : Lib.trimS p hostSet = [] := by simpa using this.2
    exact (trim_iff _ _).1 e b hb
theorem host_ok {b : UInt8} (h : b ∈ hostSet ∨ b = 46) : b.toNat < 128 ∧ lowC b = b ∧ b ≠ 58 ∧ endSet.contains b = false := by
  rcases h with h | rfl
  · exact host_low b h
  · decide
theorem map_low : ∀ {l : Bs}, (∀ x ∈ l, lowC x = x) → l.map lowC = l
  | [], _ => rfl
  | a :: l, h => by rw [List.map_cons, h a (by simp), map_low (fun x hx => h x (List.mem_cons_of_mem _ hx))]
theorem host_small {h : Bs} (hh : hostP h = true) : smallP h = h := by
  have k := host_chars hh
  rw [small_asc _ (fun c hc => (host_ok (k c hc)).1), map_low (fun c hc => (host_ok (k c hc)).2.1)]
theorem decFrom_app : ∀ (a b : Bs) (n : Nat), Lib.decFrom n (a ++ b) = (Lib.decFrom n a).bind (fun v => Lib.decFrom v b)
  | [], b, n => rfl
  | c :: a, b, n => by
    have e : ∀ l, Lib.decFrom n (c :: l) = match Lib.digitVal c with
      | some d => Lib.decFrom (n * 10 + d) l
      | none => none := fun l => by rw [Lib.decFrom]; rfl
    rw [List.cons_append, e, e]
    cases h : Lib.digitVal c with
    | none => rfl
    | some d => exact decFrom_app a b _
theorem dig_val : ∀ n : Fin 10, Lib.digitVal (UInt8.ofNat (48 + n.val)) = some n.val := by decide
theorem dig_mem : ∀ n : Fin 10, UInt8.ofNat (48 + n.val) ∈ digs := by decide
theorem dec_back (u : Nat) : Lib.decFrom 0 (Lib.decDigits u) = some u := by
  induction u using Nat.strongRecOn with
  | _ u ih =>
    rw [Lib.decDigits]
    split
    · rename_i h
      have := dig_val ⟨u, h⟩
      simp only at this
      unfold Lib.decFrom
      rw [this]
      simp only [Nat.zero_mul, Nat.zero_add]
      rfl
    · rename_i h
      rw [decFrom_app, ih (u / 10) (by omega)]
      have := dig_val ⟨u % 10, by omega⟩
      simp only at this
      show Lib.decFrom (u / 10) [UInt8.ofNat (48 + u % 10)] = _
      unfold Lib.decFrom
      rw [this]
      show some (u / 10 * 10 + u % 10) = some u
      congr 1
      omega
theorem dec_mem (u : Nat) : ∀ b ∈ Lib.decDigits u, b ∈ digs := by
  induction u using Nat.strongRecOn with
  | _ u ih =>
    intro b hb
    rw [Lib.decDigits] at hb
    split at hb
    · rename_i h
      rw [List.mem_singleton] at hb
      subst hb
      exact dig_mem ⟨u, h⟩
    · rename_i h
      rcases List.mem_append.1 hb with hb | hb
      · exact ih (u / 10) (by omega) b hb
      · rw [List.mem_singleton] at hb
        subst hb
        exact dig_mem ⟨u % 10, by omega⟩
theorem dec_len : ∀ (k u : Nat), u < 10 ^ (k + 1) → (Lib.decDigits u).length ≤ k + 1
  | 0, u, h => by
    rw [Lib.decDigits, dif_pos (by simpa using h)]
    simp
  | k + 1, u, h => by
    rw [Lib.decDigits]
    split
    · simp
    · have h2 : u < 10 ^ (k + 1) * 10 := by rw [← Nat.pow_succ]; exact h
      have := dec_len k (u / 10) (Nat.div_lt_of_lt_mul (by rw [Nat.mul_comm]; exact h2))
      rw [List.length_append]
      simp only [List.length_cons, List.length_nil]
      omega
theorem dec_ne (u : Nat) : Lib.decDigits u ≠ [] := by
  rw [Lib.decDigits]
  split <;> simp
theorem num_dec (u : Nat) (h : u < 65536) : numP (Lib.decDigits u) = (u : Int) := by
  have hl : (Lib.decDigits u).length ≤ 5 := dec_len 4 u (by omega)
  have e := Lib.parseUint10_short (Lib.decDigits u) 0 0 (by decide) (by omega)
  rw [dec_back] at e
  have hp : Lib.parseMag (Lib.decDigits u) = .ok u := by
    unfold Lib.parseMag
    rw [if_neg (dec_ne u), e]
    rfl
  unfold numP
  have hm := dec_mem u
  cases hd : Lib.decDigits u with
  | nil => exact absurd hd (dec_ne u)
  | cons c r =>
    rw [hd] at hp hm
    have hc : c ∈ digs := hm c (by simp)
    have h43 : ∀ x ∈ digs, x.toNat ≠ 43 ∧ x.toNat ≠ 45 := by decide
    obtain ⟨n1, n2⟩ := h43 c hc
    have e2 : Lib.atoiAll (c :: r) = .ok (u : Int) := by
      unfold Lib.atoiAll
      simp only [n1, n2, or_self, if_false, hp]
      rw [if_neg (by omega)]
      simp
    rw [e2]
def NoDot (p : Bs) : Prop := p ≠ [46] ∧ p ≠ [46, 46]
theorem tidyF_good : ∀ (l out : List Bs), (∀ p ∈ out, NoDot p) → ∀ p ∈ tidyF out l, NoDot p
  | [], out, h => by unfold tidyF; exact h
  | s :: r, out, h => by
    unfold tidyF
    have hd : ∀ p ∈ (if s = [46, 46] then out.dropLast else out), NoDot p := by
      split
      · exact fun p hp => h p (List.dropLast_subset _ hp)
      · exact h
    split
    · split
      · refine tidyF_good r _ (fun p hp => ?_)
        rcases List.mem_append.1 hp with hp | hp
        · exact hd p hp
        · rw [List.mem_singleton] at hp
          subst hp
          exact ⟨by simp, by simp⟩
      · exact tidyF_good r _ hd
    · rename_i hs
      refine tidyF_good r _ (fun p hp => ?_)
      rcases List.mem_append.1 hp with hp | hp
      · exact h p hp
      · rw [List.mem_singleton] at hp
        subst hp
        exact ⟨fun e => hs (.inl e), fun e => hs (.inr e)⟩
theorem tidyF_id : ∀ (l out : List Bs), (∀ p ∈ l, NoDot p) → tidyF out l = out ++ l
  | [], out, _ => by unfold tidyF; rw [List.append_nil]
  | s :: r, out, h => by
    unfold tidyF
    have hs := h s (by simp)
    rw [if_neg (fun e => e.elim hs.1 hs.2), tidyF_id r _ (fun p hp => h p (List.mem_cons_of_mem _ hp)), List.append_assoc]
    rfl
theorem tidy_good (l : List Bs) : tidyP l ≠ [] ∧ ∀ p ∈ tidyP l, NoDot p := by
  unfold tidyP
  split
  · refine ⟨by simp, fun p hp => ?_⟩
    rw [List.mem_singleton] at hp
    subst hp
    exact ⟨by simp, by simp⟩
  · rename_i h
    exact ⟨h, tidyF_good l [] (fun p hp => by cases hp)⟩
theorem tidy_id {l : List Bs} (h0 : l ≠ []) (h : ∀ p ∈ l, NoDot p) : tidyP l = l := by
  unfold tidyP
  rw [tidyF_id l [] h, List.nil_append, if_neg h0]
theorem enc_free (p : Bs) {c : UInt8} (h1 : plainP c = false) (h2 : c ≠ 37) : c ∉ encP p := by
  intro h
  rcases enc_bytes p c h with h | h
  · rw [h1] at h; cases h
  · exact h2 h
theorem clean_free {s q : Bs} (h : cleanP s = some q) {c : UInt8} (h1 : plainP c = false) (h2 : keptSet.contains c = false) (h3 : c ≠ 37) : c ∉ q := by
  intro hc
  rcases clean_bytes h c hc with h4 | h4 | h4
  · rw [h1] at h4; cases h4
  · rw [h2] at h4; cases h4
  · exact h3 h4
/-- Segments, as they are written. -/
def joinT (l : List Bs) : Bs := l.flatMap (fun p => 47 :: encP p)
theorem split_join : ∀ (p : Bs) (l : List Bs), splitC 47 (encP p ++ joinT l) = encP p :: (l.map encP)
  | p, [] => by
    have : joinT [] = [] := rfl
    rw [this, List.append_nil]
    exact splitC_not (enc_free p (by decide) (by decide))
  | p, q :: l => by
    have e : joinT (q :: l) = 47 :: (encP q ++ joinT l) := rfl
    rw [e, splitC_cut _ (enc_free p (by decide) (by decide)), split_join q l, List.map_cons]
theorem segs_enc : ∀ (l : List Bs), segsP (l.map encP) = some l
  | [] => rfl
  | p :: l => by
    rw [List.map_cons, segsP, dec_enc]
    simp only [segs_enc l]
    rfl
theorem join_free (l : List Bs) {c : UInt8} (h0 : c ≠ 47) (h1 : plainP c = false) (h2 : c ≠ 37) : c ∉ joinT l := by
  intro h
  obtain ⟨p, _, hp⟩ := List.mem_flatMap.1 h
  rcases List.mem_cons.1 hp with hp | hp
  · exact h0 hp
  · exact enc_free p h1 h2 hp
end Go.Proofs.YtjcejijdeohkgaaGreatDoor
