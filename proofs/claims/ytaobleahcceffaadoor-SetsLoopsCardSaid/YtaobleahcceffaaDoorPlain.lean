/-
  Plain laws: a set's numbers as a rising list, and how putting, dropping and joining turn it. Conditions: the words of a set as the set's code keeps them.
-/
import Derived.Test.YtaobleahcceffaaDoorRefL
import Derived.Test.YtaobleahcceffaaDoorSets3
import Derived.Test.YtaobleahcceffaaDoorLow
set_option linter.unusedVariables false
set_option linter.unusedSimpArgs false
namespace Go.Proofs.YtaobleahcceffaaDoor

def bl (ws : List Nat) : List Int := (blist ws).map fun (n : Nat) => (n : Int)
theorem bl_len (ws : List Nat) : (bl ws).length = (blist ws).length := by simp [bl]
theorem mem_bl {ws : List Nat} {n : Int} : n ∈ bl ws ↔ 0 ≤ n ∧ bhas ws n.toNat = true := by
  unfold bl
  rw [List.mem_map]
  constructor
  · rintro ⟨m, hm, rfl⟩
    exact ⟨by omega, by simpa using mem_blist.1 hm⟩
  · rintro ⟨h0, h⟩
    exact ⟨n.toNat, mem_blist.2 h, by omega⟩
theorem bl_sorted (ws : List Nat) : (bl ws).Pairwise (· < ·) := by
  unfold bl
  rw [List.pairwise_map]
  exact (pairwise_blist ws).imp fun h => by omega
theorem bl_nil : bl [] = [] := rfl
theorem bl_small {ws : List Nat} (h : BOk ws) {n : Int} (hn : n ∈ bl ws) : n < 65536 := by
  obtain ⟨h0, h1⟩ := mem_bl.1 hn
  have hl := h.len
  by_cases hg : ws.length ≤ n.toNat / 64
  · rw [bhas_ge hg] at h1; cases h1
  · omega
theorem sorted_ext : ∀ {l m : List Int}, l.Pairwise (· < ·) → m.Pairwise (· < ·) → (∀ n, n ∈ l ↔ n ∈ m) → l = m
  | [], [], _, _, _ => rfl
  | [], b :: m, _, _, h => by have := (h b).2 (by simp); simp at this
  | a :: l, [], _, _, h => by have := (h a).1 (by simp); simp at this
  | a :: l, b :: m, hl, hm, h => by
    obtain ⟨ha, hl'⟩ := List.pairwise_cons.1 hl
    obtain ⟨hb, hm'⟩ := List.pairwise_cons.1 hm
    have hab : a = b := by
      have h1 := (h a).1 (by simp)
      have h2 := (h b).2 (by simp)
      rcases List.mem_cons.1 h1 with e | e
      · exact e
      · rcases List.mem_cons.1 h2 with e2 | e2
        · exact e2.symm
        · have := hb a e; have := ha b e2; omega
    subst hab
    rw [sorted_ext hl' hm' fun n => ?_]
    constructor
    · intro hn
      rcases List.mem_cons.1 ((h n).1 (List.mem_cons_of_mem _ hn)) with e | e
      · have := ha n hn; omega
      · exact e
    · intro hn
      rcases List.mem_cons.1 ((h n).2 (List.mem_cons_of_mem _ hn)) with e | e
      · have := hb n hn; omega
      · exact e
theorem sorted_rputG {l : List Int} (hl : l.Pairwise (· < ·)) (n : Int) : (rputG l n).Pairwise (· < ·) := by
  unfold rputG
  split
  · exact hl
  · rw [List.pairwise_append, List.pairwise_append]
    refine ⟨⟨hl.filter _, by simp, ?_⟩, hl.filter _, ?_⟩
    · intro a ha b hb
      simp at ha hb
      omega
    · intro a ha b hb
      simp at ha hb
      omega
theorem mem_rputG {l : List Int} {n m : Int} : m ∈ rputG l n ↔ m ∈ l ∨ m = n := by
  unfold rputG
  split
  · rename_i h
    have h : n ∈ l := by simpa using h
    constructor
    · exact .inl
    · rintro (h' | rfl)
      · exact h'
      · exact h
  · simp only [List.mem_append, List.mem_filter, List.mem_singleton, decide_eq_true_eq]
    constructor
    · rintro ((⟨h, _⟩ | h) | ⟨h, _⟩)
      · exact .inl h
      · exact .inr h
      · exact .inl h
    · rintro (h | h)
      · rcases Int.lt_trichotomy m n with h1 | h1 | h1
        · exact .inl (.inl ⟨h, h1⟩)
        · exact .inl (.inr h1)
        · exact .inr ⟨h, h1⟩
      · exact .inl (.inr h)
theorem rputG_len_new {l : List Int} (hl : l.Pairwise (· < ·)) {n : Int} (h : n ∉ l) : (rputG l n).length = l.length + 1 := by
  have hc : l.contains n = false := by simpa using h
  have e : ∀ l : List Int, n ∉ l → (l.filter (fun x => decide (x < n))).length + (l.filter (fun x => decide (n < x))).length = l.length := by
    intro l
    induction l with
    | nil => intro; rfl
    | cons a l ih =>
      intro h
      have h1 := ih fun h' => h (List.mem_cons_of_mem _ h')
      have h2 : a ≠ n := fun e => h (by simp [e])
      by_cases h3 : a < n
      · have h4 : ¬ n < a := by omega
        simp [List.filter_cons, h3, h4]; omega
      · have h4 : n < a := by omega
        simp [List.filter_cons, h3, h4]; omega
  have := e l h
  simp only [rputG, hc, Bool.false_eq_true, if_false, List.length_append, List.length_cons, List.length_nil]
  omega
theorem bl_put {ws : List Nat} (h : BOk ws) (n : Int) : r3put (bl ws) n = bl (putWords ws n) := by
  unfold r3put putWords
  by_cases hr : n < 0 ∨ 65535 < n
  · rw [if_pos hr]
    have : putTells ws n = false := by
      unfold putTells
      rcases hr with hr | hr
      · have : ¬ 0 ≤ n := by omega
        simp [this]
      · have : ¬ n < 65536 := by omega
        simp [this]
    rw [this]; rfl
  · rw [if_neg hr]
    have h0 : 0 ≤ n := by omega
    have h1 : n < 65536 := by omega
    by_cases ht : putTells ws n = true
    · rw [if_pos ht]
      refine sorted_ext (sorted_rputG (bl_sorted _) n) (bl_sorted _) fun m => ?_
      rw [mem_rputG, mem_bl, mem_bl, bhas_put]
      simp only [Bool.or_eq_true, beq_iff_eq]
      constructor
      · rintro (⟨a, b⟩ | rfl)
        · exact ⟨a, .inl b⟩
        · exact ⟨h0, .inr rfl⟩
      · rintro ⟨a, b | b⟩
        · exact .inl ⟨a, b⟩
        · exact .inr (by omega)
    · rw [if_neg ht]
      have hb : bhas ws n.toNat = true := by
        unfold putTells at ht
        simpa [h0, h1] using ht
      have hc : (bl ws).contains n = true := by simpa using mem_bl.2 ⟨h0, hb⟩
      unfold rputG
      rw [if_pos hc]
theorem put_tells {ws : List Nat} (h : BOk ws) (n : Int) : putTells ws n = decide ((bl ws).length < (bl (putWords ws n)).length) := by
  by_cases ht : putTells ws n = true
  · rw [ht]
    rw [← bl_put h]
    have ht' := ht
    unfold putTells at ht'
    simp only [Bool.and_eq_true, decide_eq_true_eq, Bool.not_eq_true'] at ht'
    have e : r3put (bl ws) n = rputG (bl ws) n := by unfold r3put; rw [if_neg (by omega)]
    rw [e, rputG_len_new (bl_sorted _) (fun hm => by have := (mem_bl.1 hm).2; rw [ht'.2] at this; cases this)]
    simp
  · have hf : putTells ws n = false := by simpa using ht
    unfold putWords
    rw [hf]
    simp
theorem bl_drop {ws : List Nat} (h : BOk ws) (n : Int) : rdrop (bl ws) n = bl (dropWords ws n) := by
  refine sorted_ext ((bl_sorted _).filter _) (bl_sorted _) fun m => ?_
  rw [rdrop, List.mem_filter, mem_bl, mem_bl]
  unfold dropWords
  by_cases ht : dropTells ws n = true
  · rw [if_pos ht]
    unfold dropTells at ht
    simp only [Bool.and_eq_true, decide_eq_true_eq] at ht
    have hlt : n.toNat / 64 < ws.length := by
      by_cases hg : ws.length ≤ n.toNat / 64
      · rw [bhas_ge hg] at ht; cases ht.2
      · omega
    rw [bhas_drop h _ _ hlt]
    simp only [Bool.and_eq_true, bne_iff_ne, decide_eq_true_eq]
    constructor
    · rintro ⟨⟨a, b⟩, c⟩
      exact ⟨a, b, by omega⟩
    · rintro ⟨a, b, c⟩
      exact ⟨⟨a, b⟩, by omega⟩
  · rw [if_neg ht]
    constructor
    · exact fun h => h.1
    · intro hm
      refine ⟨hm, decide_eq_true fun e => ?_⟩
      subst e
      apply ht
      unfold dropTells
      simp [hm.1, hm.2]
theorem rdrop_len {l : List Int} (hl : l.Pairwise (· < ·)) {n : Int} (h : n ∈ l) : (rdrop l n).length + 1 = l.length := by
  induction l with
  | nil => simp at h
  | cons a l ih =>
    obtain ⟨ha, hl'⟩ := List.pairwise_cons.1 hl
    by_cases e : a = n
    · subst e
      have : ∀ x ∈ l, decide (x ≠ a) = true := fun x hx => by have := ha x hx; exact decide_eq_true (by omega)
      have h2 := List.filter_eq_self.2 this
      simp only [rdrop, List.filter_cons, ne_eq, not_true_eq_false, decide_false, Bool.false_eq_true, if_false]
      have h3 : List.filter (fun x => decide ¬x = a) l = l := h2
      rw [h3]; rfl
    · have hn : n ∈ l := by
        rcases List.mem_cons.1 h with h | h
        · exact absurd h.symm e
        · exact h
      have := ih hl' hn
      simp only [rdrop, List.filter_cons, ne_eq, e, not_false_eq_true, decide_true, if_true, List.length_cons] at this ⊢
      omega
theorem drop_tells {ws : List Nat} (h : BOk ws) (n : Int) : dropTells ws n = decide ((bl (dropWords ws n)).length < (bl ws).length) := by
  by_cases ht : dropTells ws n = true
  · rw [ht, ← bl_drop h]
    unfold dropTells at ht
    simp only [Bool.and_eq_true, decide_eq_true_eq] at ht
    have := rdrop_len (bl_sorted ws) (mem_bl.2 ht)
    exact (decide_eq_true (by omega)).symm
  · have hf : dropTells ws n = false := by simpa using ht
    unfold dropWords
    rw [hf]
    simp
theorem bl_foldl : ∀ (l : List Int) {ws : List Nat}, BOk ws → l.foldl r3put (bl ws) = bl (l.foldl putWords ws)
  | [], _, _ => rfl
  | n :: l, ws, h => by
    rw [List.foldl_cons, List.foldl_cons, bl_put h]
    exact bl_foldl l (h.putWords n)
theorem bl_of (l : List Int) : rof l = bl (bofs [] l) := bl_foldl l BOk.nil
theorem BOk.bofs : ∀ (l : List Int) {ws : List Nat}, BOk ws → BOk (l.foldl Go.Proofs.YtaobleahcceffaaDoor.putWords ws)
  | [], _, h => h
  | n :: l, ws, h => BOk.bofs l (h.putWords n)
theorem BOk.dropWords {ws : List Nat} (h : BOk ws) (n : Int) : BOk (Go.Proofs.YtaobleahcceffaaDoor.dropWords ws n) := by
  unfold Go.Proofs.YtaobleahcceffaaDoor.dropWords
  split
  · rename_i ht
    unfold dropTells at ht
    simp only [Bool.and_eq_true, decide_eq_true_eq] at ht
    have hlt : n.toNat / 64 < ws.length := by
      by_cases hg : ws.length ≤ n.toNat / 64
      · rw [bhas_ge hg] at ht; cases ht.2
      · omega
    exact h.drop hlt
  · exact h
theorem bl_has (ws : List Nat) (n : Int) : (bl ws).contains n = (decide (0 ≤ n) && bhas ws n.toNat) := by
  by_cases h : n ∈ bl ws
  · have h2 := mem_bl.1 h
    have h3 : (bl ws).contains n = true := by simpa using h
    rw [h3]; simp [h2.1, h2.2]
  · have h3 : (bl ws).contains n = false := by simpa using h
    rw [h3]
    symm
    simp only [Bool.and_eq_false_iff, decide_eq_false_iff_not]
    by_cases h0 : 0 ≤ n
    · refine .inr ?_
      cases hb : bhas ws n.toNat
      · rfl
      · exact absurd (mem_bl.2 ⟨h0, hb⟩) h
    · exact .inl h0
end Go.Proofs.YtaobleahcceffaaDoor
