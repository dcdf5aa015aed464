/-
  The sets of package sets, as lists of words: what Has, Put, Drop, Join, Minus, Clone and Len make of them, in plain numbers. Conditions: words below 2^64, at most 1024 of them. Nothing here speaks of a program's text.
-/
import Derived.Test.YtaobleahcceffaaDoorBase
namespace Go.Proofs.YtaobleahcceffaaDoor
open Go.RowKit

def two64 : Nat := 18446744073709551616
def bword (ws : List Nat) (i : Nat) : Nat := ws[i]?.getD 0
/-- Is n in the set? -/
def bhas (ws : List Nat) (n : Nat) : Bool := (bword ws (n / 64)).testBit (n % 64)
structure BOk (ws : List Nat) : Prop where
  len : ws.length ≤ 1024
  small : ∀ i, bword ws i < 18446744073709551616

theorem bword_lt {ws : List Nat} {i : Nat} (h : i < ws.length) : ws[i]? = some (bword ws i) := by
  simp [bword, List.getElem?_eq_getElem h]
theorem bword_ge {ws : List Nat} {i : Nat} (h : ws.length ≤ i) : bword ws i = 0 := by
  simp [bword, List.getElem?_eq_none h]
theorem bhas_ge {ws : List Nat} {n : Nat} (h : ws.length ≤ n / 64) : bhas ws n = false := by
  simp [bhas, bword_ge h]
theorem BOk.nil : BOk [] := ⟨by simp, fun i => by simp [bword]⟩
theorem BOk.below {ws : List Nat} (h : BOk ws) {n : Nat} (hn : bhas ws n = true) : n < 65536 := by
  rcases Nat.lt_or_ge (n / 64) ws.length with h' | h'
  · have := h.len; omega
  · rw [bhas_ge h'] at hn; cases hn

/-- Two sets of the same numbers have the same words, but for zeros at the end. -/
theorem bword_of_bhas {vs ws : List Nat} (hv : BOk vs) (hw : BOk ws) (h : ∀ n, bhas vs n = bhas ws n) (i : Nat) : bword vs i = bword ws i := by
  apply Nat.eq_of_testBit_eq
  intro j
  rcases Nat.lt_or_ge j 64 with hj | hj
  · have := h (64 * i + j)
    have e1 : (64 * i + j) / 64 = i := by omega
    have e2 : (64 * i + j) % 64 = j := by omega
    simpa only [bhas, e1, e2] using this
  · have h1 : (2 : Nat) ^ 64 ≤ 2 ^ j := Nat.pow_le_pow_right (by omega) hj
    have e : (2 : Nat) ^ 64 = 18446744073709551616 := by decide
    have h2 := hv.small i
    have h3 := hw.small i
    rw [Nat.testBit_lt_two_pow (by omega), Nat.testBit_lt_two_pow (by omega)]

/-! ### Put, Drop -/
/-- Words enough for word i. -/
def bgrow (ws : List Nat) (i : Nat) : List Nat := ws ++ List.replicate (i + 1 - ws.length) 0
theorem bword_grow (ws : List Nat) (i j : Nat) : bword (bgrow ws i) j = bword ws j := by
  unfold bword bgrow
  rcases Nat.lt_or_ge j ws.length with h | h
  · rw [List.getElem?_append_left h]
  · rw [List.getElem?_append_right h, List.getElem?_eq_none h, List.getElem?_replicate]
    split <;> rfl
theorem bgrow_len (ws : List Nat) (i : Nat) : i < (bgrow ws i).length := by simp [bgrow]; omega
theorem bgrow_has {ws : List Nat} {i : Nat} (h : i < ws.length) : bgrow ws i = ws := by
  have : i + 1 - ws.length = 0 := by omega
  simp [bgrow, this]
theorem bgrow_step {ws : List Nat} {i : Nat} (h : ws.length ≤ i) : bgrow (ws ++ [0]) i = bgrow ws i := by
  have : i + 1 - ws.length = (i + 1 - (ws ++ [0]).length) + 1 := by simp; omega
  unfold bgrow
  rw [this, List.replicate_succ, List.append_assoc]
  rfl
theorem BOk.grow {ws : List Nat} (h : BOk ws) {i : Nat} (hi : i < 1024) : BOk (bgrow ws i) :=
  ⟨by have := h.len; simp [bgrow]; omega, fun j => by rw [bword_grow]; exact h.small j⟩
theorem BOk.snoc {ws : List Nat} (h : BOk ws) (hl : ws.length < 1024) : BOk (ws ++ [0]) := by
  refine ⟨by simp; omega, fun j => ?_⟩
  have := bword_grow ws ws.length j
  have e : bgrow ws ws.length = ws ++ [0] := by simp [bgrow]
  rw [e] at this
  rw [this]; exact h.small j
theorem bword_set (ws : List Nat) (i x j : Nat) (hi : i < ws.length) : bword (ws.set i x) j = if i = j then x else bword ws j := by
  unfold bword
  rw [List.getElem?_set]
  split
  · rename_i e; subst e; simp [hi]
  · rfl
theorem BOk.set {ws : List Nat} (h : BOk ws) {i x : Nat} (hi : i < ws.length) (hx : x < 18446744073709551616) : BOk (ws.set i x) :=
  ⟨by simpa using h.len, fun j => by rw [bword_set _ _ _ _ hi]; split; exact hx; exact h.small j⟩

def bput (ws : List Nat) (n : Nat) : List Nat := (bgrow ws (n / 64)).set (n / 64) (bword ws (n / 64) ||| 2 ^ (n % 64))
theorem two_pow_small (k : Nat) : (2 : Nat) ^ (k % 64) < 18446744073709551616 := by
  have h : (2 : Nat) ^ (k % 64) < 2 ^ 64 := Nat.pow_lt_pow_right (by omega) (Nat.mod_lt _ (by omega))
  exact h
theorem or_small {a b : Nat} (ha : a < 18446744073709551616) (hb : b < 18446744073709551616) : a ||| b < 18446744073709551616 :=
  Nat.or_lt_two_pow (n := 64) ha hb
theorem and_small {a : Nat} (b : Nat) (ha : a < 18446744073709551616) : a &&& b < 18446744073709551616 :=
  Nat.lt_of_le_of_lt Nat.and_le_left ha
theorem BOk.put {ws : List Nat} (h : BOk ws) {n : Nat} (hn : n < 65536) : BOk (bput ws n) :=
  (h.grow (by omega)).set (bgrow_len _ _) (or_small (h.small _) (two_pow_small n))
theorem bhas_put (ws : List Nat) (n m : Nat) : bhas (bput ws n) m = (bhas ws m || m == n) := by
  unfold bhas bput
  rw [bword_set _ _ _ _ (bgrow_len _ _), bword_grow]
  split
  · rename_i e
    rw [Nat.testBit_or, Nat.testBit_two_pow, e]
    congr 1
    rcases Nat.decEq m n with h | h
    · rw [show (m == n) = false by simpa using h]
      simp; omega
    · subst h; simp
  · rename_i e
    rw [show (m == n) = false by simp; rintro rfl; exact e rfl, Bool.or_false]

/-- 'x &^ y' of words. -/
def bclear (x y : Nat) : Nat := x &&& (18446744073709551615 - y)
theorem testBit_clear {x y : Nat} (hx : x < 18446744073709551616) (hy : y < 18446744073709551616) (j : Nat) : (bclear x y).testBit j = (x.testBit j && !y.testBit j) := by
  unfold bclear
  rw [Nat.testBit_and]
  rcases Nat.lt_or_ge j 64 with hj | hj
  · have := Nat.testBit_two_pow_sub_succ (n := 64) (x := y) hy j
    have e : (2 : Nat) ^ 64 - (y + 1) = 18446744073709551615 - y := by omega
    rw [e] at this
    rw [this]
    simp [hj]
  · have h1 : (2 : Nat) ^ 64 ≤ 2 ^ j := Nat.pow_le_pow_right (by omega) hj
    rw [Nat.testBit_lt_two_pow (x := x) (by omega)]
    rfl
def bdrop (ws : List Nat) (n : Nat) : List Nat := ws.set (n / 64) (bclear (bword ws (n / 64)) (2 ^ (n % 64)))
theorem BOk.drop {ws : List Nat} (h : BOk ws) {n : Nat} (hn : n / 64 < ws.length) : BOk (bdrop ws n) := h.set hn (and_small _ (h.small _))
theorem bhas_drop {ws : List Nat} (h : BOk ws) (n m : Nat) (hn : n / 64 < ws.length) : bhas (bdrop ws n) m = (bhas ws m && m != n) := by
  unfold bhas bdrop
  rw [bword_set _ _ _ _ hn]
  split
  · rename_i e
    rw [testBit_clear (h.small _) (two_pow_small n), Nat.testBit_two_pow, e]
    congr 1
    rcases Nat.decEq m n with h | h
    · rw [show (m != n) = true by simpa using h]
      simp; omega
    · subst h; simp
  · rename_i e
    rw [show (m != n) = true by simp; rintro rfl; exact e rfl, Bool.and_true]

/-! ### Join, Minus: word by word -/
/-- The words of b behind i words of c having been joined. -/
def bjoin (vs ws : List Nat) : Nat → List Nat
  | 0 => vs
  | i + 1 => let us := bgrow (bjoin vs ws i) i
    us.set i (bword us i ||| bword ws i)
theorem bjoin_word (vs ws : List Nat) (k j : Nat) : bword (bjoin vs ws k) j = if j < k then bword vs j ||| bword ws j else bword vs j := by
  induction k with
  | zero => simp [bjoin]
  | succ k ih =>
    simp only [bjoin]
    rw [bword_set _ _ _ _ (bgrow_len _ _), bword_grow, bword_grow]
    split
    · rename_i e; subst e
      rw [ih, if_neg (by omega), if_pos (by omega)]
    · rename_i e
      rw [ih]
      by_cases h : j < k
      · rw [if_pos h, if_pos (by omega)]
      · rw [if_neg h, if_neg (by omega)]
theorem BOk.join {vs ws : List Nat} (hv : BOk vs) (hw : BOk ws) : ∀ k, k ≤ ws.length → BOk (bjoin vs ws k)
  | 0, _ => hv
  | k + 1, hk => by
    have ih := BOk.join hv hw k (by omega)
    have h1 := ih.grow (i := k) (by have := hw.len; omega)
    exact h1.set (bgrow_len _ _) (or_small (h1.small _) (hw.small _))
theorem bhas_join (vs ws : List Nat) (n : Nat) : bhas (bjoin vs ws ws.length) n = (bhas vs n || bhas ws n) := by
  unfold bhas
  rw [bjoin_word]
  split
  · rw [Nat.testBit_or]
  · rename_i h
    rw [bword_ge (ws := ws) (by omega)]
    simp
/-- Did the first k words of ws turn vs? -/
def bjoined (vs ws : List Nat) (k : Nat) : Bool := (List.range k).any fun i => bclear (bword ws i) (bword vs i) != 0
theorem bjoined_succ (vs ws : List Nat) (k : Nat) : bjoined vs ws (k + 1) = (bjoined vs ws k || bclear (bword ws k) (bword vs k) != 0) := by
  simp [bjoined, List.range_succ]
theorem clear_ne {x y : Nat} (hx : x < 18446744073709551616) (hy : y < 18446744073709551616) : (bclear x y != 0) = true ↔ ∃ j, j < 64 ∧ x.testBit j = true ∧ y.testBit j = false := by
  constructor
  · intro h
    have h' : bclear x y ≠ 0 := by simpa using h
    obtain ⟨j, hj⟩ := Nat.exists_testBit_of_ne_zero h'
    rw [testBit_clear hx hy] at hj
    have hj' : x.testBit j = true ∧ y.testBit j = false := by simpa using hj
    refine ⟨j, ?_, hj'⟩
    rcases Nat.lt_or_ge j 64 with h64 | h64
    · exact h64
    · have h1 : (2 : Nat) ^ 64 ≤ 2 ^ j := Nat.pow_le_pow_right (by omega) h64
      rw [Nat.testBit_lt_two_pow (x := x) (by omega)] at hj'
      cases hj'.1
  · rintro ⟨j, _, h1, h2⟩
    have : (bclear x y).testBit j = true := by rw [testBit_clear hx hy, h1, h2]; rfl
    have h0 : bclear x y ≠ 0 := by intro h0; rw [h0] at this; simp at this
    simpa using h0
theorem bjoined_iff {vs ws : List Nat} (hv : BOk vs) (hw : BOk ws) : bjoined vs ws ws.length = true ↔ ∃ n, bhas ws n = true ∧ bhas vs n = false := by
  unfold bjoined
  rw [List.any_eq_true]
  constructor
  · rintro ⟨i, hi, h⟩
    obtain ⟨j, hj, h1, h2⟩ := (clear_ne (hw.small i) (hv.small i)).1 h
    have e1 : (64 * i + j) / 64 = i := by omega
    have e2 : (64 * i + j) % 64 = j := by omega
    exact ⟨64 * i + j, by simpa only [bhas, e1, e2] using h1, by simpa only [bhas, e1, e2] using h2⟩
  · rintro ⟨n, h1, h2⟩
    refine ⟨n / 64, ?_, (clear_ne (hw.small _) (hv.small _)).2 ⟨n % 64, Nat.mod_lt _ (by omega), h1, h2⟩⟩
    rw [List.mem_range]
    rcases Nat.lt_or_ge (n / 64) ws.length with h | h
    · exact h
    · rw [bhas_ge h] at h1; cases h1

/-! ### Minus -/
/-- The words of b behind i words of c having been taken from it. -/
def bminus (vs ws : List Nat) : Nat → List Nat
  | 0 => vs
  | i + 1 => (bminus vs ws i).set i (bclear (bword (bminus vs ws i) i) (bword ws i))
theorem bminus_len (vs ws : List Nat) (k : Nat) : (bminus vs ws k).length = vs.length := by
  induction k with
  | zero => rfl
  | succ k ih => simp [bminus, ih]
theorem bminus_word (vs ws : List Nat) (k j : Nat) (hk : k ≤ vs.length) : bword (bminus vs ws k) j = if j < k then bclear (bword vs j) (bword ws j) else bword vs j := by
  induction k with
  | zero => simp [bminus]
  | succ k ih =>
    have ih' := ih (by omega)
    simp only [bminus]
    rw [bword_set _ _ _ _ (by rw [bminus_len]; omega)]
    split
    · rename_i e; subst e
      rw [if_pos (by omega)]
      have e2 : bword (bminus vs ws k) k = bword vs k := by
        clear ih'
        have : ∀ m, m ≤ k → bword (bminus vs ws m) k = bword vs k := by
          intro m
          induction m with
          | zero => intro _; rfl
          | succ m ihm =>
            intro hm
            simp only [bminus]
            rw [bword_set _ _ _ _ (by rw [bminus_len]; omega), if_neg (by omega)]
            exact ihm (by omega)
        exact this k (Nat.le_refl _)
      rw [e2]
    · rename_i e
      rw [ih']
      by_cases h : j < k
      · rw [if_pos h, if_pos (by omega)]
      · rw [if_neg h, if_neg (by omega)]
theorem BOk.minus {vs ws : List Nat} (hv : BOk vs) (k : Nat) (hk : k ≤ vs.length) : BOk (bminus vs ws k) :=
  ⟨by rw [bminus_len]; exact hv.len, fun j => by rw [bminus_word _ _ _ _ hk]; split; exact and_small _ (hv.small j); exact hv.small j⟩
theorem bclear_zero (x : Nat) (hx : x < 18446744073709551616) : bclear x 0 = x := by
  apply Nat.eq_of_testBit_eq
  intro j
  rw [testBit_clear hx (by omega)]
  simp
theorem bhas_minus {vs ws : List Nat} (hv : BOk vs) (hw : BOk ws) (n : Nat) : bhas (bminus vs ws (min ws.length vs.length)) n = (bhas vs n && !bhas ws n) := by
  unfold bhas
  rw [bminus_word _ _ _ _ (Nat.min_le_right _ _)]
  split
  · rw [testBit_clear (hv.small _) (hw.small _)]
  · rename_i h
    rcases Nat.lt_or_ge (n / 64) ws.length with h1 | h1
    · rw [bword_ge (ws := vs) (by omega)]; simp
    · rw [bword_ge (ws := ws) h1]; simp
/-- Did the first k words of ws meet vs? -/
def bmet (vs ws : List Nat) (k : Nat) : Bool := (List.range k).any fun i => (bword ws i &&& bword vs i) != 0
theorem bmet_succ (vs ws : List Nat) (k : Nat) : bmet vs ws (k + 1) = (bmet vs ws k || (bword ws k &&& bword vs k) != 0) := by
  simp [bmet, List.range_succ]
theorem and_ne {x y : Nat} : ((x &&& y) != 0) = true ↔ ∃ j, x.testBit j = true ∧ y.testBit j = true := by
  constructor
  · intro h
    have h' : x &&& y ≠ 0 := by simpa using h
    obtain ⟨j, hj⟩ := Nat.exists_testBit_of_ne_zero h'
    rw [Nat.testBit_and] at hj
    exact ⟨j, by simpa using hj⟩
  · rintro ⟨j, h1, h2⟩
    have : (x &&& y).testBit j = true := by rw [Nat.testBit_and, h1, h2]; rfl
    have h0 : x &&& y ≠ 0 := by intro h0; rw [h0] at this; simp at this
    simpa using h0
theorem bmet_iff {vs ws : List Nat} (hw : BOk ws) : bmet vs ws (min ws.length vs.length) = true ↔ ∃ n, bhas ws n = true ∧ bhas vs n = true := by
  unfold bmet
  rw [List.any_eq_true]
  constructor
  · rintro ⟨i, hi, h⟩
    obtain ⟨j, h1, h2⟩ := and_ne.1 h
    have hj : j < 64 := by
      rcases Nat.lt_or_ge j 64 with h64 | h64
      · exact h64
      · have h3 : (2 : Nat) ^ 64 ≤ 2 ^ j := Nat.pow_le_pow_right (by omega) h64
        have h4 := hw.small i
        rw [Nat.testBit_lt_two_pow (by omega)] at h1; cases h1
    have e1 : (64 * i + j) / 64 = i := by omega
    have e2 : (64 * i + j) % 64 = j := by omega
    exact ⟨64 * i + j, by simpa only [bhas, e1, e2] using h1, by simpa only [bhas, e1, e2] using h2⟩
  · rintro ⟨n, h1, h2⟩
    refine ⟨n / 64, ?_, and_ne.2 ⟨n % 64, h1, h2⟩⟩
    rw [List.mem_range]
    rcases Nat.lt_or_ge (n / 64) ws.length with h | h
    · rcases Nat.lt_or_ge (n / 64) vs.length with h' | h'
      · omega
      · rw [bhas_ge h'] at h2; cases h2
    · rw [bhas_ge h] at h1; cases h1

/-- Have two sets the same words, but for zeros at the end? -/
def bsame (vs ws : List Nat) : Bool := (List.range (max vs.length ws.length)).all fun i => bword vs i == bword ws i
theorem bsame_iff {vs ws : List Nat} (hv : BOk vs) (hw : BOk ws) : bsame vs ws = true ↔ ∀ n, bhas vs n = bhas ws n := by
  unfold bsame
  rw [List.all_eq_true]
  constructor
  · intro h n
    unfold bhas
    rcases Nat.lt_or_ge (n / 64) (max vs.length ws.length) with h1 | h1
    · have := h (n / 64) (List.mem_range.2 h1)
      rw [show bword vs (n / 64) = bword ws (n / 64) by simpa using this]
    · rw [bword_ge (ws := vs) (by omega), bword_ge (ws := ws) (by omega)]
  · intro h i _
    have := bword_of_bhas hv hw h i
    simpa using this
end Go.Proofs.YtaobleahcceffaaDoor
