/-
  Plain numbers: the lowest bit of a word, the list of a word's bits and of a set's numbers, and what math/bits.OnesCount64 counts. Conditions: words below 2^64.
-/
import Derived.Test.YtaobleahcceffaaDoorBits
import Derived.Lib.TrailingZeros
namespace Go.Proofs.YtaobleahcceffaaDoor
open Go.RowKit

theorem ctz_form {y : Nat} (h0 : y ≠ 0) (hy : y < 18446744073709551616) : ∃ m, y = 2 ^ Lib.ctz 64 y * (2 * m + 1) ∧ Lib.ctz 64 y < 64 := by
  have := Lib.ctzFrom_spec 64 y (by omega) hy
  unfold Lib.ctz
  rw [if_neg h0]
  exact this
theorem low_bits {y : Nat} (h0 : y ≠ 0) (hy : y < 18446744073709551616) :
    y.testBit (Lib.ctz 64 y) = true ∧ (∀ j, j < Lib.ctz 64 y → y.testBit j = false) ∧ ∀ j, (y &&& (y - 1)).testBit j = (y.testBit j && j != Lib.ctz 64 y) := by
  obtain ⟨m, hm, hk⟩ := ctz_form h0 hy
  generalize Lib.ctz 64 y = k at hm hk
  have hp : 0 < 2 ^ k := Nat.two_pow_pos k
  have e1 : y - 1 = 2 ^ k * (2 * m) + (2 ^ k - 1) := by
    have e : 2 ^ k * (2 * m + 1) = 2 ^ k * (2 * m) + 2 ^ k := by rw [Nat.mul_add, Nat.mul_one]
    omega
  have hb : ∀ j, y.testBit j = (decide (k ≤ j) && (2 * m + 1).testBit (j - k)) := fun j => by
    have := Nat.testBit_two_pow_mul (i := k) (a := 2 * m + 1) (j := j)
    rw [← hm] at this
    exact this
  have hb1 : ∀ j, (y - 1).testBit j = if j < k then true else (2 * m).testBit (j - k) := fun j => by
    rw [e1, Nat.testBit_two_pow_mul_add _ (by omega)]
    split
    · rename_i h; rw [Nat.testBit_two_pow_sub_one]; simp [h]
    · rfl
  refine ⟨?_, fun j hj => ?_, fun j => ?_⟩
  · rw [hb]; simp [Nat.testBit_zero]
  · rw [hb]; simp; omega
  · rw [Nat.testBit_and, hb1, hb]
    by_cases h1 : j < k
    · simp [h1]; omega
    · by_cases h2 : j = k
      · subst h2
        simp [Nat.testBit_zero]
      · obtain ⟨d, rfl⟩ : ∃ d, j = k + (d + 1) := ⟨j - k - 1, by omega⟩
        have e3 : k + (d + 1) - k = d + 1 := by omega
        rw [if_neg h1, e3, Nat.testBit_succ, Nat.testBit_succ]
        have d1 : (2 * m + 1) / 2 = m := by omega
        have d2 : (2 * m) / 2 = m := by omega
        rw [d1, d2]
        have : (k + (d + 1) != k) = true := by simp
        rw [this]
        simp

/-- The places of a word's bits, rising. -/
def wbits (y : Nat) : List Nat := (List.range 64).filter y.testBit
theorem filter_low (p : Nat → Bool) (n k : Nat) (hk : k < n) (h1 : p k = true) (h0 : ∀ j, j < k → p j = false) :
    (List.range n).filter p = k :: (List.range n).filter (fun j => p j && j != k) := by
  obtain ⟨d, rfl⟩ : ∃ d, n = k + 1 + d := ⟨n - k - 1, by omega⟩
  have e : ∀ q : Nat → Bool, (List.range (k + 1 + d)).filter q = (List.range k).filter q ++ ([k].filter q ++ ((List.range d).map (k + 1 + ·)).filter q) := fun q => by
    rw [List.range_add, List.range_succ, List.filter_append, List.filter_append, List.append_assoc]
  rw [e, e]
  have a1 : (List.range k).filter p = [] := by
    rw [List.filter_eq_nil_iff]
    intro a ha
    rw [h0 a (List.mem_range.1 ha)]; simp
  have a2 : (List.range k).filter (fun j => p j && j != k) = [] := by
    rw [List.filter_eq_nil_iff]
    intro a ha
    rw [h0 a (List.mem_range.1 ha)]; simp
  have a3 : ((List.range d).map (k + 1 + ·)).filter p = ((List.range d).map (k + 1 + ·)).filter (fun j => p j && j != k) := by
    apply List.filter_congr
    intro a ha
    obtain ⟨b, _, rfl⟩ := List.mem_map.1 ha
    have : (k + 1 + b != k) = true := by simp; omega
    rw [this, Bool.and_true]
  rw [a1, a2, a3]
  simp [h1]
theorem wbits_cons {y : Nat} (h0 : y ≠ 0) (hy : y < 18446744073709551616) : wbits y = Lib.ctz 64 y :: wbits (y &&& (y - 1)) := by
  obtain ⟨h1, h2, h3⟩ := low_bits h0 hy
  obtain ⟨_, _, hk⟩ := ctz_form h0 hy
  unfold wbits
  rw [filter_low _ 64 _ hk h1 h2]
  congr 1
  apply List.filter_congr
  intro a _
  exact (h3 a).symm
theorem wbits_zero : wbits 0 = [] := by
  unfold wbits
  rw [List.filter_eq_nil_iff]
  intro a _
  simp

/-- A set's numbers, rising: word by word. -/
def blist (ws : List Nat) : List Nat := (List.range ws.length).flatMap fun i => (wbits (bword ws i)).map (64 * i + ·)
theorem mem_blist {ws : List Nat} {n : Nat} : n ∈ blist ws ↔ bhas ws n = true := by
  unfold blist wbits
  simp only [List.mem_flatMap, List.mem_range, List.mem_map, List.mem_filter]
  constructor
  · rintro ⟨i, hi, j, ⟨hj, hb⟩, rfl⟩
    have e1 : (64 * i + j) / 64 = i := by omega
    have e2 : (64 * i + j) % 64 = j := by omega
    simpa only [bhas, e1, e2] using hb
  · intro h
    refine ⟨n / 64, ?_, n % 64, ⟨Nat.mod_lt _ (by omega), h⟩, by omega⟩
    rcases Nat.lt_or_ge (n / 64) ws.length with h' | h'
    · exact h'
    · rw [bhas_ge h'] at h; cases h
theorem pairwise_blist (ws : List Nat) : (blist ws).Pairwise (· < ·) := by
  unfold blist
  rw [List.pairwise_flatMap]
  refine ⟨fun i _ => ?_, ?_⟩
  · rw [List.pairwise_map]
    have : (wbits (bword ws i)).Pairwise (· < ·) := (List.pairwise_lt_range (n := 64)).filter _
    exact this.imp (by intros; omega)
  · refine (List.pairwise_lt_range (n := ws.length)).imp ?_
    intro a b hab x hx y hy
    obtain ⟨p, hp, rfl⟩ := List.mem_map.1 hx
    obtain ⟨q, hq, rfl⟩ := List.mem_map.1 hy
    have := List.mem_range.1 (List.mem_filter.1 hp).1
    omega
/-- The numbers of the words from i on. -/
def bfrom (ws : List Nat) (i : Nat) : List Nat := ((List.range ws.length).drop i).flatMap fun i => (wbits (bword ws i)).map (64 * i + ·)
theorem bfrom_zero (ws : List Nat) : bfrom ws 0 = blist ws := rfl
theorem bfrom_step {ws : List Nat} {i : Nat} (h : i < ws.length) : bfrom ws i = (wbits (bword ws i)).map (64 * i + ·) ++ bfrom ws (i + 1) := by
  unfold bfrom
  rw [List.drop_eq_getElem_cons (by simpa using h)]
  simp
theorem bfrom_end {ws : List Nat} {i : Nat} (h : ws.length ≤ i) : bfrom ws i = [] := by
  unfold bfrom
  rw [List.drop_eq_nil_of_le (by simpa using h)]
  rfl
end Go.Proofs.YtaobleahcceffaaDoor
