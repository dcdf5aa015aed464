/-
  Plain numbers: what math/bits.OnesCount64's steps make of a word is how many bits it has. Conditions: words below 2^64.
-/
import Derived.Test.YtaobleahcceffaaDoorLow
namespace Go.Proofs.YtaobleahcceffaaDoor
open Go.RowKit

theorem and256 (A a M m : Nat) (ha : a < 256) (hm : m < 256) : (256 * A + a) &&& (256 * M + m) = 256 * (A &&& M) + (a &&& m) := by
  have h256 : (256 : Nat) = 2 ^ 8 := rfl
  have ham : a &&& m < 2 ^ 8 := Nat.lt_of_le_of_lt Nat.and_le_left ha
  apply Nat.eq_of_testBit_eq
  intro j
  rw [Nat.testBit_and, h256, Nat.testBit_two_pow_mul_add _ (show a < 2 ^ 8 from ha), Nat.testBit_two_pow_mul_add _ (show m < 2 ^ 8 from hm), Nat.testBit_two_pow_mul_add _ ham]
  split
  · rw [Nat.testBit_and]
  · rw [Nat.testBit_and]

def p1 (M x : Nat) : Nat := ((x / 2) &&& M) + (x &&& M)
def p2 (M x : Nat) : Nat := ((x / 4) &&& M) + (x &&& M)
def p3 (M x : Nat) : Nat := (x / 16 + x) &&& M
/-- A mask of n bytes. -/
def mk (m : Nat) : Nat → Nat
  | 0 => 0
  | n + 1 => 256 * mk m n + m
theorem b1 : ∀ c < 2, ∀ b < 256, (((128 * c + b / 2) &&& 85) + (b &&& 85) = p1 85 b ∧ p1 85 b < 256) := by decide +kernel
theorem b2 : ∀ c < 4, ∀ b < 256, (((64 * c + b / 4) &&& 51) + (b &&& 51) = p2 51 b ∧ p2 51 b < 256) := by decide +kernel
theorem b12 : ∀ b < 256, p2 51 (p1 85 b) % 16 ≤ 4 ∧ p2 51 (p1 85 b) ≤ 68 := by decide +kernel
def ones8 (b : Nat) : Nat := ((List.range 8).filter b.testBit).length
theorem b3 : ∀ c < 5, ∀ b < 256, (16 * c + p2 51 (p1 85 b) / 16 + p2 51 (p1 85 b)) &&& 15 = ones8 b ∧ ones8 b ≤ 8 := by decide +kernel

theorem p1_step (M x : Nat) : p1 (256 * M + 85) x = 256 * p1 M (x / 256) + p1 85 (x % 256) := by
  obtain ⟨h1, h2⟩ := b1 (x / 256 % 2) (Nat.mod_lt _ (by omega)) (x % 256) (Nat.mod_lt _ (by omega))
  have e1 : x / 2 = 256 * (x / 256 / 2) + (128 * (x / 256 % 2) + x % 256 / 2) := by omega
  have e2 : x = 256 * (x / 256) + x % 256 := by omega
  have e3 : x &&& (256 * M + 85) = 256 * (x / 256 &&& M) + (x % 256 &&& 85) := by
    have := and256 (x / 256) (x % 256) M 85 (Nat.mod_lt _ (by omega)) (by omega)
    rwa [← e2] at this
  rw [← h1]
  unfold p1
  rw [e3, e1, and256 _ _ _ _ (by omega) (by omega)]
  omega
theorem p2_step (M x : Nat) : p2 (256 * M + 51) x = 256 * p2 M (x / 256) + p2 51 (x % 256) := by
  obtain ⟨h1, h2⟩ := b2 (x / 256 % 4) (Nat.mod_lt _ (by omega)) (x % 256) (Nat.mod_lt _ (by omega))
  have e1 : x / 4 = 256 * (x / 256 / 4) + (64 * (x / 256 % 4) + x % 256 / 4) := by omega
  have e2 : x = 256 * (x / 256) + x % 256 := by omega
  have e3 : x &&& (256 * M + 51) = 256 * (x / 256 &&& M) + (x % 256 &&& 51) := by
    have := and256 (x / 256) (x % 256) M 51 (Nat.mod_lt _ (by omega)) (by omega)
    rwa [← e2] at this
  rw [← h1]
  unfold p2
  rw [e3, e1, and256 _ _ _ _ (by omega) (by omega)]
  omega
/-- Two steps, byte by byte. -/
def q (n x : Nat) : Nat := p2 (mk 51 n) (p1 (mk 85 n) x)
theorem q_step (n x : Nat) : q (n + 1) x = 256 * q n (x / 256) + p2 51 (p1 85 (x % 256)) := by
  have h := (b1 0 (by omega) (x % 256) (Nat.mod_lt _ (by omega))).2
  unfold q
  rw [mk, mk, p1_step, p2_step]
  have e1 : (256 * p1 (mk 85 n) (x / 256) + p1 85 (x % 256)) / 256 = p1 (mk 85 n) (x / 256) := by omega
  have e2 : (256 * p1 (mk 85 n) (x / 256) + p1 85 (x % 256)) % 256 = p1 85 (x % 256) := by omega
  rw [e1, e2]
theorem b1' : ∀ b < 256, p1 85 b ≤ 170 := by decide +kernel
theorem p1_le (n x : Nat) : p1 (mk 85 n) x ≤ mk 170 n := by
  induction n generalizing x with
  | zero => simp [mk, p1]
  | succ n ih =>
    have := b1' (x % 256) (Nat.mod_lt _ (by omega))
    have := ih (x / 256)
    rw [mk, p1_step, mk]
    omega
theorem q_le (n x : Nat) : q n x ≤ mk 68 n := by
  induction n generalizing x with
  | zero => simp [q, mk, p2, p1]
  | succ n ih =>
    have := (b12 (x % 256) (Nat.mod_lt _ (by omega))).2
    have := ih (x / 256)
    rw [q_step, mk]
    omega
theorem q_low (n x : Nat) : q n x % 16 ≤ 4 := by
  cases n with
  | zero => simp [q, mk, p2, p1]
  | succ n =>
    rw [q_step]
    have := (b12 (x % 256) (Nat.mod_lt _ (by omega))).1
    omega
def r (n x : Nat) : Nat := p3 (mk 15 n) (q n x)
theorem r_step (n x : Nat) : r (n + 1) x = 256 * r n (x / 256) + ones8 (x % 256) := by
  have hq := q_low n (x / 256)
  obtain ⟨h1, h2⟩ := b3 (q n (x / 256) % 16) (by omega) (x % 256) (Nat.mod_lt _ (by omega))
  have h3 := (b12 (x % 256) (Nat.mod_lt _ (by omega))).2
  unfold r p3
  rw [q_step, mk]
  generalize q n (x / 256) = Q at *
  generalize p2 51 (p1 85 (x % 256)) = B at *
  have e : (256 * Q + B) / 16 + (256 * Q + B) = 256 * (Q / 16 + Q) + (16 * (Q % 16) + B / 16 + B) := by omega
  rw [e, and256 _ _ _ _ (by omega) (by omega), h1]
theorem r_zero (x : Nat) : r 0 x = 0 := by simp [r, p3, mk]

/-- How many of the first n places of x hold a bit. -/
def cnt (n x : Nat) : Nat := ((List.range n).filter x.testBit).length
theorem cnt_step (n x : Nat) : cnt (8 + n) x = cnt n (x / 256) + ones8 (x % 256) := by
  unfold cnt ones8
  rw [List.range_add, List.filter_append, List.length_append, List.filter_map, List.length_map, Nat.add_comm]
  congr 2
  · apply List.filter_congr
    intro a _
    show x.testBit (8 + a) = (x / 256).testBit a
    rw [show (256 : Nat) = 2 ^ 8 from rfl, Nat.testBit_div_two_pow, Nat.add_comm]
  · apply List.filter_congr
    intro a ha
    have ha' : a < 8 := List.mem_range.1 ha
    rw [show (256 : Nat) = 2 ^ 8 from rfl, Nat.testBit_mod_two_pow]
    simp [ha']
theorem ones8_le (b : Nat) (h : b < 256) : ones8 b ≤ 8 := (b3 0 (by omega) b h).2

/-- The last steps add the bytes. -/
theorem div_step (k A a : Nat) (h : a < k) : (k * A + a) / k = A := by
  rw [Nat.mul_add_div (by omega), Nat.div_eq_of_lt h, Nat.add_zero]
theorem add_bytes (a b c d e f g h : Nat) (ha : a ≤ 8) (hb : b ≤ 8) (hc : c ≤ 8) (hd : d ≤ 8) (he : e ≤ 8) (hf : f ≤ 8) (hg : g ≤ 8) (hh : h ≤ 8) (u v t s : Nat)
    (hu : u = 256 * (256 * (256 * (256 * (256 * (256 * (256 * h + g) + f) + e) + d) + c) + b) + a) (hv : v = u + u / 256) (ht : t = v + v / 65536) (hs : s = t + t / 4294967296) :
    s % 128 = a + b + c + d + e + f + g + h ∧ s < 9223372036854775808 := by
  have e1 : u / 256 = 256 * (256 * (256 * (256 * (256 * (256 * h + g) + f) + e) + d) + c) + b := by
    rw [hu]; exact div_step _ _ _ (by omega)
  rw [e1, hu] at hv
  have e2 : v = 65536 * (256 * (256 * (256 * (256 * (256 * h + (g + h)) + (f + g)) + (e + f)) + (d + e)) + (c + d)) + (256 * (b + c) + (a + b)) := by rw [hv]; simp only [Nat.mul_add, ← Nat.mul_assoc, Nat.reduceMul]; clear hu hv e1; omega
  have e3 : v / 65536 = 256 * (256 * (256 * (256 * (256 * h + (g + h)) + (f + g)) + (e + f)) + (d + e)) + (c + d) := by rw [e2]; exact div_step _ _ _ (by omega)
  rw [e3, e2] at ht
  have e4 : t = 4294967296 * (256 * (256 * (256 * h + (g + h)) + (f + g + h)) + (e + f + g + h)) + (256 * (256 * (256 * (d + e + f + g) + (c + d + e + f)) + (b + c + d + e)) + (a + b + c + d)) := by rw [ht]; clear hu hv e1 e2 e3 ht; omega
  have e5 : t / 4294967296 = 256 * (256 * (256 * h + (g + h)) + (f + g + h)) + (e + f + g + h) := by rw [e4]; exact div_step _ _ _ (by omega)
  rw [e5, e4] at hs
  clear hu hv e1 e2 e3 ht e4 e5
  have e6 : s = 128 * (2 * (16777216 * (256 * (256 * (256 * h + (g + h)) + (f + g + h)) + (e + f + g + h)) + (256 * (256 * (d + e + f + g + h) + (c + d + e + f + g + h)) + (b + c + d + e + f + g + h)))) + (a + b + c + d + e + f + g + h) := by rw [hs]; omega
  refine ⟨?_, by clear hs; omega⟩
  rw [e6, Nat.mul_add_mod]
  exact Nat.mod_eq_of_lt (by omega)
theorem r8 (x : Nat) : r 8 x = 256 * (256 * (256 * (256 * (256 * (256 * (256 * ones8 (x / 256 / 256 / 256 / 256 / 256 / 256 / 256 % 256) + ones8 (x / 256 / 256 / 256 / 256 / 256 / 256 % 256)) + ones8 (x / 256 / 256 / 256 / 256 / 256 % 256)) + ones8 (x / 256 / 256 / 256 / 256 % 256)) + ones8 (x / 256 / 256 / 256 % 256)) + ones8 (x / 256 / 256 % 256)) + ones8 (x / 256 % 256)) + ones8 (x % 256) := by
  rw [r_step 7, r_step 6, r_step 5, r_step 4, r_step 3, r_step 2, r_step 1, r_step 0, r_zero, Nat.mul_zero, Nat.zero_add]
theorem cnt8 (x : Nat) : cnt 64 x = ones8 (x / 256 / 256 / 256 / 256 / 256 / 256 / 256 % 256) + ones8 (x / 256 / 256 / 256 / 256 / 256 / 256 % 256) + ones8 (x / 256 / 256 / 256 / 256 / 256 % 256) + ones8 (x / 256 / 256 / 256 / 256 % 256) + ones8 (x / 256 / 256 / 256 % 256) + ones8 (x / 256 / 256 % 256) + ones8 (x / 256 % 256) + ones8 (x % 256) := by
  rw [cnt_step 56, cnt_step 48, cnt_step 40, cnt_step 32, cnt_step 24, cnt_step 16, cnt_step 8, cnt_step 0]
  show 0 + _ + _ + _ + _ + _ + _ + _ + _ = _
  rw [Nat.zero_add]
theorem pop_eq (x : Nat) (u v t s : Nat) (hu : u = r 8 x) (hv : v = u + u / 256) (ht : t = v + v / 65536) (hs : s = t + t / 4294967296) :
    s % 128 = (wbits x).length ∧ s < 9223372036854775808 := by
  have hm : ∀ y : Nat, ones8 (y % 256) ≤ 8 := fun y => ones8_le _ (Nat.mod_lt _ (by omega))
  have h := add_bytes _ _ _ _ _ _ _ _ (hm x) (hm (x / 256)) (hm (x / 256 / 256)) (hm (x / 256 / 256 / 256)) (hm (x / 256 / 256 / 256 / 256)) (hm (x / 256 / 256 / 256 / 256 / 256)) (hm (x / 256 / 256 / 256 / 256 / 256 / 256)) (hm (x / 256 / 256 / 256 / 256 / 256 / 256 / 256)) u v t s (hu.trans (r8 x)) hv ht hs
  refine ⟨?_, h.2⟩
  have hw : (wbits x).length = cnt 64 x := rfl
  rw [h.1, hw, cnt8]
  ac_rfl
end Go.Proofs.YtaobleahcceffaaDoor
