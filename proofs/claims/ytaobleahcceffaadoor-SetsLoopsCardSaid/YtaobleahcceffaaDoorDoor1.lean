/-
  The walks of math/bits.TrailingZeros64 and OnesCount64, and of Len. Conditions: words below 2^64; the de Bruijn table as its initialiser lays it.
-/
import Derived.Test.YtaobleahcceffaaDoorSets2
import Derived.Test.YtaobleahcceffaaDoorPop
import Derived.Shelf.Spec.TrailingZeros
set_option linter.unusedVariables false
set_option linter.unusedSimpArgs false
namespace Go.Proofs.YtaobleahcceffaaDoor
open Go.RowKit

set_option maxHeartbeats 1000000 in
theorem Tryd.pop_core (x y1 y2 u v t s c : Int) (w : World) (x0 : 0 ≤ x) (x1 : x < 18446744073709551616)
    (h1 : IntKind.u64.wrap (bits BinOp.and IntKind.u64 (x / 2) 6148914691236517205 + bits BinOp.and IntKind.u64 x 6148914691236517205) = y1) (a1 : 0 ≤ y1) (b1 : y1 < 18446744073709551616)
    (h2 : IntKind.u64.wrap (bits BinOp.and IntKind.u64 (y1 / 4) 3689348814741910323 + bits BinOp.and IntKind.u64 y1 3689348814741910323) = y2) (a2 : 0 ≤ y2) (b2 : y2 < 18446744073709551616)
    (h3 : bits BinOp.and IntKind.u64 (IntKind.u64.wrap (y2 / 16 + y2)) 1085102592571150095 = u) (a3 : 0 ≤ u) (b3 : u < 18446744073709551616)
    (h4 : IntKind.u64.wrap (u + u / 256) = v) (a4 : 0 ≤ v) (b4 : v < 18446744073709551616)
    (h5 : IntKind.u64.wrap (v + v / 65536) = t) (a5 : 0 ≤ t) (b5 : t < 18446744073709551616)
    (h6 : IntKind.u64.wrap (t + t / 4294967296) = s) (a6 : 0 ≤ s) (b6 : s < 18446744073709551616)
    (h7 : bits BinOp.and IntKind.i64 (wrap64 s) 127 = c) :
    Calls Tryd.prog 31 #[.int .u64 x] w fun e w' => e = .returned (.int .i64 c) ∧ w = w' := by
  go_enter Tryd.func31, Tryd.ntmps31
  go_wp2
  go_ret
  exact ⟨rfl, rfl⟩

theorem wrap_nat {n : Nat} (h : n < 18446744073709551616) : IntKind.u64.wrap (n : Int) = n := by
  rw [IntKind.wrap_u64]; omega
theorem mk85 : mk 85 8 = 6148914691236517205 := by decide
theorem mk51 : mk 51 8 = 3689348814741910323 := by decide
theorem mk15 : mk 15 8 = 1085102592571150095 := by decide
theorem mk170 : mk 170 8 = 12297829382473034410 := by decide
theorem mk68 : mk 68 8 = 4919131752989213764 := by decide

theorem st1 (x : Nat) (hx : x < 18446744073709551616) (l : p1 6148914691236517205 x ≤ 12297829382473034410) :
    IntKind.u64.wrap (bits BinOp.and IntKind.u64 ((x : Int) / 2) 6148914691236517205 + bits BinOp.and IntKind.u64 x 6148914691236517205) = ((p1 6148914691236517205 x : Nat) : Int) := by
  have c1 := u64_and_nat (x / 2) 6148914691236517205 (by omega) (by decide)
  have c2 := u64_and_nat x 6148914691236517205 hx (by decide)
  have c3 : ((x / 2 : Nat) : Int) = (x : Int) / 2 := by omega
  rw [c3] at c1
  have c4 : ((6148914691236517205 : Nat) : Int) = 6148914691236517205 := rfl
  rw [c4] at c1 c2
  rw [c1, c2, ← Int.natCast_add]
  exact wrap_nat (Nat.lt_of_le_of_lt l (by decide))
theorem st2 (x : Nat) (hx : x < 18446744073709551616) (l : p2 3689348814741910323 x ≤ 4919131752989213764) :
    IntKind.u64.wrap (bits BinOp.and IntKind.u64 ((x : Int) / 4) 3689348814741910323 + bits BinOp.and IntKind.u64 x 3689348814741910323) = ((p2 3689348814741910323 x : Nat) : Int) := by
  have c1 := u64_and_nat (x / 4) 3689348814741910323 (by omega) (by decide)
  have c2 := u64_and_nat x 3689348814741910323 hx (by decide)
  have c3 : ((x / 4 : Nat) : Int) = (x : Int) / 4 := by omega
  rw [c3] at c1
  have c4 : ((3689348814741910323 : Nat) : Int) = 3689348814741910323 := rfl
  rw [c4] at c1 c2
  rw [c1, c2, ← Int.natCast_add]
  exact wrap_nat (Nat.lt_of_le_of_lt l (by decide))
theorem st3 (x : Nat) (l : x ≤ 4919131752989213764) : bits BinOp.and IntKind.u64 (IntKind.u64.wrap ((x : Int) / 16 + x)) 1085102592571150095 = ((p3 1085102592571150095 x : Nat) : Int) := by
  have c0 : (x : Int) / 16 + x = ((x / 16 + x : Nat) : Int) := by omega
  rw [c0, wrap_nat (by omega)]
  exact u64_and_nat (x / 16 + x) 1085102592571150095 (by omega) (by decide)
theorem st4 (x d : Nat) (hd : 0 < d) (l : x < 9000000000000000000) : IntKind.u64.wrap ((x : Int) + x / d) = ((x + x / d : Nat) : Int) := by
  have h := Nat.div_le_self x d
  rw [← Int.natCast_ediv, ← Int.natCast_add]
  exact wrap_nat (by omega)
theorem st7 (s : Nat) (h : s < 9223372036854775808) : bits BinOp.and IntKind.i64 (wrap64 s) 127 = ((s % 128 : Nat) : Int) := by
  rw [show wrap64 (s : Int) = s by unfold wrap64; omega, Int.natCast_emod]
  exact bits_mask .i64 63 (by decide) (fun n h0 h1 => by rw [IntKind.wrap_i64]; omega) 7 (by decide) s (by omega) (by omega)

theorem Tryd.pop_calls (x : Nat) (w : World) (hx : x < 18446744073709551616) :
    Calls Tryd.prog 31 #[.int .u64 x] w fun e w' => e = .returned (.int .i64 ((wbits x).length : Nat)) ∧ w = w' := by
  have l1 : p1 6148914691236517205 x ≤ 12297829382473034410 := by rw [← mk85, ← mk170]; exact p1_le 8 x
  have l2 : p2 3689348814741910323 (p1 6148914691236517205 x) ≤ 4919131752989213764 := by rw [← mk85, ← mk51, ← mk68]; exact q_le 8 x
  have hr : r 8 x = p3 1085102592571150095 (p2 3689348814741910323 (p1 6148914691236517205 x)) := by rw [← mk85, ← mk51, ← mk15]; rfl
  have e1 := st1 x hx l1
  obtain ⟨Y1, hY1⟩ : ∃ Y, p1 6148914691236517205 x = Y := ⟨_, rfl⟩
  rw [hY1] at l1 l2 hr e1
  have e2 := st2 Y1 (Nat.lt_of_le_of_lt l1 (by decide)) l2
  obtain ⟨Y2, hY2⟩ : ∃ Y, p2 3689348814741910323 Y1 = Y := ⟨_, rfl⟩
  rw [hY2] at l2 hr e2
  have e3 := st3 Y2 l2
  have l3 : p3 1085102592571150095 Y2 ≤ 1085102592571150095 := Nat.and_le_right
  obtain ⟨U, hU⟩ : ∃ Y, p3 1085102592571150095 Y2 = Y := ⟨_, rfl⟩
  rw [hU] at l3 hr e3
  clear hY1 hY2 hU
  have e4 := st4 U 256 (by decide) (by clear e1 e2 e3; omega)
  have d1 := Nat.div_le_self U 256
  obtain ⟨V, hV⟩ : ∃ V, U + U / 256 = V := ⟨_, rfl⟩
  have l4 : V ≤ 3000000000000000000 := by clear e1 e2 e3 e4; omega
  rw [hV] at e4
  have e5 := st4 V 65536 (by decide) (by clear e1 e2 e3 e4; omega)
  have d2 := Nat.div_le_self V 65536
  obtain ⟨T, hT⟩ : ∃ T, V + V / 65536 = T := ⟨_, rfl⟩
  have l5 : T ≤ 6000000000000000000 := by clear e1 e2 e3 e4 e5 hV; omega
  rw [hT] at e5
  have e6 := st4 T 4294967296 (by decide) (by clear e1 e2 e3 e4 e5 hV hT; omega)
  obtain ⟨R, hR⟩ : ∃ R, T + T / 4294967296 = R := ⟨_, rfl⟩
  rw [hR] at e6
  obtain ⟨hs, hs2⟩ := pop_eq x U V T R hr.symm hV.symm hT.symm hR.symm
  have e7 := st7 _ hs2
  rw [hs] at e7
  have cast : ∀ n : Nat, n < 18446744073709551616 → (n : Int) < 18446744073709551616 := fun n h => by omega
  have b1 := cast Y1 (Nat.lt_of_le_of_lt l1 (by decide))
  have b2 := cast Y2 (Nat.lt_of_le_of_lt l2 (by decide))
  have b3 := cast U (Nat.lt_of_le_of_lt l3 (by decide))
  have b4 := cast V (Nat.lt_of_le_of_lt l4 (by decide))
  have b5 := cast T (Nat.lt_of_le_of_lt l5 (by decide))
  have b6 := cast R (Nat.lt_trans hs2 (by decide))
  have b0 := cast x hx
  exact Tryd.pop_core x Y1 Y2 U V T R _ w (Int.natCast_nonneg _) b0 e1 (Int.natCast_nonneg _) b1 e2 (Int.natCast_nonneg _) b2 e3 (Int.natCast_nonneg _) b3 e4 (Int.natCast_nonneg _) b4 e5 (Int.natCast_nonneg _) b5 e6 (Int.natCast_nonneg _) b6 e7
/-! ### TrailingZeros64 -/
set_option maxHeartbeats 1000000 in
theorem Tryd.tz_core (x k idx : Nat) (w : World) (hx0 : ((x : Int) == 0) = false)
    (key : IntKind.u64.wrap (bits BinOp.and IntKind.u64 (x : Int) (IntKind.u64.wrap (-(x : Int))) * 285870213051353865) / 288230376151711744 = (idx : Int))
    (hi : idx < 64) (hk : k < 64) (hcell : w.cell? ⟨0, idx, none⟩ = some (.int .u8 k)) :
    Calls Tryd.prog 37 #[.int .u64 x] w fun e w' => e = .returned (.int .i64 k) ∧ w = w' := by
  go_enter Tryd.func37, Tryd.ntmps37
  go_wp2_with (simp only [key])
  go_ret
  exact ⟨rfl, rfl⟩

/-- The library's table, where its initialiser lays it. -/
abbrev Tab (w : World) : Prop := TabAt 0 Lib.deBruijn64tab w
theorem Tab.chg {S : Nat → Prop} {w w' : World} (h : Tab w) (k : Chg S w w') (hS : ¬ S 0) : Tab w' := fun j hj =>
  (World.cell?_of_block (k.block 0 (World.block_lt_of_cell? w ⟨0, j, none⟩ (h j hj)) hS)).trans (h j hj)

theorem Tryd.tz_calls (x : Nat) (w : World) (hx : x < 18446744073709551616) (hx0 : x ≠ 0) (hT : Tab w) :
    Calls Tryd.prog 37 #[.int .u64 x] w fun e w' => e = .returned (.int .i64 (Lib.ctz 64 x : Nat)) ∧ w = w' := by
  obtain ⟨hlow, hk⟩ := Lib.lowest_bit 64 x hx0 hx
  obtain ⟨hi, htab⟩ := Lib.deBruijn64_at _ hk
  have hcell := hT _ hi
  rw [htab] at hcell
  exact Tryd.tz_core x _ _ w (by simp; omega) (tz64_key x _ hx hx0 hlow) hi hk hcell

/-! ### Len -/
/-- How many numbers stand in the first i words. -/
def bcount (ws : List Nat) : Nat → Nat
  | 0 => 0
  | i + 1 => bcount ws i + (wbits (bword ws i)).length
theorem wbits_le (x : Nat) : (wbits x).length ≤ 64 := by
  have := List.length_filter_le x.testBit (List.range 64)
  simpa [wbits] using this
theorem bcount_le (ws : List Nat) (i : Nat) : bcount ws i ≤ 64 * i := by
  induction i with
  | zero => simp [bcount]
  | succ i ih => have := wbits_le (bword ws i); simp only [bcount]; omega
theorem bcount_all (ws : List Nat) : bcount ws ws.length = (blist ws).length := by
  have : ∀ i, i ≤ ws.length → bcount ws i = (((List.range i).flatMap fun i => (wbits (bword ws i)).map (64 * i + ·))).length := fun i hi => by
    induction i with
    | zero => rfl
    | succ i ih =>
      rw [List.range_succ, List.flatMap_append, List.length_append, bcount, ih (by omega)]
      simp
  exact this _ (Nat.le_refl _)

set_option maxHeartbeats 400000 in
theorem Tryd.len_calls {S : Nat → Prop} {b : Nat} {ws : List Nat} {w : World} (h : BitsAt S w b ws) :
    Calls Tryd.prog 15 #[.pointer (some ⟨b, 0, none⟩)] w fun e w' => e = .returned (.int .i64 ((blist ws).length : Nat)) ∧ w = w' := by
  obtain ⟨sv, hb, _, hr, hok⟩ := h
  have hc : w.cell? ⟨b, 0, none⟩ = some sv := by simpa using hb.cell 0
  obtain ⟨A, c, rfl, h1, h2, h3⟩ := hr.slice
  have hlen := hok.len
  have HR := Lib.hid hr
  have HO := Lib.hid hok
  have HF := Lib.hid (bcount_all ws)
  clear hb hr hok h3
  go_enter Tryd.func15, Tryd.ntmps15
  go_wp2_with (go_at_call 30; refine (Tryd.words_calls _ _ _ hc).mono ?_; rintro e w' ⟨rfl, rfl⟩)
  go_loopg [3, 9] (ws.length + 1) (fun k t i wr => ∃ j : Nat, j ≤ ws.length ∧ i = .int .i64 j ∧ t = .int .i64 (bcount ws j : Nat) ∧ wr = w ∧ ws.length + 1 - j ≤ k)
  case atStart => exact ⟨0, Nat.zero_le _, rfl, rfl, rfl, by omega⟩
  case round =>
    obtain ⟨j, hj, rfl, rfl, rfl, hm⟩ := hrel
    by_cases hlt : j < ws.length
    · obtain ⟨g, c', he, _, _, _, _, hcs, _⟩ := HR.out.form (by omega)
      obtain ⟨rfl, rfl⟩ : A = some ⟨g, 0, none⟩ ∧ c = c' := by injection he with a1 _ a2; exact ⟨a1, a2⟩
      have hcell : wr.cell? ⟨g, j, none⟩ = some (.int .u64 (bword ws j)) := hcs j _ (words_cell ws j hlt)
      have hx := HO.out.small j
      have HX := Lib.hid (show bcount ws (j + 1) = bcount ws j + (wbits (bword ws j)).length from rfl)
      have hl1 := wbits_le (bword ws j)
      have hl2 := bcount_le ws j
      generalize hE : bcount ws (j + 1) = t1 at HX
      have HE := Lib.hid hE
      generalize bcount ws j = t at HX hl2
      have HP := Lib.hid (Tryd.pop_calls (bword ws j) wr hx)
      generalize (wbits (bword ws j)).length = l at HX HP hl1
      generalize bword ws j = x at hcell hx HP
      clear he hcs hE
      go_wp2_with (go_at_call 31; refine HP.out.mono ?_; rintro e w' ⟨rfl, rfl⟩)
      go_roundg (gk - 1)
      case measure => omega
      case rel => exact ⟨j + 1, by omega, by go_num, by rw [HE.out, HX.out]; go_num, rfl, by omega⟩
    · obtain rfl : j = ws.length := by omega
      go_wp2
      go_ret
      rw [HF.out]
      exact ⟨rfl, rfl⟩
end Go.Proofs.YtaobleahcceffaaDoor
