/-
  The walk of SetsJoins: it answers true whatever the numbers. Conditions: two slices that read as numbers of the machine's width; the de Bruijn table as its initialiser lays it.
-/
import Derived.Test.YtaobleahcceffaaDoorLives
import Derived.Test.YtaobleahcceffaaDoorSetL
set_option linter.unusedVariables false
set_option linter.unusedSimpArgs false
namespace Go.Proofs.YtaobleahcceffaaDoor
open Go.RowKit

theorem Ints.keep {k : IntKind} {ok : Nat → Prop} {w w' : World} {v : Value} {l : List Int} (h : Ints k ok w v l) (c : Kept w w') : Ints k ok w' v l := h.move c fun _ _ h => ⟨id, h⟩
theorem Ints.mono {k : IntKind} {ok ok' : Nat → Prop} {w : World} {v : Value} {l : List Int} (h : Ints k ok w v l) (hs : ∀ g, g < w.heap.size → ok g → ok' g) : Ints k ok' w v l := h.move (Chg.refl (fun _ => False) w) fun g hg h => ⟨id, hs g hg h⟩

/-- The first hundred numbers of a slice of the caller's, in every later world. -/
theorem Tryd.cut_later {ok : Nat → Prop} {w : World} {v : Value} {l : List Int} (h : Ints .i64 ok w v l) (w2 : World) (k : Kept w w2) :
    Calls Tryd.prog 8 #[v] w2 fun e w' => ∃ v', e = .returned v' ∧ Ints .i64 ok w2 v' (l.take 100) ∧ w2 = w' := Tryd.cut_calls (h.keep k)

theorem row_app2 {w W w1 w2 : World} {e : TypeId} {v v1 v2 : Value} {l m : List Int} (hW : W = w.alloc (.cells #[] e)) (hv : v = .slice (some ⟨w.heap.size, 0, none⟩) 0 0)
    (h1 : Row (fun b => w.heap.size ≤ b ∨ W.heap.size ≤ b) w1 e 1 v1 (0 + l.length) ([] ++ l.map (Value.int .i64))) (k1 : Chg (fun k => v.ownBlock = some k) W w1)
    (h2 : Row (fun b => (w.heap.size ≤ b ∨ W.heap.size ≤ b) ∨ w1.heap.size ≤ b) w2 e 1 v2 (0 + l.length + m.length) ([] ++ l.map (Value.int .i64) ++ m.map (Value.int .i64))) (k2 : Chg (fun k => v1.ownBlock = some k) w1 w2) :
    Ints .i64 (fun k => w.heap.size ≤ k) w2 v2 (l ++ m) ∧ Kept w w2 := by
  subst hW hv
  have s1 := k1.size
  simp only [World.size_alloc] at s1
  constructor
  · have e : (l ++ m).map (Value.int .i64) = [] ++ l.map (Value.int .i64) ++ m.map (Value.int .i64) := by simp
    rw [Nat.zero_add, ← List.length_append, ← e] at h2
    exact h2.ints fun g hg => by simp only [World.size_alloc] at hg; omega
  · refine (((Chg.refl _ w).alloc _).trans k1 fun i hi hv => ?_).trans k2 fun i hi hv => ?_
    · simp [Value.ownBlock] at hv; omega
    · have := h1.at_ i hv
      simp only [World.size_alloc] at this
      omega

/-- The sets and lists that a step leaves as they are. -/
structure Oth (M : Nat → Prop) (W : World) (b d : Nat) (xv yv bv lv : Value) (x y bo le : List Int) : Prop where
  b : SetAt M W b y
  d : SetAt M W d x
  x : Ints .i64 M W xv x
  y : Ints .i64 M W yv y
  bo : Ints .i64 M W bv bo
  le : Ints .i64 M W lv le
theorem Oth.chg {M M' S : Nat → Prop} {W W' : World} {b d : Nat} {xv yv bv lv : Value} {x y bo le : List Int} (h : Oth M W b d xv yv bv lv x y bo le) (c : Chg S W W') (hs : ∀ g, g < W.heap.size → M g → ¬ S g ∧ M' g) : Oth M' W' b d xv yv bv lv x y bo le :=
  ⟨(h.b.mono (T := fun g => M g ∧ g < W.heap.size) fun g h1 h2 => ⟨h2, h1⟩).chg c (fun g h1 h2 => (hs g h1 h2.1).1) (fun g _ h2 => (hs g h2.2 h2.1).2), (h.d.mono (T := fun g => M g ∧ g < W.heap.size) fun g h1 h2 => ⟨h2, h1⟩).chg c (fun g h1 h2 => (hs g h1 h2.1).1) (fun g _ h2 => (hs g h2.2 h2.1).2), h.x.move c hs, h.y.move c hs, h.bo.move c hs, h.le.move c hs⟩
theorem Oth.keep {M : Nat → Prop} {W W' : World} {b d : Nat} {xv yv bv lv : Value} {x y bo le : List Int} (h : Oth M W b d xv yv bv lv x y bo le) (c : Kept W W') : Oth M W' b d xv yv bv lv x y bo le := h.chg c fun _ _ h => ⟨id, h⟩

set_option maxRecDepth 100000 in
set_option maxHeartbeats 4000000 in
theorem Tryd.joins_calls {ok ok2 : Nat → Prop} {w : World} {v v2 : Value} {l m : List Int} (h : Ints .i64 ok w v l) (h2 : Ints .i64 ok2 w v2 m) (hb : ∀ x ∈ l, -9223372036854775808 ≤ x ∧ x ≤ 9223372036854775807) (hb2 : ∀ x ∈ m, -9223372036854775808 ≤ x ∧ x ≤ 9223372036854775807) (hT : Tab w) :
    Calls Tryd.prog 5 #[v, v2] w fun e w' => e = .returned (.bool true) ∧ Kept w w' := by
  have HT := Lib.hid hT
  have HC1 := Lib.hid (Tryd.cut_later h)
  have HC2 := Lib.hid (Tryd.cut_later h2)
  have hl0 : (l.take 100).length ≤ 100 := by rw [List.length_take]; omega
  have hm0 : (m.take 100).length ≤ 100 := by rw [List.length_take]; omega
  have hb' : ∀ x ∈ l.take 100, -9223372036854775808 ≤ x ∧ x ≤ 9223372036854775807 := fun x hx => hb x (List.mem_of_mem_take hx)
  have hb2' : ∀ x ∈ m.take 100, -9223372036854775808 ≤ x ∧ x ≤ 9223372036854775807 := fun x hx => hb2 x (List.mem_of_mem_take hx)
  clear h h2 hb hb2 hT
  generalize l.take 100 = l' at HC1 hl0 hb'
  generalize m.take 100 = m' at HC2 hm0 hb2'
  have hx0 := rof_len l'
  have hy0 := rof_len m'
  have HX := Lib.hid (show ∀ (w2 : World) (v' : Value) (ok : Nat → Prop), Ints .i64 ok w2 v' l' → _ from fun w2 v' ok h => Tryd.r3of_calls h (by omega))
  have HY := Lib.hid (show ∀ (w2 : World) (v' : Value) (ok : Nat → Prop), Ints .i64 ok w2 v' m' → _ from fun w2 v' ok h => Tryd.r3of_calls h (by omega))
  have HSA := Lib.hid (show ∀ (w2 : World) (v' : Value) (ok : Nat → Prop), Ints .i64 ok w2 v' l' → _ from fun w2 v' ok h => Tryd.sof_calls h hb')
  have HSB := Lib.hid (show ∀ (w2 : World) (v' : Value) (ok : Nat → Prop), Ints .i64 ok w2 v' m' → _ from fun w2 v' ok h => Tryd.sof_calls h hb2')
  have HLX := Lib.hid (LS.rof l')
  have HLY := Lib.hid (LS.rof m')
  clear hb' hb2'
  generalize rof l' = x at HX HSA HLX hx0
  generalize rof m' = y at HY HSB HLY hy0
  have hx1 : x.length ≤ 100 := by omega
  have hy1 : y.length ≤ 100 := by omega
  clear hx0 hy0 hl0 hm0
  have HK0 := Lib.hid (Chg.refl (fun _ => False) w)
  go_enter Tryd.func5, Tryd.ntmps5
  go_wp2_with first
    | (go_at_call 8; (first | refine (HC2.out _ HK3.out).mono ?_ | refine (HC1.out _ HK2.out).mono ?_ | refine (HC2.out _ HK1.out).mono ?_ | refine (HC1.out _ HK0.out).mono ?_); rintro e w' ⟨v', rfl, hi, rfl⟩; have HI := Lib.hid hi; clear hi)
    | (go_at_call 7; first | (refine (HSB.out _ _ _ HI.out).mono ?_; rintro e w2 ⟨b, rfl, hb, hk⟩; have s2 := hk.size; have HB2 := Lib.hid (hb.mono (T := fun k => w1.heap.size ≤ k ∧ k < w2.heap.size) fun k h1 h2 => ⟨h2, h1⟩); have HK2 := Lib.hid (HK1.out.then hk); have HA2 := Lib.hid (HA1.out.keep hk); clear hb hk HI HA1) | (refine (HSA.out _ _ _ HI.out).mono ?_; rintro e w1 ⟨a, rfl, hb, hk⟩; have s1 := hk.size; have HA1 := Lib.hid (hb.mono (T := fun k => w.heap.size ≤ k ∧ k < w1.heap.size) fun k h1 h2 => ⟨h2, h1⟩); have HK1 := Lib.hid hk; clear hb hk HI))
    | (go_at_call 19; first | (refine (Tryd.r3of_calls HIB.out (by simp only [List.length_append]; omega)).mono ?_; rintro e w8 ⟨v8, rfl, hi, hk⟩; obtain ⟨A8, c8, rfl, hc8, -, -, -⟩ := hi.at_; have s8 := hk.size; have HI8 := Lib.hid (hi.mono (ok' := fun k => w1.heap.size ≤ k ∧ k < w8.heap.size) fun g h1 h2 => ⟨by omega, h1⟩); have HK8 := Lib.hid (HK7.out.then hk); have HA8 := Lib.hid (HA5.out.keep (HQ7.out.then hk)); have HB8 := Lib.hid (HB5.out.keep (HQ7.out.then hk)); have HX8 := Lib.hid (HX5.out.keep (HQ7.out.then hk)); have HY8 := Lib.hid (HY5.out.keep (HQ7.out.then hk)); have HD8 := Lib.hid (HD5.out.keep (HQ7.out.then hk)); clear hi hk HIB HA5 HB5 HX5 HY5 HD5 HQ7) | (refine (HY.out _ _ _ HI.out).mono ?_; rintro e w4 ⟨v4, rfl, hi, hk⟩; obtain ⟨A4, c4, rfl, hc4, -, -, -⟩ := hi.at_; have s4 := hk.size; have HY4 := Lib.hid (hi.mono (ok' := fun k => w1.heap.size ≤ k ∧ k < w4.heap.size) fun g h1 h2 => ⟨by omega, h1⟩); have HK4 := Lib.hid (HK3.out.then hk); have HA4 := Lib.hid (HA3.out.keep hk); have HB4 := Lib.hid (HB3.out.keep hk); have HX4 := Lib.hid (HX3.out.keep hk); clear hi hk HI HA3 HB3 HX3 HY) | (refine (HX.out _ _ _ HI.out).mono ?_; rintro e w3 ⟨v3, rfl, hi, hk⟩; obtain ⟨A3, c3, rfl, hc3, -, -, -⟩ := hi.at_; have s3 := hk.size; have HX3 := Lib.hid (hi.mono (ok' := fun k => w1.heap.size ≤ k ∧ k < w3.heap.size) fun g h1 h2 => ⟨by omega, h1⟩); have HK3 := Lib.hid (HK2.out.then hk); have HA3 := Lib.hid (HA2.out.keep hk); have HB3 := Lib.hid (HB2.out.keep hk); clear hi hk HI HA2 HB2 HX))
    | (go_at_call 21; refine (Tryd.sclone_calls HA4.out).mono ?_; rintro e w5 ⟨d, rfl, hb, hk⟩; have s5 := hk.size; have HD5 := Lib.hid (hb.mono (T := fun k => w1.heap.size ≤ k ∧ k < w5.heap.size) fun k h1 h2 => ⟨by omega, h1⟩); have HK5 := Lib.hid (HK4.out.then hk); have HA5 := Lib.hid (HA4.out.keep hk); have HB5 := Lib.hid (HB4.out.keep hk); have HX5 := Lib.hid (HX4.out.keep hk); have HY5 := Lib.hid (HY4.out.keep hk); clear hb hk HA4 HB4 HX4 HY4)
    | (at_builtin; refine row_append_ints (fun b => (w5.heap.size ≤ b ∨ (w5.alloc (.cells #[] 3)).heap.size ≤ b)) rfl _ _ 22 3 8 rfl Tryd.underlying22 Tryd.infoInt (by decide) v6 _ _ rfl HR6.out _ rfl y HYV.out (by omega) ?_; intro v7 w7 hr hk; have hra := row_app2 rfl rfl HR6.out HC6.out hr hk; have s7 := hra.2.size; have HIB := Lib.hid hra.1; have HQ7 := Lib.hid hra.2; have HK7 := Lib.hid (HK5.out.then hra.2); clear hr hk hra HR6 HC6 HYV)
    | (at_builtin; refine row_append_ints (fun b => w5.heap.size ≤ b) rfl _ _ 22 3 8 rfl Tryd.underlying22 Tryd.infoInt (by decide) (.slice (some ⟨w5.heap.size, 0, none⟩) 0 0) 0 [] rfl (row_empty w5 3 1) _ rfl x (HX5.out.keep ((Chg.refl _ w5).alloc _)) (by omega) ?_; intro v6 w6 hr hk; have HR6 := Lib.hid hr; have HC6 := Lib.hid hk; have HYV : Hid (Ints .i64 (fun k => w1.heap.size ≤ k ∧ k < w4.heap.size) w6 _ y) := Lib.hid (HY5.out.keep (((Chg.refl _ w5).alloc (.cells #[] 3)).trans hk (fun i hi hv => by simp [Value.ownBlock] at hv; omega))); clear hr hk)
  have hJ0 : ljoin x y = rof (x ++ y) := rfl
  have hJl : (rof (x ++ y)).length ≤ 200 := by have := rof_len (x ++ y); rw [List.length_append] at this; omega
  generalize rof (x ++ y) = J at hc8 HI8 hJ0 hJl ⊢
  have HJ := Lib.hid hJ0
  clear hJ0
  go_loopg [11, 41] (x.length + 1) (fun k u i wr => ∃ j : Nat, j ≤ x.length ∧ i = .int .i64 j ∧ Row (fun k => w8.heap.size ≤ k) wr 3 1 u ((x.take j).filter (fun n => !y.contains n)).length (((x.take j).filter (fun n => !y.contains n)).map (.int .i64)) ∧ Kept w8 wr ∧ x.length + 1 - j ≤ k)
  case atStart => exact ⟨0, Nat.zero_le _, rfl, Row.nil _ _ _ _, Chg.refl _ _, by omega⟩
  case round =>
    obtain ⟨j, hj, rfl, hr, hk, hm⟩ := hrel
    have hlr := filter_take_le (fun n => !y.contains n) x j
    by_cases hlt : j < x.length
    · have hc := HX8.out.cells (by omega)
      obtain ⟨g, off, rfl, _, _, hc⟩ := hc
      have hcell := kept_cell hk (hc j x[j] (List.getElem?_eq_getElem hlt))
      have hsz := hk.size
      by_cases hx : y.contains x[j] = true
      · have HF := Lib.hid (filter_no (fun n => !y.contains n) x j hlt (by simpa using hx))
        generalize ((x.take j).filter (fun n => !y.contains n)) = zz at hr hlr HF ⊢
        generalize x[j] = xj at hcell HF hx
        obtain ⟨A5, c5, rfl, -, -, -⟩ := hr.slice
        have HR := Lib.hid hr
        have HK := Lib.hid hk
        have HH := Lib.hid (Tryd.r3has_calls (HY8.out.keep hk) xj)
        rw [hx] at HH
        clear hc hr hk hlr hx
        go_wp2_with (go_at_call 17; refine HH.out.mono ?_; rintro e w' ⟨rfl, rfl⟩)
        go_roundg (x.length - j)
        case measure => omega
        case rel => exact ⟨j + 1, by omega, by go_num, by rw [HF.out]; exact HR.out, HK.out, by omega⟩
      · have hx : y.contains x[j] = false := by simpa using hx
        have HF := Lib.hid (filter_yes (fun n => !y.contains n) x j hlt (by simpa using hx))
        generalize ((x.take j).filter (fun n => !y.contains n)) = zz at hr hlr HF ⊢
        generalize x[j] = xj at hcell HF hx
        obtain ⟨A5, c5, rfl, -, -, -⟩ := hr.slice
        have HR := Lib.hid hr
        have HK := Lib.hid hk
        have HH := Lib.hid (Tryd.r3has_calls (HY8.out.keep hk) xj)
        rw [hx] at HH
        clear hc hr hk hx
        go_wp2_with first
          | (go_at_call 17; refine HH.out.mono ?_; rintro e w' ⟨rfl, rfl⟩)
          | (at_builtin; refine row_append (fun k => w8.heap.size ≤ k) rfl _ _ 22 3 (.int .i64 0) 1 8 rfl Tryd.underlying22 Tryd.infoInt rfl (by decide) (by decide) (.slice A5 zz.length c5) zz.length _ rfl (HR.out.alloc _) ⟨wr.heap.size, 0, none⟩ 1 1 [.int .i64 xj] rfl rfl (cell_one_new _ _ _) (by simp [Value.oneCell']) (by omega) (by omega) ?_; intro g1 c1 w1' hrow hchg; have HROW := Lib.hid hrow; have HCHG := Lib.hid hchg; clear hrow hchg)
        go_roundg (x.length - j)
        case measure => omega
        case rel => exact ⟨j + 1, by omega, by go_num, by rw [HF.out]; exact HROW.out.snoc_int (fun b hb => by simp only [World.size_alloc] at hb; omega), kept_append HK.out HR.out (fun _ h => h) HCHG.out, by omega⟩
    · obtain rfl : j = x.length := by omega
      rw [List.take_length] at hr hlr
      have hZe : x.filter (fun n => !y.contains n) = lminus x y := rfl
      rw [hZe] at hr hlr
      have hJJ : ljoin J y = J := by
        rw [← HJ.out]
        exact (LS.join _ _).ext (LS.join _ _) fun n => by
          rw [mem_ljoin (LS.join _ _) HLY.out, mem_ljoin HLX.out HLY.out]
          exact ⟨fun h => h.elim id .inr, .inl⟩
      have hZZ : lminus (lminus x y) y = lminus x y := (HLX.out.minus y |>.minus y).ext (HLX.out.minus y) fun n => by
        rw [mem_lminus, mem_lminus]
        exact ⟨fun h => h.1, fun h => ⟨h, h.2⟩⟩
      have hLJ : LS J := by rw [← HJ.out]; exact LS.join _ _
      have hLZ : LS (lminus x y) := HLX.out.minus y
      have HZ : Hid (∃ Z, Z = lminus x y) := Lib.hid ⟨_, rfl⟩
      generalize hZ0 : lminus x y = Z at hr hlr hZZ hLZ
      obtain ⟨A5, c5, rfl, hc5, -, -⟩ := hr.slice
      have s9 := hk.size
      have HO0 := Lib.hid (show Oth (fun k => w1.heap.size ≤ k ∧ k < wr.heap.size) wr b d _ _ _ _ x y J Z from
        ⟨(HB8.out.keep hk).mono fun k _ h => by omega, (HD8.out.keep hk).mono fun k _ h => by omega, (HX8.out.keep hk).mono fun k _ h => by omega, (HY8.out.keep hk).mono fun k _ h => by omega, (HI8.out.keep hk).mono fun k _ h => by omega, (hr.ints (ok := fun k => w8.heap.size ≤ k) fun _ h => h).mono fun k h1 h => by omega⟩)
      have HA0 := Lib.hid (HA8.out.keep hk)
      have HKr := Lib.hid (HK8.out.then hk)
      have HJE := Lib.hid (HJ.out)
      have HZE := Lib.hid hZ0
      have HJJ := Lib.hid hJJ
      have HZZ := Lib.hid hZZ
      have HLJ := Lib.hid hLJ
      have HLZ := Lib.hid hLZ
      have HBJ := Lib.hid (show ∀ n ∈ J, -9223372036854775808 ≤ n ∧ n ≤ 9223372036854775807 from fun n hn => by have := hLJ.small n hn; omega)
      have HBZ := Lib.hid (show ∀ n ∈ Z, -9223372036854775808 ≤ n ∧ n ≤ 9223372036854775807 from fun n hn => by have := hLZ.small n hn; omega)
      clear hr hk hm hlr hZe hJJ hZZ hLJ hLZ hZ0 HZ HX8 HY8 HI8 HB8 HD8 HA8 hj hlt
      by_cases hz : 0 < Z.length
      · have hd : decide (0 < Z.length) = true := decide_eq_true hz
        go_wp2_with first
          | (go_at_call 22; first
              | (refine (Tryd.sjoin_self HA11.out).mono ?_; rintro e w12 ⟨rfl, hb, hk⟩; have s13 := hk.size; have HA12 := Lib.hid hb; have HO12 := Lib.hid (HO11.out.chg (M' := fun k => w1.heap.size ≤ k ∧ k < wr.heap.size) hk fun g _ h => ⟨by omega, h⟩); have HK12 := Lib.hid (HK11.out.trans hk fun i hi h => by omega); clear hb hk HA11 HO11)
              | (refine (Tryd.sjoin_calls HA10.out HO10.out.b (fun k _ h => by omega)).mono ?_; rintro e w11 ⟨rfl, hb, hk⟩; rw [HJJ.out] at hb ⊢; rw [decide_eq_false (Nat.lt_irrefl _)]; have s12 := hk.size; have HA11 := Lib.hid (hb.mono (T := (fun k => (w.heap.size ≤ k ∧ k < w1.heap.size) ∨ (wr.heap.size ≤ k ∧ k < w11.heap.size))) fun k h1 h2 => by omega); have HO11 := Lib.hid (HO10.out.chg (M' := fun k => w1.heap.size ≤ k ∧ k < wr.heap.size) hk fun g _ h => ⟨by omega, h⟩); have HK11 := Lib.hid (HK10.out.trans hk fun i hi h => by omega); clear hb hk HA10 HO10)
              | (refine (Tryd.sjoin_calls HA0.out HO0.out.b (fun k _ h => by omega)).mono ?_; rintro e w9 ⟨rfl, hb, hk⟩; rw [HJE.out] at hb ⊢; have s10 := hk.size; have HA9 := Lib.hid (hb.mono (T := (fun k => (w.heap.size ≤ k ∧ k < w1.heap.size) ∨ (wr.heap.size ≤ k ∧ k < w9.heap.size))) fun k h1 h2 => by omega); have HO9 := Lib.hid (HO0.out.chg (M' := fun k => w1.heap.size ≤ k ∧ k < wr.heap.size) hk fun g _ h => ⟨by omega, h⟩); have HK9 := Lib.hid (HKr.out.trans hk fun i hi h => by omega); clear hb hk HA0 HO0))
          | (go_at_call 7; first
              | (refine (Tryd.sof_calls HO14.out.le HBZ.out).mono ?_; rintro e w15 ⟨f2, rfl, hb, hk⟩; rw [HLZ.out.self] at hb; have s16 := hk.size; have HE15 := Lib.hid hb; have HA15 := Lib.hid (HA14.out.keep hk); have HO15 := Lib.hid (HO14.out.keep hk); have HC15 := Lib.hid (HC14.out.keep hk); have HK15 := Lib.hid (HK14.out.then hk); clear hb hk HA14 HO14 HC14)
              | (refine (Tryd.sof_calls HO9.out.bo HBJ.out).mono ?_; rintro e w10 ⟨f1, rfl, hb, hk⟩; rw [HLJ.out.self] at hb; have s11 := hk.size; have HE10 := Lib.hid hb; have HA10 := Lib.hid (HA9.out.keep hk); have HO10 := Lib.hid (HO9.out.keep hk); have HK10 := Lib.hid (HK9.out.then hk); clear hb hk HA9 HO9))
          | (go_at_call 23; first
              | (refine (Tryd.ssame_calls HA20.out HO20.out.b).mono ?_; rintro e w' ⟨rfl, rfl⟩)
              | (refine (Tryd.ssame_calls HC15.out HE15.out).mono ?_; rintro e w' ⟨rfl, rfl⟩; rw [decide_eq_true rfl]; clear HE15)
              | (refine (Tryd.ssame_calls HA10.out HE10.out).mono ?_; rintro e w' ⟨rfl, rfl⟩; rw [decide_eq_true rfl]; clear HE10))
          | (go_at_call 21; refine (Tryd.sclone_calls HO12.out.d).mono ?_; rintro e w13 ⟨cc, rfl, hb, hk⟩; have s14 := hk.size; have HC13 := Lib.hid (hb.mono (T := (fun k => w12.heap.size ≤ k ∧ k < w13.heap.size)) fun k h1 h2 => by omega); have HA13 := Lib.hid ((HA12.out.keep hk).mono (T := (fun k => w.heap.size ≤ k ∧ k < w12.heap.size)) fun k h1 h2 => by omega); have HO13 := Lib.hid (HO12.out.chg (M' := (fun k => w.heap.size ≤ k ∧ k < w12.heap.size)) hk fun g _ h => ⟨id, by omega⟩); have HK13 := Lib.hid (HK12.out.then hk); clear hb hk HA12 HO12)
          | (go_at_call 24; first
              | (refine (Tryd.sminus_self HC21.out).mono ?_; rintro e w22 ⟨rfl, hb, hk⟩; rw [hd]; have s23 := hk.size; have HC22 := Lib.hid hb; have HK22 := Lib.hid (HK21.out.trans hk fun i hi h => by omega); clear hb hk HC21 HA21 HO21)
              | (refine (Tryd.sminus_calls HC15.out HO15.out.b (fun k _ h => by omega)).mono ?_; rintro e w16 ⟨rfl, hb, hk⟩; rw [HZZ.out] at hb ⊢; rw [decide_eq_false (Nat.lt_irrefl _)]; have s17 := hk.size; have HC16 := Lib.hid hb; have HA16 := Lib.hid (HA15.out.chg (T := (fun k => w.heap.size ≤ k ∧ k < w12.heap.size)) hk (fun g _ h => by omega) (fun g _ h => h)); have HO16 := Lib.hid (HO15.out.chg (M' := (fun k => w.heap.size ≤ k ∧ k < w12.heap.size)) hk fun g _ h => ⟨by omega, h⟩); have HK16 := Lib.hid (HK15.out.trans hk fun i hi h => by omega); clear hb hk HC15 HA15 HO15)
              | (refine (Tryd.sminus_calls HC13.out HO13.out.b (fun k _ h => by omega)).mono ?_; rintro e w14 ⟨rfl, hb, hk⟩; rw [HZE.out] at hb ⊢; have s15 := hk.size; have HC14 := Lib.hid hb; have HA14 := Lib.hid (HA13.out.chg (T := (fun k => w.heap.size ≤ k ∧ k < w12.heap.size)) hk (fun g _ h => by omega) (fun g _ h => h)); have HO14 := Lib.hid (HO13.out.chg (M' := (fun k => w.heap.size ≤ k ∧ k < w12.heap.size)) hk fun g _ h => ⟨by omega, h⟩); have HK14 := Lib.hid (HK13.out.trans hk fun i hi h => by omega); clear hb hk HC13 HA13 HO13))
          | (go_at_call 13; first
              | (refine (Tryd.sall_calls HC17.out (HT.out.chg HK17.out id)).mono ?_; rintro e w18 ⟨gv2, rfl, hi, hk⟩; have s19 := hk.size; have HH18 := Lib.hid hi; have HG18 := Lib.hid (HG17.out.keep hk); have HC18 := Lib.hid (HC17.out.keep hk); have HA18 := Lib.hid (HA17.out.keep hk); have HO18 := Lib.hid (HO17.out.keep hk); have HK18 := Lib.hid (HK17.out.then hk); clear hi hk HC17 HA17 HO17 HG17)
              | (refine (Tryd.sall_calls HO16.out.d (HT.out.chg HK16.out id)).mono ?_; rintro e w17 ⟨gv, rfl, hi, hk⟩; have s18 := hk.size; have HG17 := Lib.hid hi; have HC17 := Lib.hid (HC16.out.keep hk); have HA17 := Lib.hid (HA16.out.keep hk); have HO17 := Lib.hid (HO16.out.keep hk); have HK17 := Lib.hid (HK16.out.then hk); clear hi hk HC16 HA16 HO16))
          | (go_at_call 14; first
              | (refine (Tryd.r3same_calls HO20.out.bo HO20.out.y).mono ?_; rintro e w' ⟨rfl, nd, rfl⟩; have hk := (Chg.refl (fun _ => False) w20).drewN nd; generalize w20.drewN nd = w21 at hk ⊢; have s22 := hk.size; have HC21 := Lib.hid (HC20.out.keep hk); have HA21 := Lib.hid (HA20.out.keep hk); have HO21 := Lib.hid (HO20.out.keep hk); have HK21 := Lib.hid (HK20.out.then hk); clear hk HC20 HA20 HO20)
              | (refine (Tryd.r3same_calls HH19.out HO19.out.le).mono ?_; rintro e w' ⟨rfl, nd, rfl⟩; rw [decide_eq_true rfl]; have hk := (Chg.refl (fun _ => False) w19).drewN nd; generalize w19.drewN nd = w20 at hk ⊢; have s21 := hk.size; have HC20 := Lib.hid (HC19.out.keep hk); have HA20 := Lib.hid (HA19.out.keep hk); have HO20 := Lib.hid (HO19.out.keep hk); have HK20 := Lib.hid (HK19.out.then hk); clear hk HC19 HA19 HO19 HH19)
              | (refine (Tryd.r3same_calls HG18.out HO18.out.x).mono ?_; rintro e w' ⟨rfl, nd, rfl⟩; rw [decide_eq_true rfl]; have hk := (Chg.refl (fun _ => False) w18).drewN nd; generalize w18.drewN nd = w19 at hk ⊢; have s20 := hk.size; have HH19 := Lib.hid (HH18.out.keep hk); have HC19 := Lib.hid (HC18.out.keep hk); have HA19 := Lib.hid (HA18.out.keep hk); have HO19 := Lib.hid (HO18.out.keep hk); have HK19 := Lib.hid (HK18.out.then hk); clear hk HC18 HA18 HO18 HG18 HH18))
          | (go_at_call 15; refine (Tryd.slen_calls HC22.out).mono ?_; rintro e w' ⟨rfl, rfl⟩)
          | (go_at_call 18; refine (Tryd.lives_calls _).mono ?_; rintro e w23 ⟨rfl, hk⟩; have HK23 := Lib.hid (HK22.out.then hk); clear hk)
        go_ret
        exact ⟨rfl, HK23.out⟩
      · have hd : decide (0 < Z.length) = false := decide_eq_false hz
        go_wp2_with first
          | (go_at_call 22; first
              | (refine (Tryd.sjoin_self HA11.out).mono ?_; rintro e w12 ⟨rfl, hb, hk⟩; have s13 := hk.size; have HA12 := Lib.hid hb; have HO12 := Lib.hid (HO11.out.chg (M' := fun k => w1.heap.size ≤ k ∧ k < wr.heap.size) hk fun g _ h => ⟨by omega, h⟩); have HK12 := Lib.hid (HK11.out.trans hk fun i hi h => by omega); clear hb hk HA11 HO11)
              | (refine (Tryd.sjoin_calls HA10.out HO10.out.b (fun k _ h => by omega)).mono ?_; rintro e w11 ⟨rfl, hb, hk⟩; rw [HJJ.out] at hb ⊢; rw [decide_eq_false (Nat.lt_irrefl _)]; have s12 := hk.size; have HA11 := Lib.hid (hb.mono (T := (fun k => (w.heap.size ≤ k ∧ k < w1.heap.size) ∨ (wr.heap.size ≤ k ∧ k < w11.heap.size))) fun k h1 h2 => by omega); have HO11 := Lib.hid (HO10.out.chg (M' := fun k => w1.heap.size ≤ k ∧ k < wr.heap.size) hk fun g _ h => ⟨by omega, h⟩); have HK11 := Lib.hid (HK10.out.trans hk fun i hi h => by omega); clear hb hk HA10 HO10)
              | (refine (Tryd.sjoin_calls HA0.out HO0.out.b (fun k _ h => by omega)).mono ?_; rintro e w9 ⟨rfl, hb, hk⟩; rw [HJE.out] at hb ⊢; have s10 := hk.size; have HA9 := Lib.hid (hb.mono (T := (fun k => (w.heap.size ≤ k ∧ k < w1.heap.size) ∨ (wr.heap.size ≤ k ∧ k < w9.heap.size))) fun k h1 h2 => by omega); have HO9 := Lib.hid (HO0.out.chg (M' := fun k => w1.heap.size ≤ k ∧ k < wr.heap.size) hk fun g _ h => ⟨by omega, h⟩); have HK9 := Lib.hid (HKr.out.trans hk fun i hi h => by omega); clear hb hk HA0 HO0))
          | (go_at_call 7; first
              | (refine (Tryd.sof_calls HO14.out.le HBZ.out).mono ?_; rintro e w15 ⟨f2, rfl, hb, hk⟩; rw [HLZ.out.self] at hb; have s16 := hk.size; have HE15 := Lib.hid hb; have HA15 := Lib.hid (HA14.out.keep hk); have HO15 := Lib.hid (HO14.out.keep hk); have HC15 := Lib.hid (HC14.out.keep hk); have HK15 := Lib.hid (HK14.out.then hk); clear hb hk HA14 HO14 HC14)
              | (refine (Tryd.sof_calls HO9.out.bo HBJ.out).mono ?_; rintro e w10 ⟨f1, rfl, hb, hk⟩; rw [HLJ.out.self] at hb; have s11 := hk.size; have HE10 := Lib.hid hb; have HA10 := Lib.hid (HA9.out.keep hk); have HO10 := Lib.hid (HO9.out.keep hk); have HK10 := Lib.hid (HK9.out.then hk); clear hb hk HA9 HO9))
          | (go_at_call 23; first
              | (refine (Tryd.ssame_calls HA20.out HO20.out.b).mono ?_; rintro e w' ⟨rfl, rfl⟩)
              | (refine (Tryd.ssame_calls HC15.out HE15.out).mono ?_; rintro e w' ⟨rfl, rfl⟩; rw [decide_eq_true rfl]; clear HE15)
              | (refine (Tryd.ssame_calls HA10.out HE10.out).mono ?_; rintro e w' ⟨rfl, rfl⟩; rw [decide_eq_true rfl]; clear HE10))
          | (go_at_call 21; refine (Tryd.sclone_calls HO12.out.d).mono ?_; rintro e w13 ⟨cc, rfl, hb, hk⟩; have s14 := hk.size; have HC13 := Lib.hid (hb.mono (T := (fun k => w12.heap.size ≤ k ∧ k < w13.heap.size)) fun k h1 h2 => by omega); have HA13 := Lib.hid ((HA12.out.keep hk).mono (T := (fun k => w.heap.size ≤ k ∧ k < w12.heap.size)) fun k h1 h2 => by omega); have HO13 := Lib.hid (HO12.out.chg (M' := (fun k => w.heap.size ≤ k ∧ k < w12.heap.size)) hk fun g _ h => ⟨id, by omega⟩); have HK13 := Lib.hid (HK12.out.then hk); clear hb hk HA12 HO12)
          | (go_at_call 24; first
              | (refine (Tryd.sminus_self HC21.out).mono ?_; rintro e w22 ⟨rfl, hb, hk⟩; rw [hd]; have s23 := hk.size; have HC22 := Lib.hid hb; have HK22 := Lib.hid (HK21.out.trans hk fun i hi h => by omega); clear hb hk HC21 HA21 HO21)
              | (refine (Tryd.sminus_calls HC15.out HO15.out.b (fun k _ h => by omega)).mono ?_; rintro e w16 ⟨rfl, hb, hk⟩; rw [HZZ.out] at hb ⊢; rw [decide_eq_false (Nat.lt_irrefl _)]; have s17 := hk.size; have HC16 := Lib.hid hb; have HA16 := Lib.hid (HA15.out.chg (T := (fun k => w.heap.size ≤ k ∧ k < w12.heap.size)) hk (fun g _ h => by omega) (fun g _ h => h)); have HO16 := Lib.hid (HO15.out.chg (M' := (fun k => w.heap.size ≤ k ∧ k < w12.heap.size)) hk fun g _ h => ⟨by omega, h⟩); have HK16 := Lib.hid (HK15.out.trans hk fun i hi h => by omega); clear hb hk HC15 HA15 HO15)
              | (refine (Tryd.sminus_calls HC13.out HO13.out.b (fun k _ h => by omega)).mono ?_; rintro e w14 ⟨rfl, hb, hk⟩; rw [HZE.out] at hb ⊢; have s15 := hk.size; have HC14 := Lib.hid hb; have HA14 := Lib.hid (HA13.out.chg (T := (fun k => w.heap.size ≤ k ∧ k < w12.heap.size)) hk (fun g _ h => by omega) (fun g _ h => h)); have HO14 := Lib.hid (HO13.out.chg (M' := (fun k => w.heap.size ≤ k ∧ k < w12.heap.size)) hk fun g _ h => ⟨by omega, h⟩); have HK14 := Lib.hid (HK13.out.trans hk fun i hi h => by omega); clear hb hk HC13 HA13 HO13))
          | (go_at_call 13; first
              | (refine (Tryd.sall_calls HC17.out (HT.out.chg HK17.out id)).mono ?_; rintro e w18 ⟨gv2, rfl, hi, hk⟩; have s19 := hk.size; have HH18 := Lib.hid hi; have HG18 := Lib.hid (HG17.out.keep hk); have HC18 := Lib.hid (HC17.out.keep hk); have HA18 := Lib.hid (HA17.out.keep hk); have HO18 := Lib.hid (HO17.out.keep hk); have HK18 := Lib.hid (HK17.out.then hk); clear hi hk HC17 HA17 HO17 HG17)
              | (refine (Tryd.sall_calls HO16.out.d (HT.out.chg HK16.out id)).mono ?_; rintro e w17 ⟨gv, rfl, hi, hk⟩; have s18 := hk.size; have HG17 := Lib.hid hi; have HC17 := Lib.hid (HC16.out.keep hk); have HA17 := Lib.hid (HA16.out.keep hk); have HO17 := Lib.hid (HO16.out.keep hk); have HK17 := Lib.hid (HK16.out.then hk); clear hi hk HC16 HA16 HO16))
          | (go_at_call 14; first
              | (refine (Tryd.r3same_calls HO20.out.bo HO20.out.y).mono ?_; rintro e w' ⟨rfl, nd, rfl⟩; have hk := (Chg.refl (fun _ => False) w20).drewN nd; generalize w20.drewN nd = w21 at hk ⊢; have s22 := hk.size; have HC21 := Lib.hid (HC20.out.keep hk); have HA21 := Lib.hid (HA20.out.keep hk); have HO21 := Lib.hid (HO20.out.keep hk); have HK21 := Lib.hid (HK20.out.then hk); clear hk HC20 HA20 HO20)
              | (refine (Tryd.r3same_calls HH19.out HO19.out.le).mono ?_; rintro e w' ⟨rfl, nd, rfl⟩; rw [decide_eq_true rfl]; have hk := (Chg.refl (fun _ => False) w19).drewN nd; generalize w19.drewN nd = w20 at hk ⊢; have s21 := hk.size; have HC20 := Lib.hid (HC19.out.keep hk); have HA20 := Lib.hid (HA19.out.keep hk); have HO20 := Lib.hid (HO19.out.keep hk); have HK20 := Lib.hid (HK19.out.then hk); clear hk HC19 HA19 HO19 HH19)
              | (refine (Tryd.r3same_calls HG18.out HO18.out.x).mono ?_; rintro e w' ⟨rfl, nd, rfl⟩; rw [decide_eq_true rfl]; have hk := (Chg.refl (fun _ => False) w18).drewN nd; generalize w18.drewN nd = w19 at hk ⊢; have s20 := hk.size; have HH19 := Lib.hid (HH18.out.keep hk); have HC19 := Lib.hid (HC18.out.keep hk); have HA19 := Lib.hid (HA18.out.keep hk); have HO19 := Lib.hid (HO18.out.keep hk); have HK19 := Lib.hid (HK18.out.then hk); clear hk HC18 HA18 HO18 HG18 HH18))
          | (go_at_call 15; refine (Tryd.slen_calls HC22.out).mono ?_; rintro e w' ⟨rfl, rfl⟩)
          | (go_at_call 18; refine (Tryd.lives_calls _).mono ?_; rintro e w23 ⟨rfl, hk⟩; have HK23 := Lib.hid (HK22.out.then hk); clear hk)
        go_ret
        exact ⟨rfl, HK23.out⟩
end Go.Proofs.YtaobleahcceffaaDoor
