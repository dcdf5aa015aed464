/-
  The walks of the references' rows of numbers: brazierref03 (Has, Put, Drop, Of, Same). Conditions: slices that read as at most 1,000,000 numbers.
-/
import Derived.Test.YtaobleahcceffaaDoorProg
import Derived.Test.YtaobleahcceffaaDoorLists
set_option linter.unusedVariables false
set_option linter.unusedSimpArgs false
namespace Go.Proofs.YtaobleahcceffaaDoor
open Go.RowKit

theorem Tryd.infoInt : (Tryd.prog.info? 3).map (fun i => (i.zero, i.size, i.bytes)) = some (some (.int .i64 0), 1, 8) := by kernel_rfl

set_option maxHeartbeats 400000 in
theorem Tryd.r3has_calls {ok : Nat → Prop} {w : World} {v : Value} {l : List Int} (h : Ints .i64 ok w v l) (n : Int) :
    Calls Tryd.prog 17 #[v, .int .i64 n] w fun e w' => e = .returned (.bool (l.contains n)) ∧ w = w' := by
  obtain ⟨A, c, rfl, h1, h2, h3, _⟩ := h.at_
  have h2' : l.length ≤ 9223372036854775807 := by unfold maxLen at h2; omega
  have H := Lib.hid h
  clear h h3 h2
  go_enter Tryd.func17, Tryd.ntmps17
  go_wp2
  go_loopg [9] (l.length + 1) (fun k i wr => ∃ j : Nat, j ≤ l.length ∧ i = .int .i64 j ∧ (l.take j).contains n = false ∧ wr = w ∧ l.length + 1 - j ≤ k)
  case atStart => exact ⟨0, Nat.zero_le _, rfl, rfl, rfl, by omega⟩
  case round =>
    obtain ⟨j, hj, rfl, hno, rfl, hm⟩ := hrel
    by_cases hlt : j < l.length
    · obtain ⟨g, off, rfl, _, _, hc⟩ := H.out.cells (by omega)
      have hcell := hc j l[j] (List.getElem?_eq_getElem hlt)
      have HT := Lib.hid (List.take_succ_eq_append_getElem hlt)
      have HNO := Lib.hid hno
      have HM := Lib.hid (List.getElem_mem hlt)
      generalize l[j] = x at hcell HT HM
      clear hc hno
      by_cases hx : x = n
      · have hx' : (x == n) = true := by simpa using hx
        have HX := Lib.hid hx
        clear hx
        go_wp2
        go_ret
        refine ⟨?_, rfl⟩
        have hmem : l.contains n = true := by simpa [← HX.out] using HM.out
        rw [hmem]; rfl
      · have hx' : (x == n) = false := by simpa using hx
        go_wp2
        go_roundg (gk - 1)
        case measure => omega
        case rel => exact ⟨j + 1, by omega, by go_num, by rw [HT.out, List.contains_append, HNO.out]; simp; exact fun e => hx e.symm, rfl, by omega⟩
    · obtain rfl : j = l.length := by omega
      rw [List.take_length] at hno
      have HNO := Lib.hid hno
      clear hno
      go_wp2
      go_ret
      rw [HNO.out]
      exact ⟨rfl, rfl⟩

/-- A rising row with a number more. -/
def rputG (l : List Int) (n : Int) : List Int := if l.contains n then l else l.filter (fun x => decide (x < n)) ++ [n] ++ l.filter (fun x => decide (n < x))
def r3put (l : List Int) (n : Int) : List Int := if n < 0 ∨ 65535 < n then l else rputG l n

set_option maxHeartbeats 1000000 in
theorem Tryd.r3put_yes {ok : Nat → Prop} {w : World} {v : Value} {l : List Int} (h : Ints .i64 ok w v l) (hl : l.length ≤ 1000000) (n : Int) (n0 : 0 ≤ n) (n1 : n ≤ 65535) (hn : l.contains n = false) :
    Calls Tryd.prog 9 #[v, .int .i64 n] w fun e w' => ∃ v', e = .returned v' ∧ Row (fun k => w.heap.size ≤ k) w' 3 1 v' (rputG l n).length ((rputG l n).map (.int .i64)) ∧ Kept w w' := by
  obtain ⟨A, c, rfl, h1, h2, h3, _⟩ := h.at_
  have H := Lib.hid h
  have HN := Lib.hid hn
  clear h h3 h2 hn
  have n1' : ¬ (65535 < n) := by omega
  go_enter Tryd.func9, Tryd.ntmps9
  go_wp2_with (go_at_call 17; refine (Tryd.r3has_calls H.out _).mono ?_; rintro e w' ⟨rfl, rfl⟩; rw [HN.out])
  go_loopg [5, 24] (l.length + 1) (fun k u i wr => ∃ j : Nat, j ≤ l.length ∧ i = .int .i64 j ∧ Row (fun k => w.heap.size ≤ k) wr 3 1 u ((l.take j).filter (fun x => decide (x < n))).length (((l.take j).filter (fun x => decide (x < n))).map (.int .i64)) ∧ Kept w wr ∧ l.length + 1 - j ≤ k)
  case atStart => exact ⟨0, Nat.zero_le _, rfl, Row.nil _ _ _ _, Chg.refl _ _, by omega⟩
  case round =>
    obtain ⟨j, hj, rfl, hr, hk, hm⟩ := hrel
    have hlr := filter_take_le (fun x => decide (x < n)) l j
    by_cases hlt : j < l.length
    · obtain ⟨g, off, rfl, _, _, hc⟩ := H.out.cells (by omega)
      have hcell := kept_cell hk (hc j l[j] (List.getElem?_eq_getElem hlt))
      have hsz := hk.size
      obtain ⟨A5, c5, rfl, _, _, _⟩ := hr.slice
      by_cases hx : l[j] < n
      · have HF := Lib.hid (filter_yes (fun x => decide (x < n)) l j hlt (by simpa using hx))
        generalize hE : (l.take j).filter (fun x => decide (x < n)) = ys at *
        generalize l[j] = x at hcell HF hx
        have HR := Lib.hid hr
        have HK := Lib.hid hk
        clear hc hr hk hE
        go_wp2_with (at_builtin; refine row_append (fun k => w.heap.size ≤ k) rfl _ _ 22 3 (.int .i64 0) 1 8 rfl Tryd.underlying22 Tryd.infoInt rfl (by decide) (by decide) (.slice A5 ys.length c5) ys.length _ rfl (HR.out.alloc _) ⟨wr.heap.size, 0, none⟩ 1 1 [.int .i64 x] rfl rfl (cell_one_new _ _ _) (by simp [Value.oneCell']) (by omega) (by omega) ?_; intro g1 c1 w1 hrow hchg; have HROW := Lib.hid hrow; have HCHG := Lib.hid hchg; clear hrow hchg)
        go_roundg (gk - 1)
        case measure => omega
        case rel => exact ⟨j + 1, by omega, by go_num, by rw [HF.out]; exact HROW.out.snoc_int (fun b hb => by simp only [World.size_alloc] at hb; omega), kept_append HK.out HR.out (fun _ h => h) HCHG.out, by omega⟩
      · have HF := Lib.hid (filter_no (fun x => decide (x < n)) l j hlt (by simpa using hx))
        generalize l[j] = x at hcell HF hx
        have HR := Lib.hid hr
        have HK := Lib.hid hk
        clear hc hr hk
        go_wp2
        go_roundg (gk - 1)
        case measure => omega
        case rel => exact ⟨j + 1, by omega, by go_num, by rw [HF.out]; exact HR.out, HK.out, by omega⟩
    · obtain rfl : j = l.length := by omega
      rw [List.take_length] at hr hlr
      obtain ⟨A5, c5, rfl, _, _, _⟩ := hr.slice
      have hsz := hk.size
      have HEY := Lib.hid (show rputG l n = l.filter (fun x => decide (x < n)) ++ [n] ++ l.filter (fun x => decide (n < x)) by unfold rputG; rw [HN.out]; rfl)
      generalize l.filter (fun x => decide (x < n)) = ys at hr hlr HEY
      have HR := Lib.hid hr
      have HK := Lib.hid hk
      clear hr hk
      go_wp2_with (at_builtin; refine row_append (fun k => w.heap.size ≤ k) rfl _ _ 22 3 (.int .i64 0) 1 8 rfl Tryd.underlying22 Tryd.infoInt rfl (by decide) (by decide) (.slice A5 ys.length c5) ys.length _ rfl (HR.out.alloc _) ⟨wr.heap.size, 0, none⟩ 1 1 [.int .i64 n] rfl rfl (cell_one_new _ _ _) (by simp [Value.oneCell']) (by omega) (by omega) ?_; intro g1 c1 w1 hrow hchg; have HROW := Lib.hid hrow; have HCHG := Lib.hid hchg; clear hrow hchg)
      have HR1 := Lib.hid (HROW.out.snoc_int (fun b hb => by simp only [World.size_alloc] at hb; omega))
      have HK1 := Lib.hid (kept_append HK.out HR.out (fun _ h => h) HCHG.out)
      have hl1 : (ys ++ [n]).length ≤ 1000001 := by simp; omega
      generalize ys ++ [n] = zs at HR1 hl1 HEY
      clear HROW HCHG HR HK
      go_loopg [5, 42] (l.length + 1) (fun k u i wr => ∃ j : Nat, j ≤ l.length ∧ i = .int .i64 j ∧ Row (fun k => w.heap.size ≤ k) wr 3 1 u (zs ++ (l.take j).filter (fun x => decide (n < x))).length ((zs ++ (l.take j).filter (fun x => decide (n < x))).map (.int .i64)) ∧ Kept w wr ∧ l.length + 1 - j ≤ k)
      case atStart => exact ⟨0, Nat.zero_le _, rfl, by simpa using HR1.out, HK1.out, by omega⟩
      case round =>
        obtain ⟨j, hj, rfl, hr, hk, hm⟩ := hrel
        have hlr := filter_take_le (fun x => decide (n < x)) l j
        by_cases hlt : j < l.length
        · obtain ⟨g, off, rfl, _, _, hc⟩ := H.out.cells (by omega)
          have hcell := kept_cell hk (hc j l[j] (List.getElem?_eq_getElem hlt))
          have hsz := hk.size
          have hlz : (zs ++ (l.take j).filter (fun x => decide (n < x))).length ≤ 2000002 := by rw [List.length_append]; omega
          by_cases hx : n < l[j]
          · have HF := Lib.hid (show (zs ++ (l.take (j + 1)).filter (fun x => decide (n < x))) = (zs ++ (l.take j).filter (fun x => decide (n < x))) ++ [l[j]] from by rw [filter_yes (fun x => decide (n < x)) l j hlt (by simpa using hx), List.append_assoc])
            generalize (zs ++ (l.take j).filter (fun x => decide (n < x))) = zz at hr hlz HF ⊢
            generalize l[j] = x at hcell HF hx
            obtain ⟨A5, c5, rfl, _, _, _⟩ := hr.slice
            have HR := Lib.hid hr
            have HK := Lib.hid hk
            clear hc hr hk hlr
            go_wp2_with (at_builtin; refine row_append (fun k => w.heap.size ≤ k) rfl _ _ 22 3 (.int .i64 0) 1 8 rfl Tryd.underlying22 Tryd.infoInt rfl (by decide) (by decide) (.slice A5 zz.length c5) zz.length _ rfl (HR.out.alloc _) ⟨wr.heap.size, 0, none⟩ 1 1 [.int .i64 x] rfl rfl (cell_one_new _ _ _) (by simp [Value.oneCell']) (by omega) (by omega) ?_; intro g1 c1 w1 hrow hchg; have HROW := Lib.hid hrow; have HCHG := Lib.hid hchg; clear hrow hchg)
            go_roundg (l.length - j)
            case measure => omega
            case rel => exact ⟨j + 1, by omega, by go_num, by rw [HF.out]; exact HROW.out.snoc_int (fun b hb => by simp only [World.size_alloc] at hb; omega), kept_append HK.out HR.out (fun _ h => h) HCHG.out, by omega⟩
          · have HF := Lib.hid (show (zs ++ (l.take (j + 1)).filter (fun x => decide (n < x))) = (zs ++ (l.take j).filter (fun x => decide (n < x))) from by rw [filter_no (fun x => decide (n < x)) l j hlt (by simpa using hx)])
            generalize (zs ++ (l.take j).filter (fun x => decide (n < x))) = zz at hr hlz HF ⊢
            generalize l[j] = x at hcell HF hx
            obtain ⟨A5, c5, rfl, _, _, _⟩ := hr.slice
            have HR := Lib.hid hr
            have HK := Lib.hid hk
            clear hc hr hk hlr
            go_wp2
            go_roundg (l.length - j)
            case measure => omega
            case rel => exact ⟨j + 1, by omega, by go_num, by rw [HF.out]; exact HR.out, HK.out, by omega⟩
        · obtain rfl : j = l.length := by omega
          rw [List.take_length] at hr
          have HR := Lib.hid hr
          have HK := Lib.hid hk
          clear hr hk
          go_wp2
          go_ret
          exact ⟨_, rfl, by rw [HEY.out]; exact HR.out, HK.out⟩

set_option maxHeartbeats 400000 in
theorem Tryd.r3put_calls {ok : Nat → Prop} {w : World} {v : Value} {l : List Int} (h : Ints .i64 ok w v l) (hl : l.length ≤ 1000000) (n : Int) :
    Calls Tryd.prog 9 #[v, .int .i64 n] w fun e w' => ∃ v', e = .returned v' ∧ Ints .i64 (fun k => ok k ∨ w.heap.size ≤ k) w' v' (r3put l n) ∧ Kept w w' := by
  have H := Lib.hid h
  have HM := Lib.hid (show Ints .i64 (fun k => ok k ∨ w.heap.size ≤ k) w v l from Rd.move (RInt.mov _) (Moves.weak fun _ _ h => .inl h) (by omega) h)
  by_cases hn : n < 0
  · have e : Hid (r3put l n = l) := Lib.hid (by unfold r3put; rw [if_pos (.inl hn)])
    clear h
    go_enter Tryd.func9, Tryd.ntmps9
    go_wp2
    go_ret
    exact ⟨_, rfl, by rw [e.out]; exact HM.out, Chg.refl _ _⟩
  · by_cases hn1 : 65535 < n
    · have e : Hid (r3put l n = l) := Lib.hid (by unfold r3put; rw [if_pos (.inr hn1)])
      clear h
      go_enter Tryd.func9, Tryd.ntmps9
      go_wp2
      go_ret
      exact ⟨_, rfl, by rw [e.out]; exact HM.out, Chg.refl _ _⟩
    · have e0 : r3put l n = rputG l n := by unfold r3put; rw [if_neg (by omega)]
      by_cases hc : l.contains n = true
      · have e : Hid (r3put l n = l) := Lib.hid (by rw [e0, rputG, if_pos hc])
        have HC := Lib.hid hc
        clear h hc e0
        go_enter Tryd.func9, Tryd.ntmps9
        go_wp2_with (go_at_call 17; refine (Tryd.r3has_calls H.out _).mono ?_; rintro e w' ⟨rfl, rfl⟩; rw [HC.out])
        go_ret
        exact ⟨_, rfl, by rw [e.out]; exact HM.out, Chg.refl _ _⟩
      · refine (Tryd.r3put_yes h hl n (by omega) (by omega) (by simpa using hc)).mono ?_
        rintro e w' ⟨v', rfl, hr, hk⟩
        exact ⟨v', rfl, by rw [e0]; exact hr.ints fun g hg => .inr hg, hk⟩

/-- A row without a number. -/
def rdrop (l : List Int) (n : Int) : List Int := l.filter (fun x => decide (x ≠ n))
set_option maxHeartbeats 1000000 in
theorem Tryd.r3drop_calls {ok : Nat → Prop} {w : World} {v : Value} {l : List Int} (h : Ints .i64 ok w v l) (hl : l.length ≤ 1000000) (n : Int) :
    Calls Tryd.prog 11 #[v, .int .i64 n] w fun e w' => ∃ v', e = .returned v' ∧ Ints .i64 (fun k => w.heap.size ≤ k) w' v' (rdrop l n) ∧ Kept w w' := by
  obtain ⟨A, c, rfl, h1, h2, h3, _⟩ := h.at_
  have H := Lib.hid h
  clear h h3 h2
  go_enter Tryd.func11, Tryd.ntmps11
  go_wp2
  go_loopg [5, 10] (l.length + 1) (fun k u i wr => ∃ j : Nat, j ≤ l.length ∧ i = .int .i64 j ∧ Row (fun k => w.heap.size ≤ k) wr 3 1 u ((l.take j).filter (fun x => decide (x ≠ n))).length (((l.take j).filter (fun x => decide (x ≠ n))).map (.int .i64)) ∧ Kept w wr ∧ l.length + 1 - j ≤ k)
  case atStart => exact ⟨0, Nat.zero_le _, rfl, Row.nil _ _ _ _, Chg.refl _ _, by omega⟩
  case round =>
    obtain ⟨j, hj, rfl, hr, hk, hm⟩ := hrel
    have hlr := filter_take_le (fun x => decide (x ≠ n)) l j
    by_cases hlt : j < l.length
    · obtain ⟨g, off, rfl, _, _, hc⟩ := H.out.cells (by omega)
      have hcell := kept_cell hk (hc j l[j] (List.getElem?_eq_getElem hlt))
      have hsz := hk.size
      have hlz : ((l.take j).filter (fun x => decide (x ≠ n))).length ≤ 2000002 := by omega
      by_cases hx : l[j] ≠ n
      · have HF := Lib.hid (show ((l.take (j + 1)).filter (fun x => decide (x ≠ n))) = ((l.take j).filter (fun x => decide (x ≠ n))) ++ [l[j]] from filter_yes (fun x => decide (x ≠ n)) l j hlt (by simpa using hx))
        generalize ((l.take j).filter (fun x => decide (x ≠ n))) = zz at hr hlz HF ⊢
        generalize l[j] = x at hcell HF hx
        obtain ⟨A5, c5, rfl, _, _, _⟩ := hr.slice
        have HR := Lib.hid hr
        have HK := Lib.hid hk
        clear hc hr hk hlr
        go_wp2_with (at_builtin; refine row_append (fun k => w.heap.size ≤ k) rfl _ _ 22 3 (.int .i64 0) 1 8 rfl Tryd.underlying22 Tryd.infoInt rfl (by decide) (by decide) (.slice A5 zz.length c5) zz.length _ rfl (HR.out.alloc _) ⟨wr.heap.size, 0, none⟩ 1 1 [.int .i64 x] rfl rfl (cell_one_new _ _ _) (by simp [Value.oneCell']) (by omega) (by omega) ?_; intro g1 c1 w1 hrow hchg; have HROW := Lib.hid hrow; have HCHG := Lib.hid hchg; clear hrow hchg)
        go_roundg (l.length - j)
        case measure => omega
        case rel => exact ⟨j + 1, by omega, by go_num, by rw [HF.out]; exact HROW.out.snoc_int (fun b hb => by simp only [World.size_alloc] at hb; omega), kept_append HK.out HR.out (fun _ h => h) HCHG.out, by omega⟩
      · have HF := Lib.hid (show ((l.take (j + 1)).filter (fun x => decide (x ≠ n))) = ((l.take j).filter (fun x => decide (x ≠ n))) from filter_no (fun x => decide (x ≠ n)) l j hlt (by simpa using hx))
        generalize ((l.take j).filter (fun x => decide (x ≠ n))) = zz at hr hlz HF ⊢
        generalize l[j] = x at hcell HF hx
        obtain ⟨A5, c5, rfl, _, _, _⟩ := hr.slice
        have HR := Lib.hid hr
        have HK := Lib.hid hk
        clear hc hr hk hlr
        go_wp2
        go_roundg (l.length - j)
        case measure => omega
        case rel => exact ⟨j + 1, by omega, by go_num, by rw [HF.out]; exact HR.out, HK.out, by omega⟩
    · obtain rfl : j = l.length := by omega
      rw [List.take_length] at hr
      have HR := Lib.hid hr
      have HK := Lib.hid hk
      clear hr hk
      go_wp2
      go_ret
      exact ⟨_, rfl, HR.out.ints fun g hg => hg, HK.out⟩

theorem filter_two_le (p q : Int → Bool) (hpq : ∀ x, p x = true → q x = false) (l : List Int) : (l.filter p).length + (l.filter q).length ≤ l.length := by
  induction l with
  | nil => simp
  | cons x l ih =>
    simp only [List.filter_cons, List.length_cons]
    cases hp : p x
    · cases hq : q x <;> simp <;> omega
    · rw [hpq x hp]; simp; omega
theorem rputG_len (l : List Int) (n : Int) : (rputG l n).length ≤ l.length + 1 := by
  unfold rputG
  split
  · omega
  · have := filter_two_le (fun x => decide (x < n)) (fun x => decide (n < x)) (by intro x hx; simp at hx ⊢; omega) l
    simp only [List.length_append, List.length_singleton]
    omega
theorem r3put_len (l : List Int) (n : Int) : (r3put l n).length ≤ l.length + 1 := by
  unfold r3put
  split
  · omega
  · exact rputG_len l n
/-- The set of some numbers, as a rising row. -/
def rof (l : List Int) : List Int := l.foldl r3put []
theorem rof_snoc (l : List Int) (j : Nat) (h : j < l.length) : rof (l.take (j + 1)) = r3put (rof (l.take j)) l[j] := by
  rw [List.take_succ_eq_append_getElem h, rof, rof, List.foldl_append]; rfl
theorem rof_len (l : List Int) : (rof l).length ≤ l.length := by
  have : ∀ (l : List Int) (a : List Int), (l.foldl r3put a).length ≤ a.length + l.length := by
    intro l
    induction l with
    | nil => intro a; simp
    | cons x l ih =>
      intro a
      have h1 := ih (r3put a x)
      have h2 := r3put_len a x
      simp only [List.foldl_cons, List.length_cons]
      omega
  simpa [rof] using this l []

set_option maxHeartbeats 1000000 in
theorem Tryd.r3of_calls {ok : Nat → Prop} {w : World} {v : Value} {l : List Int} (h : Ints .i64 ok w v l) (hl : l.length ≤ 1000000) :
    Calls Tryd.prog 19 #[v] w fun e w' => ∃ v', e = .returned v' ∧ Ints .i64 (fun k => w.heap.size ≤ k) w' v' (rof l) ∧ Kept w w' := by
  obtain ⟨A, c, rfl, h1, h2, h3, _⟩ := h.at_
  have H := Lib.hid h
  clear h h3 h2
  go_enter Tryd.func19, Tryd.ntmps19
  go_wp2
  go_loopg [3, 8] (l.length + 1) (fun k u i wr => ∃ j : Nat, j ≤ l.length ∧ i = .int .i64 j ∧ Ints .i64 (fun k => w.heap.size ≤ k) wr u (rof (l.take j)) ∧ Kept w wr ∧ l.length + 1 - j ≤ k)
  case atStart => exact ⟨0, Nat.zero_le _, rfl, Rd.nil _ _ _ _, Chg.refl _ _, by omega⟩
  case round =>
    obtain ⟨j, hj, rfl, hr, hk, hm⟩ := hrel
    by_cases hlt : j < l.length
    · obtain ⟨g, off, rfl, _, _, hc⟩ := H.out.cells (by omega)
      have hcell := kept_cell hk (hc j l[j] (List.getElem?_eq_getElem hlt))
      have hsz := hk.size
      have hlr := rof_len (l.take j)
      rw [List.length_take] at hlr
      have HF := Lib.hid (rof_snoc l j hlt)
      generalize l[j] = x at hcell HF
      generalize rof (l.take j) = ys at hr HF hlr
      have HR := Lib.hid (Tryd.r3put_calls hr (by omega) x)
      have HK := Lib.hid hk
      clear hc hr hk
      go_wp2_with (go_at_call 9; refine HR.out.mono ?_; rintro e w1 ⟨v1, rfl, hi1, hk1⟩; have HI1 := Lib.hid hi1; have HK1 := Lib.hid hk1; clear hi1 hk1)
      go_roundg (l.length - j)
      case measure => omega
      case rel => exact ⟨j + 1, by omega, by go_num, by rw [HF.out]; exact Rd.move (RInt.mov _) (Moves.weak fun k _ h => by omega) (by omega) HI1.out, HK.out.then HK1.out, by omega⟩
    · obtain rfl : j = l.length := by omega
      rw [List.take_length] at hr
      have HR := Lib.hid hr
      have HK := Lib.hid hk
      clear hr hk
      go_wp2
      go_ret
      exact ⟨_, rfl, HR.out, HK.out⟩

set_option maxHeartbeats 1000000 in
theorem Tryd.r3same_calls {ok ok2 : Nat → Prop} {w : World} {v v2 : Value} {l m : List Int} (h : Ints .i64 ok w v l) (h2 : Ints .i64 ok2 w v2 m) :
    Calls Tryd.prog 14 #[v, v2] w fun e w' => e = .returned (.bool (decide (l = m))) ∧ ∃ n, w' = w.drewN n := by
  obtain ⟨A, c, rfl, h1, hm1, h3, _⟩ := h.at_
  obtain ⟨A2, c2, rfl, h12, hm2, h32, _⟩ := h2.at_
  have hx1 : l.length ≤ 9223372036854775807 := by unfold maxLen at hm1; omega
  have hx2 : m.length ≤ 9223372036854775807 := by unfold maxLen at hm2; omega
  have H := Lib.hid h
  have H2 := Lib.hid h2
  clear h h3 hm1 h2 h32 hm2
  by_cases hlen : l.length = m.length
  · have HL := Lib.hid hlen
    have hne : (((l.length : Nat) : Int) != ((m.length : Nat) : Int)) = false := by simp [hlen]
    have hne' : ((l.length != m.length)) = false := by simp [hlen]
    clear hlen
    go_enter Tryd.func14, Tryd.ntmps14
    go_wp2
    go_loopg [13] (l.length + 1) (fun k i wr => ∃ j : Nat, j ≤ l.length ∧ i = .int .i64 j ∧ l.take j = m.take j ∧ (∃ n, wr = w.drewN n) ∧ l.length + 1 - j ≤ k)
    case atStart => exact ⟨0, Nat.zero_le _, rfl, rfl, ⟨0, rfl⟩, by omega⟩
    case round =>
      obtain ⟨j, hj, rfl, hp, ⟨n, rfl⟩, hm⟩ := hrel
      have HP := Lib.hid hp
      clear hp
      by_cases hlt : j < l.length
      · have hlt2 : j < m.length := by have := HL.out; omega
        obtain ⟨g, off, rfl, _, _, hc⟩ := H.out.cells (by omega)
        obtain ⟨g2, off2, rfl, _, _, hc2⟩ := H2.out.cells (by omega)
        have hcell := hc j l[j] (List.getElem?_eq_getElem hlt)
        have hcell2 := hc2 j m[j] (List.getElem?_eq_getElem hlt2)
        have HX := Lib.hid (show l[j]? = some l[j] ∧ m[j]? = some m[j] from ⟨List.getElem?_eq_getElem hlt, List.getElem?_eq_getElem hlt2⟩)
        have HT := Lib.hid (List.take_succ_eq_append_getElem hlt)
        have HT2 := Lib.hid (List.take_succ_eq_append_getElem hlt2)
        generalize l[j] = x at hcell HT HX
        generalize m[j] = y at hcell2 HT2 HX
        clear hc hc2
        by_cases hx : x = y
        · have hx' : (x != y) = false := by simpa using hx
          have HXY := Lib.hid hx
          clear hx
          go_wp2
          go_region
          all_goals
            go_wp2
            go_roundg (l.length - j)
            case measure => omega
            case rel => exact ⟨j + 1, by omega, by go_num, by rw [HT.out, HT2.out, HP.out, HXY.out], ⟨n + 1, by rfl⟩, by omega⟩
        · have hx' : (x != y) = true := by simpa using hx
          have HXY := Lib.hid hx
          clear hx
          go_wp2
          go_region
          all_goals
            go_wp2
            go_ret
            refine ⟨?_, n + 1, rfl⟩
            have hne3 : l ≠ m := by
              intro e
              have h1 := HX.out.1
              have h2 := HX.out.2
              rw [e, h2] at h1
              exact HXY.out (by injection h1 with h1; exact h1.symm)
            simp [hne3]
      · obtain rfl : j = l.length := by omega
        have HE := Lib.hid (show l = m by
          have h1 := HP.out
          rw [List.take_length, HL.out, List.take_length] at h1
          exact h1)
        go_wp2
        go_ret
        refine ⟨?_, n, rfl⟩
        have he := HE.out
        simp [he]
  · have hne : (((l.length : Nat) : Int) != ((m.length : Nat) : Int)) = true := by simp; omega
    have hne' : ((l.length != m.length)) = true := by simp [hlen]
    have HL := Lib.hid hlen
    clear hlen
    go_enter Tryd.func14, Tryd.ntmps14
    go_wp2
    go_ret
    refine ⟨?_, 0, rfl⟩
    have hne3 : l ≠ m := fun e => HL.out (by rw [e])
    simp [hne3]
end Go.Proofs.YtaobleahcceffaaDoor
