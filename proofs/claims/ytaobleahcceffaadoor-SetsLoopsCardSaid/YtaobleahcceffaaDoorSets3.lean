/-
  The walks of package sets, third part: Same, Minus, and Join and Minus of a set and itself. Conditions: sets that there are; two sets share no block.
-/
import Derived.Test.YtaobleahcceffaaDoorSets2
set_option linter.unusedVariables false
set_option linter.unusedSimpArgs false
namespace Go.Proofs.YtaobleahcceffaaDoor
open Go.RowKit

set_option maxHeartbeats 400000 in
theorem Tryd.at_calls {S : Nat → Prop} {w : World} {v : Value} {ws : List Nat} (hr : Row S w 54 1 v ws.length (ws.map fun (x : Nat) => Value.int .u64 x)) (hlen : ws.length ≤ 1024) (j : Nat) :
    Calls Tryd.prog 38 #[v, .int .i64 j] w fun e w' => e = .returned (.int .u64 (bword ws j : Nat)) ∧ w = w' := by
  by_cases hlt : j < ws.length
  · obtain ⟨g, c, rfl, hc1, hc2, _, _, hcs, _⟩ := hr.form (by omega)
    have hcell : w.cell? ⟨g, j, none⟩ = some (.int .u64 (bword ws j)) := hcs j _ (words_cell ws j hlt)
    generalize bword ws j = x at hcell ⊢
    clear hr hcs
    go_enter Tryd.func38, Tryd.ntmps38
    go_wp2
    go_ret
    exact ⟨rfl, rfl⟩
  · obtain ⟨A, c, rfl, hc1, hc2, _⟩ := hr.slice
    rw [bword_ge (by omega)]
    clear hr
    go_enter Tryd.func38, Tryd.ntmps38
    go_wp2
    go_ret
    exact ⟨rfl, rfl⟩

set_option maxHeartbeats 1000000 in
theorem Tryd.bsame_calls {S S2 : Nat → Prop} {b d : Nat} {vs ws : List Nat} {w : World} (h : BitsAt S w b vs) (h2 : BitsAt S2 w d ws) :
    Calls Tryd.prog 23 #[.pointer (some ⟨b, 0, none⟩), .pointer (some ⟨d, 0, none⟩)] w fun e w' => e = .returned (.bool (bsame vs ws)) ∧ w = w' := by
  obtain ⟨sv, hb, _, hr, hok⟩ := h
  obtain ⟨sv2, hb2, _, hr2, hok2⟩ := h2
  have hc : w.cell? ⟨b, 0, none⟩ = some sv := by simpa using hb.cell 0
  have hc2 : w.cell? ⟨d, 0, none⟩ = some sv2 := by simpa using hb2.cell 0
  obtain ⟨A, c, rfl, a1, a2, a3⟩ := hr.slice
  obtain ⟨A2, c2, rfl, b1, b2, b3⟩ := hr2.slice
  have hl1 := hok.len
  have hl2 := hok2.len
  have HR := Lib.hid hr
  have HR2 := Lib.hid hr2
  clear hb hb2 hr hr2 hok hok2 a3 b3
  have HB := Lib.hid (show ∀ j x y, bword vs j = x → bword ws j = y → x ≠ y → j < max vs.length ws.length → bsame vs ws = false by
    intro j x y hx hy hne hj
    unfold bsame
    rw [List.all_eq_false]
    exact ⟨j, List.mem_range.2 hj, by rw [hx, hy]; simpa using hne⟩)
  have HA := Lib.hid (show (∀ j, j < max vs.length ws.length → bword vs j = bword ws j) → bsame vs ws = true by
    intro h
    unfold bsame
    rw [List.all_eq_true]
    intro j hj
    rw [h j (List.mem_range.1 hj)]; simp)
  by_cases hml : vs.length < ws.length
  · have HMX := Lib.hid (show max vs.length ws.length = ws.length by omega)
    go_enter Tryd.func23, Tryd.ntmps23
    go_wp2_with (first | (go_at_call 30; with_reducible refine (Tryd.words_calls _ _ _ hc).mono ?_; rintro e w' ⟨rfl, rfl⟩) | (go_at_call 30; with_reducible refine (Tryd.words_calls _ _ _ hc2).mono ?_; rintro e w' ⟨rfl, rfl⟩))
    go_loopg [17] (ws.length + 1) (fun k i wr => ∃ j : Nat, j ≤ ws.length ∧ i = .int .i64 j ∧ (∀ m, m < j → bword vs m = bword ws m) ∧ wr = w ∧ ws.length + 1 - j ≤ k)
    case atStart => exact ⟨0, Nat.zero_le _, rfl, fun m hm => by omega, rfl, by omega⟩
    case round =>
      obtain ⟨j, hj, rfl, hp, rfl, hm⟩ := hrel
      have HP := Lib.hid hp
      clear hp
      by_cases hlt : j < ws.length
      · have HV := Lib.hid (Tryd.at_calls HR.out hl1 j)
        have HW := Lib.hid (Tryd.at_calls HR2.out hl2 j)
        generalize hx : bword vs j = x at HV
        generalize hy : bword ws j = y at HW
        have HX := Lib.hid hx
        have HY := Lib.hid hy
        clear hx hy
        by_cases hxy : x = y
        · have hne : (((x : Nat) : Int) != ((y : Nat) : Int)) = false := by simp [hxy]
          have hne' : (x != y) = false := by simp [hxy]
          have HXY := Lib.hid hxy
          clear hxy
          go_wp2_with (first | (go_at_call 38; with_reducible refine HV.out.mono ?_; rintro e w' ⟨rfl, rfl⟩) | (go_at_call 38; with_reducible refine HW.out.mono ?_; rintro e w' ⟨rfl, rfl⟩))
          go_roundg (ws.length - j)
          case measure => omega
          case rel => exact ⟨j + 1, by omega, by go_num, fun m hm => by
            rcases Nat.lt_or_ge m j with h | h
            · exact HP.out m h
            · obtain rfl : m = j := by omega
              rw [HX.out, HY.out, HXY.out], rfl, by omega⟩
        · have hne : (((x : Nat) : Int) != ((y : Nat) : Int)) = true := by simp; omega
          have hne' : (x != y) = true := by simp [hxy]
          have HXY := Lib.hid hxy
          clear hxy
          go_wp2_with (first | (go_at_call 38; with_reducible refine HV.out.mono ?_; rintro e w' ⟨rfl, rfl⟩) | (go_at_call 38; with_reducible refine HW.out.mono ?_; rintro e w' ⟨rfl, rfl⟩))
          go_ret
          rw [HB.out j x y HX.out HY.out HXY.out (by rw [HMX.out]; exact hlt)]
          exact ⟨rfl, rfl⟩
      · obtain rfl : j = ws.length := by omega
        go_wp2
        go_ret
        rw [HA.out (fun m hm => HP.out m (by rw [HMX.out] at hm; exact hm))]
        exact ⟨rfl, rfl⟩
  · have HMX := Lib.hid (show max vs.length ws.length = vs.length by omega)
    go_enter Tryd.func23, Tryd.ntmps23
    go_wp2_with (first | (go_at_call 30; with_reducible refine (Tryd.words_calls _ _ _ hc).mono ?_; rintro e w' ⟨rfl, rfl⟩) | (go_at_call 30; with_reducible refine (Tryd.words_calls _ _ _ hc2).mono ?_; rintro e w' ⟨rfl, rfl⟩))
    go_loopg [17] (vs.length + 1) (fun k i wr => ∃ j : Nat, j ≤ vs.length ∧ i = .int .i64 j ∧ (∀ m, m < j → bword vs m = bword ws m) ∧ wr = w ∧ vs.length + 1 - j ≤ k)
    case atStart => exact ⟨0, Nat.zero_le _, rfl, fun m hm => by omega, rfl, by omega⟩
    case round =>
      obtain ⟨j, hj, rfl, hp, rfl, hm⟩ := hrel
      have HP := Lib.hid hp
      clear hp
      by_cases hlt : j < vs.length
      · have HV := Lib.hid (Tryd.at_calls HR.out hl1 j)
        have HW := Lib.hid (Tryd.at_calls HR2.out hl2 j)
        generalize hx : bword vs j = x at HV
        generalize hy : bword ws j = y at HW
        have HX := Lib.hid hx
        have HY := Lib.hid hy
        clear hx hy
        by_cases hxy : x = y
        · have hne : (((x : Nat) : Int) != ((y : Nat) : Int)) = false := by simp [hxy]
          have hne' : (x != y) = false := by simp [hxy]
          have HXY := Lib.hid hxy
          clear hxy
          go_wp2_with (first | (go_at_call 38; with_reducible refine HV.out.mono ?_; rintro e w' ⟨rfl, rfl⟩) | (go_at_call 38; with_reducible refine HW.out.mono ?_; rintro e w' ⟨rfl, rfl⟩))
          go_roundg (vs.length - j)
          case measure => omega
          case rel => exact ⟨j + 1, by omega, by go_num, fun m hm => by
            rcases Nat.lt_or_ge m j with h | h
            · exact HP.out m h
            · obtain rfl : m = j := by omega
              rw [HX.out, HY.out, HXY.out], rfl, by omega⟩
        · have hne : (((x : Nat) : Int) != ((y : Nat) : Int)) = true := by simp; omega
          have hne' : (x != y) = true := by simp [hxy]
          have HXY := Lib.hid hxy
          clear hxy
          go_wp2_with (first | (go_at_call 38; with_reducible refine HV.out.mono ?_; rintro e w' ⟨rfl, rfl⟩) | (go_at_call 38; with_reducible refine HW.out.mono ?_; rintro e w' ⟨rfl, rfl⟩))
          go_ret
          rw [HB.out j x y HX.out HY.out HXY.out (by rw [HMX.out]; exact hlt)]
          exact ⟨rfl, rfl⟩
      · obtain rfl : j = vs.length := by omega
        go_wp2
        go_ret
        rw [HA.out (fun m hm => HP.out m (by rw [HMX.out] at hm; exact hm))]
        exact ⟨rfl, rfl⟩

/-- The words of a set's row, its slice known. -/
abbrev RowV (S : Nat → Prop) (w : World) (v : Value) (ws : List Nat) : Prop := Row S w 54 1 v ws.length (ws.map fun (x : Nat) => Value.int .u64 x)

theorem and_word (x y : Nat) (hx : x < 18446744073709551616) (hy : y < 18446744073709551616) : (bits BinOp.and IntKind.u64 (x : Int) (y : Int) != 0) = ((x &&& y) != 0) := by
  rw [u64_and_nat x y hx hy]
  generalize x &&& y = z
  cases z with
  | zero => rfl
  | succ z =>
    have h1 : (((z + 1 : Nat) : Int) != 0) = true := by simp; omega
    have h2 : (z + 1 != 0) = true := by simp
    rw [h1, h2]

set_option maxHeartbeats 2000000 in
/-- b.Minus(c): where c's words can be read, round by round. -/
theorem Tryd.minus_core {S : Nat → Prop} {b d : Nat} {vs ws : List Nat} {w : World} {sv : Value} {A2 : Option Addr} {c2 : Nat} (hb : Blk w b #[sv] 53) (hS : S b) (hr : RowV S w sv vs) (hv : BOk vs) (hw : BOk ws)
    (hc2 : w.cell? ⟨d, 0, none⟩ = some (.slice A2 ws.length c2)) (hcap : ws.length ≤ c2)
    (hread : ∀ wr j, j < ws.length → j < vs.length → RowV S wr sv (bminus vs ws j) → Chg S w wr → ∃ g2, A2 = some ⟨g2, 0, none⟩ ∧ wr.cell? ⟨g2, j, none⟩ = some (.int .u64 (bword ws j : Nat)))
    (hread2 : ∀ wr j, j < ws.length → j = vs.length → RowV S wr sv (bminus vs ws j) → Chg S w wr → ∃ g2, A2 = some ⟨g2, 0, none⟩ ∧ wr.cell? ⟨g2, j, none⟩ = some (.int .u64 (bword ws j : Nat))) :
    Calls Tryd.prog 24 #[.pointer (some ⟨b, 0, none⟩), .pointer (some ⟨d, 0, none⟩)] w fun e w' => e = .returned (.bool (bmet vs ws (min ws.length vs.length))) ∧ BitsAt S w' b (bminus vs ws (min ws.length vs.length)) ∧ Chg S w w' := by
  obtain ⟨A, c, rfl, a1, a2, _⟩ := hr.slice
  have hl1 := hv.len
  have hl2 := hw.len
  have HB := Lib.hid hb
  have HR := Lib.hid hr
  have HV := Lib.hid hv
  have HW := Lib.hid hw
  have HRD := Lib.hid hread
  have HRD2 := Lib.hid hread2
  clear hb hr hv hw hread hread2
  go_enter Tryd.func24, Tryd.ntmps24
  go_wp2_with (go_at_call 30; refine (Tryd.words_calls _ _ _ hc2).mono ?_; rintro e w' ⟨rfl, rfl⟩)
  go_loopg [5, 11] (ws.length + 1) (fun k t i wr => ∃ j : Nat, j ≤ ws.length ∧ j ≤ vs.length ∧ i = .int .i64 j ∧ t = .bool (bmet vs ws j) ∧ Blk wr b #[.slice A vs.length c] 53 ∧ Row S wr 54 1 (.slice A vs.length c) vs.length ((bminus vs ws j).map fun (x : Nat) => Value.int .u64 x) ∧ Chg S w wr ∧ ws.length + 1 - j ≤ k)
  case atStart => exact ⟨0, Nat.zero_le _, Nat.zero_le _, rfl, rfl, HB.out, HR.out, Chg.refl _ _, by omega⟩
  case round =>
    obtain ⟨j, hj, hjv, rfl, rfl, hbk, hrw, hk, hm⟩ := hrel
    have hcb : wr.cell? ⟨b, 0, none⟩ = some (.slice A vs.length c) := by simpa using hbk.cell 0
    have hul := bminus_len vs ws j
    by_cases hlt : j < ws.length
    · by_cases hlv : j < vs.length
      · obtain ⟨g2, rfl, hcell⟩ := HRD.out wr j hlt hlv (by rw [RowV, hul]; exact hrw) hk
        obtain ⟨g, c', he, _, _, hg, _, hcs, hfr⟩ := hrw.form (by omega)
        obtain ⟨rfl, rfl⟩ : A = some ⟨g, 0, none⟩ ∧ c = c' := by injection he with a1 _ a2; exact ⟨a1, a2⟩
        have hx : wr.cell? ⟨g, j, none⟩ = some (.int .u64 (bword (bminus vs ws j) j : Nat)) := hcs j _ (words_cell _ _ (by omega))
        have hxf : wr.frozen? ⟨g, j, none⟩ = false := hfr j
        have hok := HV.out.minus (ws := ws) j hjv
        have hxs := hok.small j
        have hys := HW.out.small j
        have hmt := bmet_succ vs ws j
        have hbe : bword vs j = bword (bminus vs ws j) j := by rw [bminus_word _ _ _ _ hjv, if_neg (by omega)]
        rw [hbe] at hmt
        have hmn : bminus vs ws (j + 1) = (bminus vs ws j).set j (bclear (bword (bminus vs ws j) j) (bword ws j)) := rfl
        generalize hE1 : bmet vs ws (j + 1) = t1 at hmt
        generalize hE2 : bminus vs ws (j + 1) = us1 at hmn
        generalize hE3 : bmet vs ws j = t at hmt ⊢
        generalize hE4 : bminus vs ws j = us at hx hok hxs hmt hmn hrw hul hbe
        generalize bword ws j = y at hcell hys hmt hmn
        have HPT := Lib.hid (hrw.put j (.int .u64 (bclear (bword us j) y : Nat)))
        have HU1 := Lib.hid (show us1.map (fun (x : Nat) => Value.int .u64 x) = (us.map fun (x : Nat) => Value.int .u64 x).set j (.int .u64 (bclear (bword us j) y : Nat)) ∧ us1.length = us.length by rw [hmn, List.map_set]; simp)
        have HBO := Lib.hid (hbk.other (p := ⟨g, j, none⟩) (fun e => by
          have := hrw.ne_blk hbk (by decide)
          exact this (by simp [Value.ownBlock]; exact e)) (.int .u64 (bclear (bword us j) y : Nat)))
        have HCW := Lib.hid (hk.setCell (p := ⟨g, j, none⟩) (fun _ => hg) (.int .u64 (bclear (bword us j) y : Nat)))
        have HVC := Lib.hid (u64_andNot_nat (bword us j) y hxs hys)
        have HVA := Lib.hid (and_word y (bword us j) hys hxs)
        have HMT := Lib.hid hmt
        have HE1 := Lib.hid hE1
        have HE2 := Lib.hid hE2
        have HUL := Lib.hid hul
        generalize bword us j = x at hx hxs HPT HU1 HBO HCW HVC HVA HMT
        clear he hcs hfr hok hmt hbe hmn hE1 hE2 hE3 hE4 hbk hrw hk hul
        have hlv' : ¬ ((vs.length : Int) ≤ j) := by omega
        cases t
        all_goals
          go_wp2_with (go_at_call 30; refine (Tryd.words_calls _ _ _ hcb).mono ?_; rintro e w' ⟨rfl, rfl⟩)
          go_roundg (ws.length - j)
          case measure => omega
          case rel =>
            refine ⟨j + 1, by omega, by omega, by go_num, ?_, ?_, ?_, ?_, by omega⟩
            · rw [HE1.out, HMT.out]
              first | rfl | (rw [Bool.false_or, ← HVA.out])
            · rw [HVC.out]; exact HBO.out
            · rw [HVC.out, HE2.out, HU1.out.1]; exact HPT.out.1
            · rw [HVC.out]; exact HCW.out
      · obtain rfl : j = vs.length := by omega
        obtain ⟨g2, rfl, hcell⟩ := HRD2.out wr vs.length hlt rfl (by rw [RowV, hul]; exact hrw) hk
        have HE := Lib.hid (show min ws.length vs.length = vs.length by omega)
        have HRW := Lib.hid hrw
        have HBK := Lib.hid hbk
        have HK := Lib.hid hk
        have HUL := Lib.hid hul
        have hlv' : (vs.length : Int) ≤ vs.length := by omega
        clear hrw hbk hk hul
        generalize bword ws vs.length = y at hcell
        go_wp2_with (go_at_call 30; refine (Tryd.words_calls _ _ _ hcb).mono ?_; rintro e w' ⟨rfl, rfl⟩)
        go_ret
        rw [HE.out]
        exact ⟨rfl, ⟨_, HBK.out, hS, by rw [HUL.out]; exact HRW.out, HV.out.minus _ (Nat.le_refl _)⟩, HK.out⟩
    · obtain rfl : j = ws.length := by omega
      have HE := Lib.hid (show min ws.length vs.length = ws.length by omega)
      have HRW := Lib.hid hrw
      have HBK := Lib.hid hbk
      have HK := Lib.hid hk
      have HUL := Lib.hid hul
      clear hrw hbk hk hul
      go_wp2
      go_ret
      rw [HE.out]
      exact ⟨rfl, ⟨_, HBK.out, hS, by rw [HUL.out]; exact HRW.out, HV.out.minus _ hjv⟩, HK.out⟩

theorem Tryd.minus_calls {S S2 : Nat → Prop} {b d : Nat} {vs ws : List Nat} {w : World} (h : BitsAt S w b vs) (h2 : BitsAt S2 w d ws) (hd : ∀ k, k < w.heap.size → S2 k → ¬ S k) :
    Calls Tryd.prog 24 #[.pointer (some ⟨b, 0, none⟩), .pointer (some ⟨d, 0, none⟩)] w fun e w' => e = .returned (.bool (bmet vs ws (min ws.length vs.length))) ∧ BitsAt S w' b (bminus vs ws (min ws.length vs.length)) ∧ Chg S w w' := by
  obtain ⟨sv, hb, hS, hr, hv⟩ := h
  obtain ⟨sv2, hb2, hS2, hr2, hw⟩ := h2
  obtain ⟨A2, c2, rfl, q1, q2, _⟩ := hr2.slice
  have key : ∀ (wr : World) (j : Nat), j < ws.length → Chg S w wr → ∃ g2, A2 = some ⟨g2, 0, none⟩ ∧ wr.cell? ⟨g2, j, none⟩ = some (.int .u64 (bword ws j : Nat)) := by
    intro wr j hj hk
    obtain ⟨g2, c3, he, _, _, _, _, hcs, _⟩ := Row.form (hr2.chg hk hd) (by omega)
    injection he with he _ _
    exact ⟨g2, he, hcs j _ (words_cell ws j hj)⟩
  exact Tryd.minus_core hb hS hr hv hw (by simpa using hb2.cell 0) q1 (fun wr j hj _ _ hk => key wr j hj hk) (fun wr j hj _ _ hk => key wr j hj hk)
theorem Tryd.minus_self {S : Nat → Prop} {b : Nat} {vs : List Nat} {w : World} (h : BitsAt S w b vs) :
    Calls Tryd.prog 24 #[.pointer (some ⟨b, 0, none⟩), .pointer (some ⟨b, 0, none⟩)] w fun e w' => e = .returned (.bool (bmet vs vs (min vs.length vs.length))) ∧ BitsAt S w' b (bminus vs vs (min vs.length vs.length)) ∧ Chg S w w' := by
  obtain ⟨sv, hb, hS, hr, hv⟩ := h
  obtain ⟨A2, c2, rfl, q1, q2, _⟩ := hr.slice
  refine Tryd.minus_core hb hS hr hv hv (by simpa using hb.cell 0) q1 (fun wr j hj _ hrw hk => ?_) (fun wr j hj he _ _ => by omega)
  obtain ⟨g2, c3, he, _, _, _, _, hcs, _⟩ := Row.form hrw (by rw [bminus_len]; omega)
  injection he with he _ _
  refine ⟨g2, he, ?_⟩
  have hx := hcs j _ (words_cell _ j (by rw [bminus_len]; exact hj))
  rw [bminus_word _ _ _ _ (by omega), if_neg (by omega)] at hx
  exact hx

set_option maxHeartbeats 2000000 in
/-- b.Join(b): nothing is turned. -/
theorem Tryd.join_self {S : Nat → Prop} {b : Nat} {vs : List Nat} {w : World} (h : BitsAt S w b vs) :
    Calls Tryd.prog 22 #[.pointer (some ⟨b, 0, none⟩), .pointer (some ⟨b, 0, none⟩)] w fun e w' => e = .returned (.bool false) ∧ BitsAt S w' b vs ∧ Chg S w w' := by
  obtain ⟨sv, hb, hS, hr, hv⟩ := h
  have hl1 := hv.len
  have hcb : w.cell? ⟨b, 0, none⟩ = some sv := by simpa using hb.cell 0
  obtain ⟨A, c, rfl, a1, a2, _⟩ := hr.slice
  have HB := Lib.hid hb
  have HR := Lib.hid hr
  have HV := Lib.hid hv
  clear hb hr hv
  go_enter Tryd.func22, Tryd.ntmps22
  go_wp2_with (go_at_call 30; refine (Tryd.words_calls _ _ _ hcb).mono ?_; rintro e w' ⟨rfl, rfl⟩)
  go_loopg [5, 13] (vs.length + 1) (fun k t i wr => ∃ j : Nat, j ≤ vs.length ∧ i = .int .i64 j ∧ t = .bool false ∧ Blk wr b #[.slice A vs.length c] 53 ∧ RowV S wr (.slice A vs.length c) vs ∧ Chg S w wr ∧ vs.length + 1 - j ≤ k)
  case atStart => exact ⟨0, Nat.zero_le _, rfl, rfl, HB.out, HR.out, Chg.refl _ _, by omega⟩
  case round =>
    obtain ⟨j, hj, rfl, rfl, hbk, hrw, hk, hm⟩ := hrel
    have hcell0 : wr.cell? ⟨b, 0, none⟩ = some (.slice A vs.length c) := by simpa using hbk.cell 0
    by_cases hlt : j < vs.length
    · obtain ⟨g, c', he, _, _, hg, _, hcs, hfr⟩ := Row.form hrw (by omega)
      obtain ⟨rfl, rfl⟩ : A = some ⟨g, 0, none⟩ ∧ c = c' := by injection he with a1 _ a2; exact ⟨a1, a2⟩
      have hx : wr.cell? ⟨g, j, none⟩ = some (.int .u64 (bword vs j : Nat)) := hcs j _ (words_cell _ _ (by omega))
      have hxf : wr.frozen? ⟨g, j, none⟩ = false := hfr j
      have hxs := HV.out.small j
      have hset : (vs.map fun (x : Nat) => Value.int .u64 x).set j (.int .u64 (bword vs j : Nat)) = vs.map fun (x : Nat) => Value.int .u64 x := by
        apply List.ext_getElem?
        intro i
        rw [List.getElem?_set]
        split
        · rename_i e; subst e
          rw [words_cell vs j hlt]
          simp [hlt]
        · rfl
      have HPT := Lib.hid (hrw.put j (.int .u64 (bword vs j : Nat)))
      rw [hset] at HPT
      have HBO := Lib.hid (hbk.other (p := ⟨g, j, none⟩) (fun e => by
        have := hrw.ne_blk hbk (by decide)
        exact this (by simp [Value.ownBlock]; exact e)) (.int .u64 (bword vs j : Nat)))
      have HCW := Lib.hid (hk.setCell (p := ⟨g, j, none⟩) (fun _ => hg) (.int .u64 (bword vs j : Nat)))
      have HVO := Lib.hid (show bits BinOp.or IntKind.u64 (bword vs j : Nat) (bword vs j : Nat) = ((bword vs j : Nat) : Int) by rw [u64_or_nat _ _ hxs hxs, Nat.or_self])
      have HVC := Lib.hid (show (bits BinOp.andNot IntKind.u64 (bword vs j : Nat) (bword vs j : Nat) != 0) = false by
        rw [clear_word _ _ hxs hxs]
        have : bclear (bword vs j) (bword vs j) = 0 := by
          apply Nat.eq_of_testBit_eq
          intro i
          rw [testBit_clear hxs hxs]; simp
        rw [this]; rfl)
      generalize bword vs j = x at hx hxs HPT HBO HCW HVO HVC
      have HRW := Lib.hid hrw
      have HBK := Lib.hid hbk
      clear he hcs hfr hset hbk hrw hk
      have hlj : ¬ ((vs.length : Int) ≤ j) := by omega
      go_wp2_with fail
      go_loopg [] 1 (fun k wr2 => wr2 = wr)
      case atStart => rfl
      case round =>
        subst hrel
        go_wp2_with fail
        go_roundg (vs.length - j)
        case measure => omega
        case rel =>
          refine ⟨j + 1, by omega, by go_num, ?_, ?_, ?_, ?_, by omega⟩
          · rw [HVC.out]
          · rw [HVO.out]; exact HBO.out
          · rw [HVO.out]; exact HPT.out.1
          · rw [HVO.out]; exact HCW.out
    · obtain rfl : j = vs.length := by omega
      have HRW := Lib.hid hrw
      have HBK := Lib.hid hbk
      have HK := Lib.hid hk
      clear hrw hbk hk
      go_wp2
      go_ret
      exact ⟨rfl, ⟨_, HBK.out, hS, HRW.out, HV.out⟩, HK.out⟩
end Go.Proofs.YtaobleahcceffaaDoor
