/-
  The walk of SetsLoops: it answers true whatever the numbers. Conditions: a slice that reads as numbers of the machine's width; the de Bruijn table as its initialiser lays it.
-/
import Derived.Test.YtaobleahcceffaaDoorLoop0
import Derived.Deep.CutRange
import Derived.Deep.RegionWith
import Derived.Deep.RegionHeld3
set_option linter.unusedVariables false
set_option linter.unusedSimpArgs false
namespace Go.Proofs.YtaobleahcceffaaDoor
open Go.RowKit Go.Shelf
attribute [local go_sem] Oper.semAt_some

theorem wp_act {P : Program} {c : Code} {Q : Exit → Act → World → Prop} {tmps : Array Value} {ds : List Deferred} {w : World} (h : ∀ T, T = tmps → c.wp P Q { tmps := T, defers := ds } w) : c.wp P Q { tmps := tmps, defers := ds } w := h _ rfl

set_option maxRecDepth 100000 in
set_option maxHeartbeats 4000000 in
theorem Tryd.loops_calls {ok : Nat → Prop} {w : World} {v : Value} {l : List Int} (h : Ints .i64 ok w v l) (hb : ∀ x ∈ l, -9223372036854775808 ≤ x ∧ x ≤ 9223372036854775807) (most : Int) (hmo : -9223372036854775808 ≤ most ∧ most ≤ 9223372036854775807) (hT : Tab w) :
    Calls Tryd.prog 4 #[v, .int .i64 most] w fun e w' => e = .returned (.bool true) ∧ Kept w w' := by
  have HT := Lib.hid hT
  have HC1 := Lib.hid (Tryd.cut_later h)
  have hl0 : (l.take 100).length ≤ 100 := by rw [List.length_take]; omega
  have hb' : ∀ x ∈ l.take 100, -9223372036854775808 ≤ x ∧ x ≤ 9223372036854775807 := fun x hx => hb x (List.mem_of_mem_take hx)
  clear h hb hT
  generalize l.take 100 = l' at HC1 hl0 hb'
  have hx0 := rof_len l'
  have HX := Lib.hid (show ∀ (w2 : World) (v' : Value) (ok : Nat → Prop), Ints .i64 ok w2 v' l' → _ from fun w2 v' ok h => Tryd.r3of_calls h (by omega))
  have HSA := Lib.hid (show ∀ (w2 : World) (v' : Value) (ok : Nat → Prop), Ints .i64 ok w2 v' l' → _ from fun w2 v' ok h => Tryd.sof_calls h hb')
  have HLX := Lib.hid (LS.rof l')
  have HSA2 := HSA
  clear hb'
  generalize rof l' = x at HX HSA HSA2 HLX hx0
  have hx1 : x.length ≤ 100 := by omega
  clear hx0 hl0
  have HK1 : Hid (Kept w (w.alloc (.cells #[.int .i64 most] 3))) := Lib.hid ((Chg.refl _ w).alloc _)
  have HM1 : Hid (Blk (w.alloc (.cells #[.int .i64 most] 3)) w.heap.size #[.int .i64 most] 3) := Lib.hid (Blk.new w _ _)
  have hth := Tryd.each_there
  refine (callsIn_wide (n := 9)).1 ?_
  refine callsIn_of_wp_marks Tryd.func4 rfl trivial ?_ rfl
  simp only [Tryd.ntmps4, List.size_toArray, List.length_cons, List.length_nil, Nat.reduceAdd, Nat.reduceSub, Array.replicate_succ, Array.replicate_zero, List.push_toArray, List.append_toArray, List.nil_append, List.cons_append]
  refine wpIn_wide.2 ?_
  go_upto_region 3 with (first
    | (go_at_call 8; (first | refine (HC1.out _ HK3.out).mono ?_ | refine (HC1.out _ HK1.out).mono ?_); rintro e w' ⟨v', rfl, hi, rfl⟩; have HI := Lib.hid hi; clear hi)
    | (go_at_call 7; first | (refine (HSA.out _ _ _ HI.out).mono ?_; rintro e w2 ⟨b, rfl, hb, hk⟩; have s2 := hk.size; simp only [World.size_alloc] at s2 hb; have HB3 := Lib.hid ((hb.mono (T := fun k => w.heap.size + 1 ≤ k ∧ k < w2.heap.size) fun k h1 h2 => ⟨h2, h1⟩).keep ((Chg.refl (fun _ => False) w2).alloc (.cells #[.pointer (some ⟨b, 0, none⟩)] 23))); have HK3 : Hid (Kept w (w2.alloc (.cells #[.pointer (some ⟨b, 0, none⟩)] 23))) := Lib.hid ((HK1.out.then hk).alloc _); have HM3 := Lib.hid ((HM1.out.keep hk).alloc (.cells #[.pointer (some ⟨b, 0, none⟩)] 23)); have HP3 := Lib.hid (Blk.new w2 #[.pointer (some ⟨b, 0, none⟩)] 23); clear hb hk HI HM1 HSA))
    | (go_at_call 19; (refine (HX.out _ _ _ HI.out).mono ?_; rintro e w4 ⟨v4, rfl, hi, hk⟩; obtain ⟨A4, c4, rfl, hc4, -, -, -⟩ := hi.at_; have s4 := hk.size; simp only [World.size_alloc] at s4 hi; have HX4 := Lib.hid (hi.mono (ok' := fun k => w2.heap.size + 1 ≤ k ∧ k < w4.heap.size) fun g h1 h2 => ⟨h2, h1⟩); have HK4 := Lib.hid (HK3.out.then hk); have HB4 := Lib.hid (HB3.out.keep hk); have hM4 := HM3.out.keep hk; have hm4 : w4.cell? ⟨w.heap.size, 0, none⟩ = some (.int .i64 most) := (by simpa using hM4.cell 0); have hmf4 : w4.frozen? ⟨w.heap.size, 0, none⟩ = false := hM4.free 0; have hP4 := HP3.out.keep hk; have hp4 : w4.cell? ⟨w2.heap.size, 0, none⟩ = some (.pointer (some ⟨b, 0, none⟩)) := (by simpa using hP4.cell 0); have HM4 := Lib.hid hM4; have HP4 := Lib.hid hP4; clear hi hk HI HB3 HM3 HP3 HX hM4 hP4)))
  go_cut [] from 19 to 23 (fun wx => ∃ k : Nat, k ≤ x.length ∧ wx = w4.setCell ⟨w.heap.size, 0, none⟩ (.int .i64 k))
  case first =>
    go_wp2
    all_goals go_meet
    all_goals first | exact ⟨x.length, Nat.le_refl _, rfl⟩ | exact ⟨0, Nat.zero_le _, rfl⟩ | exact ⟨most.toNat, by omega, by rw [Int.toNat_of_nonneg (by omega)]⟩
  case rest =>
    obtain ⟨k, hk, rfl⟩ := hcut
    obtain ⟨w5, hw5⟩ : ∃ w5, w4.setCell ⟨w.heap.size, 0, none⟩ (.int .i64 k) = w5 := ⟨_, rfl⟩
    have kc : Chg (fun j => j = w.heap.size) w4 w5 := by rw [← hw5]; exact (Chg.refl (fun j => j = w.heap.size) w4).setCell (fun _ => rfl) _
    have hM5 : Blk w5 w.heap.size #[.int .i64 k] 3 := by
      have := HM4.out.put 0 (.int .i64 k)
      rw [hw5] at this
      simpa using this
    have hP5 := HP4.out.chg kc (show ¬ w2.heap.size = w.heap.size by omega)
    have s5 : w5.heap.size = w4.heap.size := by rw [← hw5]; simp
    have HX5 := Lib.hid (HX4.out.move (ok' := fun k => w2.heap.size + 1 ≤ k ∧ k < w5.heap.size) kc fun g _ h => ⟨by omega, by omega⟩)
    have HB5 := Lib.hid (HB4.out.chg (T := fun k => w.heap.size + 1 ≤ k ∧ k < w2.heap.size) kc (fun g _ h => by omega) fun _ _ h => h)
    have HK5 : Hid (Kept w w5) := Lib.hid (HK4.out.trans kc fun i hi h => by omega)
    rw [hw5]
    have hp5 : w5.cell? ⟨w2.heap.size, 0, none⟩ = some (.pointer (some ⟨b, 0, none⟩)) := by simpa using hP5.cell 0
    have HM5 := Lib.hid hM5
    have HP5 := Lib.hid hP5
    clear hM5 hP5 kc hw5 hm4 hmf4 hp4 HM4 HP4 HX4 HB4 HK4
    have hs5 : w2.heap.size + 1 ≤ w5.heap.size := by omega
    have hp6 : ((w5.alloc (.cells #[.slice none 0 0] 22)).alloc (.cells #[.slice none 0 0] 22)).cell? ⟨w2.heap.size, 0, none⟩ = some (.pointer (some ⟨b, 0, none⟩)) := pw_cell (pw_cell hp5)
    clear s5 s4 hp5
    go_wp2_with (go_at_call 20; refine (callsIn_wide.1 (Tryd.each_in 9 _ _)).mono ?_; rintro e w' ⟨rfl, rfl⟩)
    have kA : Kept w5 (((w5.alloc (.cells #[.slice none 0 0] 22)).alloc (.cells #[.slice none 0 0] 22)).alloc (.cells #[.pointer (some ⟨b, 0, none⟩)] 23)) := (((Chg.refl _ w5).alloc _).alloc _).alloc _
    have hb7 := ((Blk.new w5 #[.slice none 0 0] 22).alloc (.cells #[.slice none 0 0] 22)).alloc (.cells #[.pointer (some ⟨b, 0, none⟩)] 23)
    have hb8 := (Blk.new (w5.alloc (.cells #[.slice none 0 0] 22)) #[.slice none 0 0] 22).alloc (.cells #[.pointer (some ⟨b, 0, none⟩)] 23)
    have hbN := Blk.new ((w5.alloc (.cells #[.slice none 0 0] 22)).alloc (.cells #[.slice none 0 0] 22)) #[.pointer (some ⟨b, 0, none⟩)] 23
    have hs6 : (((w5.alloc (.cells #[.slice none 0 0] 22)).alloc (.cells #[.slice none 0 0] 22)).alloc (.cells #[.pointer (some ⟨b, 0, none⟩)] 23)).heap.size = w5.heap.size + 3 := by simp
    simp only [World.size_alloc] at hb8 hbN
    generalize ((w5.alloc (.cells #[.slice none 0 0] 22)).alloc (.cells #[.slice none 0 0] 22)).alloc (.cells #[.pointer (some ⟨b, 0, none⟩)] 23) = w6 at kA hb7 hb8 hbN hs6 ⊢
    clear hp6
    obtain ⟨ws, hbits5, hxw⟩ := HB5.out
    have hbits := hbits5.keep kA
    obtain ⟨L, hL⟩ := comes_blist hbits.ok
    have hLx : L.map (·.1) = x := by rw [← hxw]; exact hL
    have hLl : L.length = x.length := by rw [← hLx]; simp
    have hTab6 : Tab w6 := HT.out.chg (HK5.out.then kA) id
    have h00 : 0 < w.heap.size := World.block_lt_of_cell? w ⟨0, 0, none⟩ (HT.out 0 (by decide))
    have hbl := hbits.at_
    refine wp_act fun T hT => ?_
    refine (wpIn_wide (n := 9)).1 ?_
    have hseq : SeqStopsK Fence.wide 8 Tryd.prog 35 #[.pointer (some ⟨w5.heap.size + 2, 0, none⟩)] (fun x : Num => #[.int .i64 x.1]) (Kp [w5.heap.size, b] w6.heap.size) (fun ys => ys = L) (fun pre => pre <+: L) L.length w6 := by
      intro l J Jx W hW hJ hJx hY h0
      have k1 : Kept w6 W := Kept.of_below hW
      refine Tryd.each1_in 8 l (w5.heap.size + 2) b w6.heap.size [w5.heap.size, b] ws L hL J Jx W hJ hJx hY hW.size ?_ ?_ ?_ (hbits.keep k1) (hTab6.chg k1 id) h0
      · intro b' hb'
        simp at hb'
        rcases hb' with rfl | rfl
        · omega
        · exact hbits.lt
      · intro j hj
        rcases RowIn.two.1 hj with ⟨b', hb', hr⟩ | ⟨b', hb', hr⟩
        · simp at hb'; subst hb'
          rw [blk_one (hb7.keep k1)] at hr
          cases hr
        · simp at hb'; subst hb'
          exact ((hbits.keep k1).rowIn j hr).2
      · exact blk_one (hbN.keep k1)
    have hKb : ∀ (W : World) (l : Nat) (o o' : Obj), w6.heap.size ≤ l → W.heap[l]? = some o → o.isCells = false → o.isWalk = false → Kp [w5.heap.size, b] w6.heap.size W (W.putObj l o') := fun W l o o' hl ho hc _ => Kp.putObj (by intro b' hb'; simp at hb'; rcases hb' with rfl | rfl; omega; exact hbits.lt) (by omega) W l o o' (by omega) ho hc
    refine range_both 0 (gf := 35) (lb := #[.pointer (some ⟨w5.heap.size + 2, 0, none⟩)]) (by subst hT; rfl) trivial (enters_of Tryd.func35 (by kernel_rfl) rfl)
      hseq (fun h k => Kp.trans h k) hKb (fun _ => rfl)
      (LInv w6 w5.heap.size b (w.heap.size + 1) w2.heap.size k) k
      (fun pre A B row hs hg hr => hs.own hg (fun r e => (hr r e).2) (fun r e => (hr r e).1))
      (fun pre W hs => by obtain ⟨_, _, _, _, _, _, _, h, _⟩ := hs; exact h)
      ⟨fun j => w.heap.size + 1 ≤ j ∧ j < w2.heap.size, _, ws, hb7, Row.nil _ _ _ _, hbits, fun _ h => .inl h, Nat.zero_le _, Chg.refl _ _⟩
      (fun (x : Num) => { tmps := (T.setIfInBounds 29 (.int .i64 x.1)).setIfInBounds 10 (.int .i64 x.1), defers := [] }) ?assign ?body ?rest
    case assign =>
      intro l x W K hK
      subst hT
      gi_wp2
      exact hK
    case body =>
      intro l pre x1 W hI hlt
      obtain ⟨T1, v1, ws1, q1, q2, q3, q4, q5, q6⟩ := hI
      obtain ⟨T2, q3', q7⟩ := q3.least
      have q4' : ∀ j, T2 j → (w.heap.size + 1 ≤ j ∧ j < w2.heap.size) ∨ w6.heap.size ≤ j := fun j hj => q4 j (q7 j hj).1
      have q2' : Row (fun j => w6.heap.size ≤ j ∧ ¬ T2 j) W 3 1 v1 pre.length (pre.map fun x => Value.int .i64 x.1) := q2.mono fun j _ h => ⟨h.1, fun h2 => h.2 (q7 j h2).1⟩
      have hs1 := q6.size
      have hcM : W.cell? ⟨w.heap.size, 0, none⟩ = some (.int .i64 k) := by simpa using ((HM5.out.keep kA).chg q6 (show ¬ (w.heap.size = w5.heap.size ∨ (w.heap.size + 1 ≤ w.heap.size ∧ w.heap.size < w2.heap.size)) by omega)).cell 0
      have hPb := (HP5.out.keep kA).chg q6 (show ¬ (w2.heap.size = w5.heap.size ∨ (w.heap.size + 1 ≤ w2.heap.size ∧ w2.heap.size < w2.heap.size)) by omega)
      obtain ⟨A, c, rfl, hc1, hc2, hc3⟩ := q2'.slice
      have hcell : W.cell? ⟨w5.heap.size, 0, none⟩ = some (.slice A pre.length c) := blk_one q1
      have hlen : pre.length ≤ 65536 := by omega
      have hx1a := x1.2.1
      have hx1b := x1.2.2
      have HQ1 := Lib.hid q1
      have HQ2 := Lib.hid q2'
      have HQ3 := Lib.hid q3'
      have HQ4 := Lib.hid q4'
      have HQ6 := Lib.hid q6
      have HQ7 := Lib.hid (fun j (hj : T2 j) => (q7 j hj).2)
      have HPB := Lib.hid hPb
      clear q1 q2 q2' q3 q3' q4 q4' q6 q7 hPb hseq hKb hc3 hL hLx hb7 hb8 hbN hTab6 hbits5 hxw
      by_cases hke : pre.length = k
      · subst hT
        have hd : ((pre.length : Int) == (k : Int)) = true := by simp [hke]
        gi_wp2
        exact ⟨KeepsOthers.refl W, rfl, pre, x1, rfl, hke, T2, _, ws1, HQ1.out, HQ2.out, HQ3.out, HQ4.out, by omega, HQ6.out⟩
      · subst hT
        have hlt2 : pre.length < k := by omega
        have hd : ((pre.length : Int) == (k : Int)) = false := by simp; omega
        have hn5T : ¬ T2 w5.heap.size := fun h => by have := HQ4.out _ h; omega
        have hp5T : ¬ T2 w2.heap.size := fun h => by have := HQ4.out _ h; omega
        have HBS2 := Lib.hid (show ∀ (o : Obj) (w1 : World), Chg (fun k => (Value.slice A pre.length c).ownBlock = some k) (W.alloc o) w1 → _ from fun o w1 h => body_step (p5 := w2.heap.size) HQ1.out HQ2.out HQ3.out HPB.out (by omega) (by omega) (by omega) hn5T h)
        have HPUT := Lib.hid (Tryd.put_round (T := T2) (b := b) (p5 := w2.heap.size) (ws := ws1) (x1.1 - 1) (by omega) (by omega) hp5T)
        have HDROP := Lib.hid (fun (w3 : World) (T3 : Nat → Prop) (ws3 : List Nat) (h : BitsAt T3 w3 b ws3) => Tryd.drop_calls h x1.1 (by omega) (by omega))
        clear hn5T hp5T
        gi_wp2_with first
          | (gi_at_builtin; go_must ((refine rowIn_append (fun k => (Value.slice A pre.length c).ownBlock = some k) rfl _ _ 22 3 (.int .i64 0) 1 8 rfl Tryd.underlying22 Tryd.infoI64 rfl ?q1 ?q2 (.slice A pre.length c) pre.length _ rfl (HQ2.out.least.alloc _) ⟨W.heap.size, 0, none⟩ 1 1 [.int .i64 x1.1] rfl rfl (cell_one_new _ _ _) ?q3 ?q4 ?q5 ?_; (case q1 => decide); (case q2 => decide); (case q3 => simp [Value.oneCell']); (case q4 => omega); (case q5 => omega); intro g1 c1 w1 hrow hchg; have HN := HBS2.out _ _ hchg; have hcell1 := HN.1; have hfree1 := HN.2.1; have hcP := (HN.2.2 (.slice (some ⟨g1, 0, none⟩) (pre.length + 1) c1)).1; have HBT := Lib.hid (HN.2.2 (.slice (some ⟨g1, 0, none⟩) (pre.length + 1) c1)).2; have HROW := Lib.hid hrow; have HCHG := Lib.hid hchg; clear HN hrow hchg)))
          | (refine ⟨trivial, ?_⟩; gi_at_call 10; refine (CallsIn.inRound l (callsIn_wide.2 (HPUT.out _ HBT.out hcP))).mono ?_; rintro e w3 ⟨qq, T3, ws3, rfl, h1, h2, hcP3, h3, h4⟩; have HP1 := Lib.hid h1; have HP2 := Lib.hid h2; have HP3 := Lib.hid h3; have HP4 := Lib.hid h4; clear h1 h2 h3 h4)
          | (refine ⟨trivial, ?_⟩; gi_at_call 12; refine (CallsIn.inRound l (callsIn_wide.2 (HDROP.out _ _ _ HP3.out))).mono ?_; rintro e w4' ⟨rfl, h1, h2⟩; have HD1 := Lib.hid h1; have HD2 := Lib.hid h2; clear h1 h2)
        exact loop_round HQ1.out HQ2.out HQ3.out HQ4.out HQ7.out hlt2 HQ6.out (by omega) (by omega) hbits.lt (by omega) (by omega) HROW.out HCHG.out HP1.out HP2.out HP4.out HD1.out HD2.out
    case rest =>
      intro D1 W hD1 hI hKD1
      subst hT
      obtain ⟨T1, v1, ws1, q1, q2, q3, q4, q5, q6⟩ := hI
      have hs1 := q6.size
      have hLk : (L.take k).map (·.1) = x.take k := by rw [List.map_take, hLx]
      have hLkl : (L.take k).length = k := by rw [List.length_take]; omega
      have e1 : (L.take k).map (fun x => Value.int .i64 x.1) = (x.take k).map (Value.int .i64) := by rw [← hLk, List.map_map]; rfl
      have e2 : (x.take k).length = k := by rw [List.length_take]; omega
      have hsome : Ints .i64 (fun j => w6.heap.size ≤ j) W v1 (x.take k) := by
        rw [e1, hLkl] at q2
        refine Row.ints (S := fun k => w6.heap.size ≤ k ∧ ¬ T1 k) (e := 3) ?_ (fun _ h => h.1)
        rw [e2]
        exact q2
      have hKW : Kept w W := (HK5.out.then kA).trans q6 fun i hi e => by omega
      have hMW := (HM5.out.keep kA).chg q6 (show ¬ (w.heap.size = w5.heap.size ∨ (w.heap.size + 1 ≤ w.heap.size ∧ w.heap.size < w2.heap.size)) by omega)
      have h8W := hb8.chg q6 (show ¬ (w5.heap.size + 1 = w5.heap.size ∨ (w.heap.size + 1 ≤ w5.heap.size + 1 ∧ w5.heap.size + 1 < w2.heap.size)) by omega)
      have hXW : Ints .i64 (fun j => w2.heap.size + 1 ≤ j ∧ j < w5.heap.size) W (.slice A4 x.length c4) x := (HX5.out.keep kA).move q6 fun g _ h => ⟨by omega, h⟩
      have HSOME := Lib.hid hsome
      have HKW := Lib.hid hKW
      have HMW := Lib.hid hMW
      have H8W := Lib.hid h8W
      have H7W := Lib.hid q1
      have HXW := Lib.hid hXW
      have HKD := Lib.hid hKD1
      clear hsome hKW hMW h8W q1 q2 q3 q4 q5 q6 hXW e1 hLk hseq hKb hb7 hb8 hbN hTab6 hbits hbits5 hL hLx hLl hxw hKD1 hLkl HB5 HX5
      go_wp2_with first
        | (go_at_call 8; refine (HC1.out _ HKW.out).mono ?_; rintro e w' ⟨v', rfl, hi, rfl⟩; have HI := Lib.hid hi; clear hi)
        | (go_at_call 7; first | (refine (HSA2.out _ _ _ HI.out).mono ?_; rintro e w7 ⟨b', rfl, hb, hk⟩; have s7 := hk.size; have HB7 := Lib.hid hb; have HK7 := Lib.hid hk; clear hb hk HI))
        | (go_at_call 20; refine (callsIn_wide.1 (Tryd.each_in 9 _ _)).mono ?_; rintro e w' ⟨rfl, rfl⟩)
      have k78 : Kept W (w7.alloc (.cells #[.pointer (some ⟨b', 0, none⟩)] 23)) := HK7.out.alloc _
      have hbN2 := Blk.new w7 #[.pointer (some ⟨b', 0, none⟩)] 23
      have hs8 : (w7.alloc (.cells #[.pointer (some ⟨b', 0, none⟩)] 23)).heap.size = w7.heap.size + 1 := by simp
      have k7 : Kept w7 (w7.alloc (.cells #[.pointer (some ⟨b', 0, none⟩)] 23)) := (Chg.refl _ w7).alloc _
      generalize w7.alloc (.cells #[.pointer (some ⟨b', 0, none⟩)] 23) = w8 at k78 hbN2 hs8 k7 ⊢
      obtain ⟨ws2, hbits7, hxw2⟩ := HB7.out
      have hbits2 := hbits7.keep k7
      obtain ⟨L2, hL2⟩ := comes_blist hbits2.ok
      have hLx2 : L2.map (·.1) = x := by rw [← hxw2]; exact hL2
      have hLl2 : L2.length = x.length := by rw [← hLx2]; simp
      have hTab8 : Tab w8 := HT.out.chg (HKW.out.then k78) id
      have hWs5 := hD1
      have HLT8 : Hid (w5.heap.size + 1 < w8.heap.size) := Lib.hid (by have := k78.size; omega)
      have hb88 := H8W.out.keep k78
      refine wp_act fun T hT => ?_
      refine (wpIn_wide (n := 9)).1 ?_
      have hseq : SeqStopsK Fence.wide 8 Tryd.prog 35 #[.pointer (some ⟨w7.heap.size, 0, none⟩)] (fun x : Num => #[.int .i64 x.1]) (Kp [w5.heap.size + 1] w8.heap.size) (fun ys => ys = L2) (fun pre => pre <+: L2) L2.length w8 := by
        intro l J Jx W hW hJ hJx hY h0
        have k1 : Kept w8 W := Kept.of_below hW
        refine Tryd.each1_in 8 l w7.heap.size b' w8.heap.size [w5.heap.size + 1] ws2 L2 hL2 J Jx W hJ hJx hY hW.size ?_ ?_ ?_ (hbits2.keep k1) (hTab8.chg k1 id) h0
        · intro b2 hb2
          simp at hb2
          omega
        · rintro j ⟨b2, hb2, hr⟩
          simp at hb2; subst hb2
          rw [blk_one (hb88.keep k1)] at hr
          cases hr
        · exact blk_one (hbN2.keep k1)
      have hKb : ∀ (W : World) (l : Nat) (o o' : Obj), w8.heap.size ≤ l → W.heap[l]? = some o → o.isCells = false → o.isWalk = false → Kp [w5.heap.size + 1] w8.heap.size W (W.putObj l o') := fun W l o o' hl ho hc _ => Kp.putObj (by intro b2 hb2; simp at hb2; omega) (by omega) W l o o' (by omega) ho hc
      refine range_both 2 (gf := 35) (lb := #[.pointer (some ⟨w7.heap.size, 0, none⟩)]) (by subst hT; rfl) trivial (enters_of Tryd.func35 (by kernel_rfl) rfl)
        hseq (fun h k => Kp.trans h k) hKb (fun _ => rfl)
        (LInv2 w8 (w5.heap.size + 1) x.length) x.length
        (fun pre A B row hs hg hr => hs.own hg (fun r e => (hr r e).2) (fun r e => (hr r e).1))
        (fun pre W hs => by obtain ⟨_, _, _, h, _⟩ := hs; exact h)
        ⟨_, hb88, Row.nil _ _ _ _, Nat.zero_le _, Chg.refl _ _⟩
        (fun (x : Num) => { tmps := (T.setIfInBounds 53 (.int .i64 x.1)).setIfInBounds 12 (.int .i64 x.1), defers := [] }) ?assign2 ?body2 ?rest2
      case assign2 =>
        intro l x W K hK
        subst hT
        gi_wp2
        exact hK
      case body2 =>
        intro l pre x1 W2 hI hlt
        obtain ⟨v1, q1, q2, q5, q6⟩ := hI
        subst hT
        obtain ⟨A, c, rfl, hc1, hc2, hc3⟩ := q2.slice
        have hcell : W2.cell? ⟨w5.heap.size + 1, 0, none⟩ = some (.slice A pre.length c) := blk_one q1
        have hlen : pre.length ≤ 65536 := by omega
        have hpk : pre.length < x.length := by omega
        have HQ1 := Lib.hid q1
        have HQ2 := Lib.hid q2
        have HQ6 := Lib.hid q6
        clear q1 q2 q6 hseq hKb hc3 hL2 hLx2 hbN2 hTab8 hbits7 hbits2 hxw2 hb88
        gi_wp2_with (gi_at_builtin; go_must ((refine rowIn_append (fun k => (Value.slice A pre.length c).ownBlock = some k) rfl _ _ 22 3 (.int .i64 0) 1 8 rfl Tryd.underlying22 Tryd.infoI64 rfl ?q1 ?q2 (.slice A pre.length c) pre.length _ rfl (HQ2.out.least.alloc _) ⟨W2.heap.size, 0, none⟩ 1 1 [.int .i64 x1.1] rfl rfl (cell_one_new _ _ _) ?q3 ?q4 ?q5 ?_; (case q1 => decide); (case q2 => decide); (case q3 => simp [Value.oneCell']); (case q4 => omega); (case q5 => omega); intro g1 c1 w1 hrow hchg; have HN := box_step HQ1.out (HQ2.out.mono fun g _ (h : w8.heap.size ≤ g) => (show w5.heap.size + 1 < g from Nat.lt_of_lt_of_le HLT8.out h)) (Nat.le_refl _) hchg; have hcell1 := blk_one HN.1; have hfree1 := HN.1.free 0; have HROW := Lib.hid hrow; have HCHG := Lib.hid hchg; clear HN hrow hchg)))
        exact loop_round2 HQ1.out HQ2.out hpk HQ6.out HLT8.out (by omega) HROW.out HCHG.out
      case rest2 =>
        intro D2 W2 hD2 hI hKD2
        subst hT
        obtain ⟨v2, q1, q2, q5, q6⟩ := hI
        have hW6 : w6.heap.size ≤ W.heap.size := hs1
        have hL2k : L2.take x.length = L2 := List.take_of_length_le (by omega)
        rw [hL2k] at q2
        have hagain : Ints .i64 (fun j => w8.heap.size ≤ j) W2 v2 x := by
          have e1 : L2.map (fun x => Value.int .i64 x.1) = x.map (Value.int .i64) := by rw [← hLx2, List.map_map]; rfl
          rw [e1, hLl2] at q2
          exact Row.ints (S := fun k => w8.heap.size ≤ k) (e := 3) q2 (fun _ h => h)
        have hsome : Ints .i64 (fun _ => True) W2 v1 (x.take k) := (HSOME.out.keep k78).move q6 fun g _ h => ⟨by omega, trivial⟩
        have hX2 : Ints .i64 (fun _ => True) W2 (.slice A4 x.length c4) x := (HXW.out.keep k78).move q6 fun g _ h => ⟨by omega, trivial⟩
        have hXk : Ints .i64 (fun _ => True) W2 (.slice A4 k c4) (x.take k) := hX2.take k hk
        have hc7 : W2.cell? ⟨w5.heap.size, 0, none⟩ = some v1 := blk_one ((H7W.out.keep k78).chg q6 (show ¬ w5.heap.size = w5.heap.size + 1 by omega))
        have hc8 : W2.cell? ⟨w5.heap.size + 1, 0, none⟩ = some v2 := blk_one q1
        have hcM : W2.cell? ⟨w.heap.size, 0, none⟩ = some (.int .i64 k) := blk_one ((HMW.out.keep k78).chg q6 (show ¬ w.heap.size = w5.heap.size + 1 by omega))
        have hK2 : Kept w W2 := (HKW.out.then k78).trans q6 fun i hi e => by omega
        have hDlt : D1 < W.heap.size := (Array.getElem?_eq_some_iff.1 HKD.out).1
        have HD1 : Hid (W2.heap[D1]? = some (.deferred (some []))) := Lib.hid ((q6.block D1 (Nat.lt_of_lt_of_le hDlt k78.size) (by omega)).trans ((k78.block D1 hDlt id).trans HKD.out))
        have HD2 := Lib.hid hKD2
        have HK2 := Lib.hid hK2
        have HS1 : Hid (∀ W', Kept W2 W' → Calls Tryd.prog 14 #[v1, .slice A4 k c4] W' fun e w' => e = .returned (.bool true) ∧ ∃ n, w' = W'.drewN n) := Lib.hid fun W' kk => by
          refine (Tryd.r3same_calls (hsome.keep kk) (hXk.keep kk)).mono ?_
          rintro e w' ⟨rfl, h⟩
          exact ⟨by rw [decide_eq_true rfl], h⟩
        have HS2 : Hid (∀ W', Kept W2 W' → Calls Tryd.prog 14 #[v2, .slice A4 x.length c4] W' fun e w' => e = .returned (.bool true) ∧ ∃ n, w' = W'.drewN n) := Lib.hid fun W' kk => by
          refine (Tryd.r3same_calls (hagain.keep kk) (hX2.keep kk)).mono ?_
          rintro e w' ⟨rfl, h⟩
          exact ⟨by rw [decide_eq_true rfl], h⟩
        clear q1 q2 q5 q6 hagain hsome hX2 hXk hseq hKb hL2 hLx2 hLl2 hL2k hbN2 hTab8 hbits7 hbits2 hxw2 hb88 HSOME H7W HMW HXW HKD hKD2 hK2
        have hk2 : (k : Int) ≤ x.length := by omega
        go_wp2
        have HKD1 : Hid (Kept W2 W2.drew) := Lib.hid (Chg.refl _ W2).drew
        have HKD2 : Hid (∀ n, Kept W2 (W2.drewN n)) := Lib.hid fun n => (Chg.refl _ W2).drewN n
        have HLV := Lib.hid (fun W => Tryd.lives_calls W)
        refine wp_region_noPanic ?_
        go_region_with (first
          | (go_at_call 14; first
              | (((with_reducible refine (HS2.out _ (HKD2.out _)).mono ?_); (rintro e w' ⟨rfl, nd2, rfl⟩)))
              | (((with_reducible refine (HS1.out _ HKD1.out).mono ?_); (rintro e w' ⟨rfl, nd, rfl⟩); have hc81 : (W2.drewN (1 + nd)).cell? ⟨w5.heap.size + 1, 0, none⟩ = some v2 := hc8)))
          | (go_at_call 18; (with_reducible refine (HLV.out _).mono ?_); rintro e w9 ⟨rfl, hk⟩; have HK9 := Lib.hid hk; clear hk))
        all_goals refine NoPanic.normal ?_
        all_goals go_wp2
        all_goals
          have k9 := (HKD2.out _).then HK9.out
          have hd2lt := (Array.getElem?_eq_some_iff.1 HD2.out).1
          have hd1lt := (Array.getElem?_eq_some_iff.1 HD1.out).1
          have d2 := (k9.block D2 hd2lt id).trans HD2.out
          have d1 := (k9.block D1 hd1lt id).trans HD1.out
          have k78s := k78.size
          have hKs := HK2.out.size
          have hne : D1 ≠ D2 := by omega
          refine ⟨by simp, .inl ⟨_, _, rfl, run_takeDeferred d2, ?_⟩⟩
          refine ⟨by simp, .inl ⟨_, _, rfl, run_takeDeferred ((World.putObj_heap_other hne).trans d1), ?_⟩⟩
          have hwW : w.heap.size ≤ w6.heap.size := by omega
          refine ⟨_, results_tmp rfl _ _ _, rfl, ((HK2.out.then k9).own (grownBy_putObj' _ D2 _) (fun r e => by cases e; omega)).own (grownBy_putObj' _ D1 _) (fun r e => by cases e; omega)⟩
end Go.Proofs.YtaobleahcceffaaDoor
