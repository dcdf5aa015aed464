/-
  The walks of brazierlaw03.cut and all: the first hundred numbers; what a loop over a set goes over. Conditions: a slice that reads as numbers; a set that there is; the de Bruijn table as its initialiser lays it.
-/
import Derived.Test.YtaobleahcceffaaDoorEach
set_option linter.unusedVariables false
set_option linter.unusedSimpArgs false
namespace Go.Proofs.YtaobleahcceffaaDoor
open Go.RowKit Go.Shelf
attribute [local go_sem] Oper.semAt_some

theorem Ints.take {k : IntKind} {ok : Nat → Prop} {w : World} {A : Option Addr} {c : Nat} {l : List Int} (h : Ints k ok w (.slice A l.length c) l) (m : Nat) (hm : m ≤ l.length) : Ints k ok w (.slice A m c) (l.take m) := by
  obtain ⟨A', c', he, h1, h2, h0, h3⟩ := h
  obtain ⟨rfl, rfl⟩ : A = A' ∧ c = c' := by injection he with a1 _ a2; exact ⟨a1, a2⟩
  have hl : (l.take m).length = m := by rw [List.length_take]; omega
  refine ⟨A, c, by rw [hl], by rw [hl]; omega, h2, h0, fun hp => ?_⟩
  obtain ⟨g, off, hA, hg, hc⟩ := h3 (by rw [hl] at hp; omega)
  refine ⟨g, off, hA, hg, fun j p hj => hc j p ?_⟩
  rw [List.getElem?_take] at hj
  split at hj
  · exact hj
  · cases hj

set_option maxHeartbeats 400000 in
theorem Tryd.cut_calls {ok : Nat → Prop} {w : World} {v : Value} {l : List Int} (h : Ints .i64 ok w v l) :
    Calls Tryd.prog 8 #[v] w fun e w' => ∃ v', e = .returned v' ∧ Ints .i64 ok w v' (l.take 100) ∧ w = w' := by
  obtain ⟨A, c, rfl, h1, h2, h3, _⟩ := h.at_
  have h2' : c ≤ 9223372036854775807 := by unfold maxLen at h2; omega
  have H := Lib.hid h
  clear h h3 h2
  by_cases hl : l.length ≤ 100
  · have HI := Lib.hid (show l.take 100 = l from List.take_of_length_le hl)
    generalize hn : l.length = n at *
    have HN := Lib.hid hn
    clear hn
    go_enter Tryd.func8, Tryd.ntmps8
    go_wp2
    go_ret
    exact ⟨_, rfl, by rw [HI.out]; exact H.out, rfl⟩
  · have HI := Lib.hid (H.out.take 100 (by omega))
    have hl' : (100 : Int) < l.length := by omega
    generalize l.length = n at *
    go_enter Tryd.func8, Tryd.ntmps8
    go_wp2
    go_ret
    exact ⟨_, rfl, HI.out, rfl⟩

theorem Tryd.infoI64 : (Tryd.prog.info? 3).map (fun i => (i.zero, i.size, i.bytes)) = some (some (.int .i64 0), 1, 8) := by kernel_rfl

theorem Tryd.each_there (p : Option Addr) (w : World) : (binOp .eql 35 (.func (.func 35) #[] #[.pointer p]) .nilFunc).run Tryd.prog w = .ok (.bool false) w := by kernel_rfl

theorem blk_one {W : World} {b : Nat} {v : Value} {t : TypeId} (h : Blk W b #[v] t) : W.cell? ⟨b, 0, none⟩ = some v := by simpa using h.cell 0

/-- Behind an append to a row that lies beyond it, a box is as it was. -/
theorem box_step {b n c B : Nat} {A : Option Addr} {W w1 : World} {e t : TypeId} {size : Nat} {xs : List Value} {u : Array Value} (hb : Blk W b u t) (hr : Row (fun k => B < k) W e size (.slice A n c) n xs) (hB : b ≤ B) {o : Obj}
    (k : Chg (fun k => (Value.slice A n c).ownBlock = some k) (W.alloc o) w1) : Blk w1 b u t ∧ w1.heap.size ≥ W.heap.size :=
  ⟨(hb.alloc o).chg k (fun e => by have := hr.at_ b e; omega), by have := k.size; simp at this; omega⟩

set_option maxRecDepth 100000 in
set_option maxHeartbeats 2000000 in
/-- What a loop over a set goes over: its numbers, rising. -/
theorem Tryd.all_calls {S : Nat → Prop} {b : Nat} {ws : List Nat} {w : World} (h : BitsAt S w b ws) (hT : Tab w) :
    Calls Tryd.prog 13 #[.pointer (some ⟨b, 0, none⟩)] w fun e w' => ∃ v, e = .returned (.tuple #[v, .bool true]) ∧ Row (fun k => w.heap.size ≤ k) w' 3 1 v (blist ws).length ((blist ws).map fun (n : Nat) => Value.int .i64 n) ∧ Kept w w' := by
  obtain ⟨L, hL⟩ := comes_blist h.ok
  have hsize : (blist ws).length ≤ 65536 := by
    have := bcount_le ws ws.length
    rw [bcount_all] at this
    have := h.ok.len
    omega
  have hLl : L.length = (blist ws).length := by simpa using congrArg List.length hL
  refine (callsIn_wide (n := 9)).1 ?_
  refine callsIn_of_wp_marks Tryd.func13 rfl trivial ?_ rfl
  simp only [Tryd.ntmps13, List.size_toArray, List.length_cons, List.length_nil, Nat.reduceAdd, Nat.reduceSub, Array.replicate_succ, Array.replicate_zero, List.push_toArray, List.append_toArray, List.nil_append, List.cons_append]
  have H := Lib.hid h
  have HT := Lib.hid hT
  have HL := Lib.hid hL
  have HLL := Lib.hid hLl
  clear h hT hL hLl
  have hth := Tryd.each_there
  gi_wp2_with (refine ⟨trivial, ?_⟩; gi_at_call 20; refine (Tryd.each_in _ _ _).mono ?_; rintro e w' ⟨rfl, rfl⟩)
  have bO := Blk.new w #[.slice none 0 0] 22
  have kO : Kept w ((w.alloc (.cells #[.slice none 0 0] 22)).alloc (.cells #[.pointer (some ⟨b, 0, none⟩)] 23)) := ((Chg.refl _ w).alloc _).alloc _
  have bN := Blk.new (w.alloc (.cells #[.slice none 0 0] 22)) #[.pointer (some ⟨b, 0, none⟩)] 23
  rw [World.size_alloc] at bN
  obtain ⟨W0, hW0⟩ : ∃ W0, (w.alloc (.cells #[.slice none 0 0] 22)).alloc (.cells #[.pointer (some ⟨b, 0, none⟩)] 23) = W0 := ⟨_, rfl⟩
  have hsz : W0.heap.size = w.heap.size + 2 := by rw [← hW0]; simp
  have bO1 := bO.alloc (.cells #[.pointer (some ⟨b, 0, none⟩)] 23)
  rw [hW0] at kO bN bO1
  rw [hW0]
  have hseq : SeqStopsK Fence.wide 8 Tryd.prog 35 #[.pointer (some ⟨w.heap.size + 1, 0, none⟩)] (fun x : Num => #[.int .i64 x.1]) (Kp [w.heap.size] (w.heap.size + 2)) (fun ys => ys = L) (fun pre => pre <+: L) L.length W0 := by
    intro l J Jx W hW hJ hJx hY h0
    have k1 : Kept w W := kO.trans (Kept.of_below hW) (fun _ _ h => h)
    have c0 : W.cell? ⟨w.heap.size, 0, none⟩ = some (.slice none 0 0) := (hW.cell (p := ⟨w.heap.size, 0, none⟩) (show w.heap.size < W0.heap.size by omega)).trans (by simpa using bO1.cell 0)
    exact Tryd.each1_in 8 l (w.heap.size + 1) b (w.heap.size + 2) [w.heap.size] ws L HL.out J Jx W hJ hJx hY (by have := hW.size; omega) (by intro b' hb'; simp at hb'; omega) (by rintro k ⟨b', hb', hk⟩; simp at hb'; subst hb'; rw [c0] at hk; cases hk) ((hW.cell (p := ⟨w.heap.size + 1, 0, none⟩) (show w.heap.size + 1 < W0.heap.size by omega)).trans (by simpa using bN.cell 0)) (H.out.keep k1) (HT.out.chg k1 id) h0
  have h00 : 0 < w.heap.size := World.block_lt_of_cell? w ⟨0, 0, none⟩ (HT.out 0 (by decide))
  have hblt := H.out.lt
  have bO2 := bO1
  clear bO1
  have hKb : ∀ (W : World) (l : Nat) (o o' : Obj), W0.heap.size ≤ l → W.heap[l]? = some o → o.isCells = false → o.isWalk = false → Kp [w.heap.size] (w.heap.size + 2) W (W.putObj l o') := fun W l o o' hl ho hc _ => Kp.putObj (by intro b' hb'; simp at hb'; omega) (by omega) W l o o' (by omega) ho hc
  refine wpIn_rangeFunc_ownF rfl (by omega) (gf := 35) (lb := #[.pointer (some ⟨w.heap.size + 1, 0, none⟩)]) rfl trivial (enters_of Tryd.func35 (by kernel_rfl) rfl)
    hseq (fun h k => Kp.trans h k) hKb (Below.refl _ _) (fun _ => rfl)
    (fun (pre : List Num) W => (∃ v, Blk W w.heap.size #[v] 22 ∧ Row (fun k => w.heap.size + 1 < k) W 3 1 v pre.length (pre.map fun x => Value.int .i64 x.1)) ∧ Kept w W)
    (fun _ _ _ => False)
    (fun pre A B row hs hg hr => ⟨by obtain ⟨v, h1, h2⟩ := hs.1; exact ⟨v, h1.own hg (fun r e => (hr r e).2), h2.own_ hg (fun r e => (hr r e).2)⟩, hs.2.own hg (fun r e => by have := (hr r e).1; omega)⟩)
    (fun _ _ _ _ _ hs _ _ => hs)
    ⟨⟨_, bO2, Row.nil _ _ _ _⟩, kO⟩
    (fun (x : Num) => { tmps := #[.pointer (some ⟨b, 0, none⟩), undef, .slice none 0 0, .bool false, .pointer (some ⟨w.heap.size, 0, none⟩), .func (.func 35) #[] #[.pointer (some ⟨w.heap.size + 1, 0, none⟩)], .int .i64 x.1, .pointer (some ⟨b, 0, none⟩), .func (.func 35) #[] #[.pointer (some ⟨w.heap.size + 1, 0, none⟩)], .func (.func 35) #[] #[.pointer (some ⟨w.heap.size + 1, 0, none⟩)], .bool false, .func (.func 35) #[] #[.pointer (some ⟨w.heap.size + 1, 0, none⟩)], .int .i64 x.1, undef, undef, undef, undef, undef], defers := [] }) ?assign ?body ?done ?stop
  case assign =>
    intro l x W K hK
    gi_wp2
    exact hK
  case body =>
    rintro l pre x W ⟨⟨v, hb1, hr1⟩, hk1⟩ hlt
    obtain ⟨A, c, rfl, hc1, hc2, hc3⟩ := hr1.slice
    have hcell : W.cell? ⟨w.heap.size, 0, none⟩ = some (.slice A pre.length c) := by simpa using hb1.cell 0
    have hlen : pre.length ≤ 65536 := by have := HLL.out; omega
    have HB1 := Lib.hid hb1
    have HR1 := Lib.hid hr1
    have HK1 := Lib.hid hk1
    have hlt1 := hb1.lt
    clear hb1 hr1 hk1 hc3 bN bO2 kO hseq hKb hW0 bO
    gi_wp2_with (gi_at_builtin; go_must ((refine rowIn_append (fun k => (Value.slice A pre.length c).ownBlock = some k) rfl _ _ 22 3 (.int .i64 0) 1 8 rfl Tryd.underlying22 Tryd.infoI64 rfl ?q1 ?q2 (.slice A pre.length c) pre.length _ rfl (HR1.out.least.alloc _) ⟨W.heap.size, 0, none⟩ 1 1 [.int .i64 x.1] rfl rfl (cell_one_new _ _ _) ?q3 ?q4 ?q5 ?_; (case q1 => decide); (case q2 => decide); (case q3 => simp [Value.oneCell']); (case q4 => omega); (case q5 => omega); intro g1 c1 w1 hrow hchg; have HN := box_step HB1.out HR1.out (Nat.le_succ _) hchg; have hcell1 := blk_one HN.1; have hfree1 := HN.1.free 0; have HBX := Lib.hid HN.1; have HROW := Lib.hid hrow; have HCHG := Lib.hid hchg; clear HN hrow hchg)))
    have hg1 : (Value.slice A pre.length c).ownBlock = some g1 ∨ W.heap.size < g1 := by
      have := HROW.out.at_ g1 rfl
      simp only [World.size_alloc] at this
      exact this
    have hg2 : w.heap.size + 1 < g1 := by
      rcases hg1 with h | h
      · exact HR1.out.at_ g1 h
      · omega
    have hne : w.heap.size ≠ g1 := by omega
    have kAll : Chg (fun k => (Value.slice A pre.length c).ownBlock = some k ∨ k = w.heap.size) W (w1.setCell ⟨w.heap.size, 0, none⟩ (.slice (some ⟨g1, 0, none⟩) (pre.length + 1) c1)) :=
      (((Chg.refl _ W).alloc _).trans HCHG.out fun i hi e => .inl e).setCell (fun _ => .inr rfl) _
    refine ⟨kAll.others ?_, ?_, ⟨⟨_, HBX.out.put 0 _, ?_⟩, ?_⟩⟩
    · rintro k o (hk | rfl) ho
      · rcases HR1.out.own.2 with ⟨hv, _⟩ | ⟨g, cap, cur, hv, _, hh, _⟩
        · rw [hv] at hk; cases hk
        · rw [hv] at hk; injection hk with hk; subst hk; rw [hh] at ho; cases ho; rfl
      · have h := HB1.out
        unfold Blk at h
        rw [h] at ho; cases ho; rfl
    · refine Kp.of_chg kAll ?_ ?_ ?_
      · rintro j hj (hk | rfl)
        · exact .inr ⟨w.heap.size, by simp, by rw [blk_one HB1.out]; exact hk⟩
        · exact .inl (by omega)
      · rintro j hj ⟨b', hb', hr⟩
        simp at hb'
        subst hb'
        have hc := (HBX.out.put 0 (.slice (some ⟨g1, 0, none⟩) (pre.length + 1) c1)).cell 0
        rw [hc] at hr
        have hr' : g1 = j := by simpa [Value.ownBlock] using hr
        subst hr'
        left
        refine ⟨w.heap.size, by simp, ?_⟩
        rw [blk_one HB1.out]
        exact hg1.resolve_right (by omega)
      · rintro (hk | hk)
        · have := HR1.out.at_ _ hk; omega
        · omega
    · rw [List.length_append, List.map_append]
      have h := ownsRow_setCell_other HROW.out.own (a := ⟨w.heap.size, 0, none⟩) (by simp [Value.ownBlock]; exact fun e => hne e.symm) (.slice (some ⟨g1, 0, none⟩) (pre.length + 1) c1)
      refine ⟨h, fun g hg => ?_⟩
      have : g1 = g := by simpa [Value.ownBlock] using hg
      omega
    · exact ((HK1.out.trans kAll fun i hi e => by
        rcases e with e | e
        · have := HR1.out.at_ i e; omega
        · omega))
  case done =>
    rintro D ys W hD rfl ⟨⟨v, hb1, hr1⟩, hk1⟩ hK
    have hcell : W.cell? ⟨w.heap.size, 0, none⟩ = some v := blk_one hb1
    obtain ⟨A, c, rfl, hc1, hc2, hc3⟩ := hr1.slice
    have HR1 := Lib.hid hr1
    have HK1 := Lib.hid hk1
    have HKK := Lib.hid hK
    clear hr1 hk1 hb1 hK hc3 hseq hKb
    gi_wp2
    refine ⟨by simp, .inl ⟨_, _, rfl, run_takeDeferred HKK.out, ?_⟩⟩
    refine ⟨_, results_tmp2 rfl _ _ _, _, rfl, ?_, HK1.out.own (grownBy_putObj' W D _) (fun r e => by cases e; omega)⟩
    have h := (HR1.out.own_ (grownBy_putObj' W D (.deferred none)) (fun r e => by cases e; exact ⟨_, HKK.out, rfl⟩))
    have e : (blist ws).map (fun (n : Nat) => Value.int .i64 n) = ys.map fun x => Value.int .i64 x.1 := by
      have := congrArg (List.map (Value.int .i64)) HL.out
      simpa [List.map_map, Function.comp_def] using this.symm
    rw [← HLL.out, e]
    exact h.mono fun g _ hg => by omega
  case stop =>
    rintro D c pre W _ _ h _
    exact h.elim
end Go.Proofs.YtaobleahcceffaaDoor
