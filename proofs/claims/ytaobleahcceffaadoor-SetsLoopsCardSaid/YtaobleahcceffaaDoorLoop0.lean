/-
  Words for a loop over a set while it is turned: what a round leaves. Conditions: none; nothing here walks a program's text.
-/
import Derived.Test.YtaobleahcceffaaDoorJoins
set_option linter.unusedVariables false
set_option linter.unusedSimpArgs false
namespace Go.Proofs.YtaobleahcceffaaDoor
open Go.RowKit Go.Shelf

theorem BitsAt.own {S : Nat → Prop} {W W' : World} {row : Option Nat} {b : Nat} {ws : List Nat} (h : BitsAt S W b ws) (hg : W.grownBy W' row) (hr : NoCells W row) : BitsAt S W' b ws := by
  obtain ⟨sv, h1, h2, h3, h4⟩ := h
  exact ⟨sv, h1.own hg hr, h2, h3.own_ hg hr, h4⟩
/-- The blocks that a set needs. -/
theorem BitsAt.least {S : Nat → Prop} {W : World} {b : Nat} {ws : List Nat} (h : BitsAt S W b ws) :
    ∃ T : Nat → Prop, BitsAt T W b ws ∧ ∀ k, T k → S k ∧ k < W.heap.size ∧ (∀ o, W.heap[k]? = some o → o.isCells = true) ∧ (k = b ∨ RowIn W [b] k) := by
  obtain ⟨sv, h1, h2, h3, h4⟩ := h
  have hc : W.cell? ⟨b, 0, none⟩ = some sv := by simpa using h1.cell 0
  refine ⟨fun k => k = b ∨ sv.ownBlock = some k, ⟨sv, h1, .inl rfl, h3.least.mono fun _ _ h => .inr h, h4⟩, ?_⟩
  rintro k (rfl | hk)
  · refine ⟨h2, h1.lt, fun o ho => ?_, .inl rfl⟩
    unfold Blk at h1
    rw [h1] at ho; cases ho; rfl
  · refine ⟨h3.at_ k hk, h3.lt k hk, fun o ho => ?_, .inr ⟨b, by simp, by rw [hc]; exact hk⟩⟩
    rcases h3.own.2 with ⟨hv, _⟩ | ⟨g, cap, cur, hv, _, hh, _⟩
    · rw [hv] at hk; cases hk
    · rw [hv] at hk; injection hk with hk; subst hk; rw [hh] at ho; cases ho; rfl

/-- Behind some rounds of the loop: the box n5 holds what came, apart from the set. -/
def LInv (w6 : World) (n5 b lo hi kk : Nat) (pre : List Num) (W : World) : Prop :=
  ∃ (T : Nat → Prop) (v : Value) (ws' : List Nat), Blk W n5 #[v] 22 ∧ Row (fun k => w6.heap.size ≤ k ∧ ¬ T k) W 3 1 v pre.length (pre.map fun x => Value.int .i64 x.1) ∧ BitsAt T W b ws' ∧
    (∀ k, T k → (lo ≤ k ∧ k < hi) ∨ w6.heap.size ≤ k) ∧ pre.length ≤ kk ∧ Chg (fun j => j = n5 ∨ (lo ≤ j ∧ j < hi)) w6 W
theorem LInv.own {w6 : World} {n5 b lo hi kk : Nat} {pre : List Num} {W W' : World} {row : Option Nat} (h : LInv w6 n5 b lo hi kk pre W) (hg : W.grownBy W' row) (hr : NoCells W row) (hge : ∀ r, row = some r → w6.heap.size ≤ r) : LInv w6 n5 b lo hi kk pre W' := by
  obtain ⟨T, v, ws', h1, h2, h3, h4, h5, h6⟩ := h
  exact ⟨T, v, ws', h1.own hg hr, h2.own_ hg hr, h3.own hg hr, h4, h5, h6.own hg hge⟩

theorem RowIn.two {W : World} {a b k : Nat} : RowIn W [a, b] k ↔ RowIn W [a] k ∨ RowIn W [b] k := by
  unfold RowIn
  simp

/-- A step of the set within a round. -/
theorem bits_step {W W' : World} {T : Nat → Prop} {n5 b N0 : Nat} {ws' : List Nat} (hTl : ∀ k, T k → k < W.heap.size ∧ (∀ o, W.heap[k]? = some o → o.isCells = true) ∧ (k = b ∨ RowIn W [b] k)) (c : Chg T W W')
    (hb' : BitsAt (fun k => T k ∨ W.heap.size ≤ k) W' b ws') (hb : b < N0) (hn5 : ¬ T n5) (hn5l : n5 < W.heap.size) (ht : ¬ T 0) : KeepsOthers W W' ∧ Kp [n5, b] N0 W W' := by
  refine ⟨c.others fun k o hk ho => (hTl k hk).2.1 o ho, Kp.of_chg c ?_ ?_ ht⟩
  · intro j hj hT
    rcases (hTl j hT).2.2 with rfl | h
    · exact .inl hb
    · exact .inr (RowIn.two.2 (.inr h))
  · intro j hj hr
    rcases RowIn.two.1 hr with h | h
    · left
      refine RowIn.two.2 (.inl ((RowIn.of_block fun b' hb' => ?_).1 h))
      simp at hb'
      subst hb'
      exact c.block b' hn5l hn5
    · obtain ⟨b', hb1, hk⟩ := h
      simp at hb1
      subst hb1
      rcases (hb'.rowIn j hk).1 with h | h
      · rcases (hTl j h).2.2 with rfl | h
        · exact .inr hb
        · exact .inl (RowIn.two.2 (.inr h))
      · omega

theorem loop_round {w6 W w1 w3 w4 : World} {o : Obj} {n5 b lo hi kk g1 c1 c : Nat} {A : Option Addr} {T T3 : Nat → Prop} {pre : List Num} {x : Num} {ws ws3 ws4 : List Nat}
    (hb1 : Blk W n5 #[.slice A pre.length c] 22) (hr1 : Row (fun k => w6.heap.size ≤ k ∧ ¬ T k) W 3 1 (.slice A pre.length c) pre.length (pre.map fun x => Value.int .i64 x.1)) (hB : BitsAt T W b ws)
    (hT : ∀ k, T k → (lo ≤ k ∧ k < hi) ∨ w6.heap.size ≤ k) (hTl : ∀ k, T k → k < W.heap.size ∧ (∀ o, W.heap[k]? = some o → o.isCells = true) ∧ (k = b ∨ RowIn W [b] k))
    (hp : pre.length < kk) (hk : Chg (fun j => j = n5 ∨ (lo ≤ j ∧ j < hi)) w6 W) (hn6 : n5 < w6.heap.size) (hhi : hi ≤ n5) (hb6 : b < w6.heap.size) (hlo : 0 < lo) (htab : 0 < w6.heap.size)
    (hrow : Row (fun b => (Value.slice A pre.length c).ownBlock = some b ∨ (W.alloc o).heap.size ≤ b) w1 3 1 (.slice (some ⟨g1, 0, none⟩) (pre.length + 1) c1) (pre.length + 1) ((pre.map fun x => Value.int .i64 x.1) ++ [.int .i64 x.1]))
    (hchg : Chg (fun k => (Value.slice A pre.length c).ownBlock = some k) (W.alloc o) w1)
    (hB3 : BitsAt (fun k => T k ∨ (w1.setCell ⟨n5, 0, none⟩ (.slice (some ⟨g1, 0, none⟩) (pre.length + 1) c1)).heap.size ≤ k) w3 b ws3) (hc3 : Chg T (w1.setCell ⟨n5, 0, none⟩ (.slice (some ⟨g1, 0, none⟩) (pre.length + 1) c1)) w3)
    (hT3 : ∀ k, T3 k → (T k ∨ (w1.setCell ⟨n5, 0, none⟩ (.slice (some ⟨g1, 0, none⟩) (pre.length + 1) c1)).heap.size ≤ k) ∧ k < w3.heap.size ∧ (∀ o, w3.heap[k]? = some o → o.isCells = true) ∧ (k = b ∨ RowIn w3 [b] k))
    (hB4 : BitsAt T3 w4 b ws4) (hc4 : Chg T3 w3 w4) :
    KeepsOthers W w4 ∧ Kp [n5, b] w6.heap.size W w4 ∧ LInv w6 n5 b lo hi kk (pre ++ [x]) w4 := by
  have hWs : w6.heap.size ≤ W.heap.size := hk.size
  have hn5T : ¬ T n5 := fun h => by have := hT n5 h; omega
  have hbb := hT b hB.at_
  have hg1 : (Value.slice A pre.length c).ownBlock = some g1 ∨ W.heap.size < g1 := by
    have := hrow.at_ g1 rfl
    simp only [World.size_alloc] at this
    exact this
  have hs1 : W.heap.size < w1.heap.size := by have := hchg.size; simp only [World.size_alloc] at this; omega
  have hg1l : g1 < w1.heap.size := hrow.lt g1 rfl
  have hg6 : w6.heap.size ≤ g1 ∧ ¬ T g1 := by
    rcases hg1 with h | h
    · exact hr1.at_ g1 h
    · exact ⟨by omega, fun hh => by have := (hTl g1 hh).1; omega⟩
  have hbx : Blk w1 n5 #[.slice A pre.length c] 22 := (hb1.alloc o).chg hchg (fun e => by have := (hr1.at_ _ e).1; omega)
  have hb2 : Blk (w1.setCell ⟨n5, 0, none⟩ (.slice (some ⟨g1, 0, none⟩) (pre.length + 1) c1)) n5 #[.slice (some ⟨g1, 0, none⟩) (pre.length + 1) c1] 22 := by simpa using hbx.put 0 (.slice (some ⟨g1, 0, none⟩) (pre.length + 1) c1)
  have k12 : Chg (fun k => (Value.slice A pre.length c).ownBlock = some k ∨ k = n5) W (w1.setCell ⟨n5, 0, none⟩ (.slice (some ⟨g1, 0, none⟩) (pre.length + 1) c1)) :=
    (((Chg.refl _ W).alloc _).trans hchg fun i hi e => .inl e).setCell (fun _ => .inr rfl) _
  have hrow2 : Row (fun k => k = g1) (w1.setCell ⟨n5, 0, none⟩ (.slice (some ⟨g1, 0, none⟩) (pre.length + 1) c1)) 3 1 (.slice (some ⟨g1, 0, none⟩) (pre.length + 1) c1) (pre.length + 1) ((pre.map fun x => Value.int .i64 x.1) ++ [.int .i64 x.1]) :=
    ⟨ownsRow_setCell_other hrow.own (a := ⟨n5, 0, none⟩) (by simp [Value.ownBlock]; omega) _, fun g hg => by simpa [Value.ownBlock] using hg.symm⟩
  have e2 : (w1.setCell ⟨n5, 0, none⟩ (.slice (some ⟨g1, 0, none⟩) (pre.length + 1) c1)).heap.size = w1.heap.size := by simp
  generalize hw2 : w1.setCell ⟨n5, 0, none⟩ (.slice (some ⟨g1, 0, none⟩) (pre.length + 1) c1) = w2 at *
  have hs3 := hc3.size
  have hs4 := hc4.size
  -- the box's step
  have st1 : KeepsOthers W w2 ∧ Kp [n5, b] w6.heap.size W w2 := by
    refine ⟨k12.others ?_, Kp.of_chg k12 ?_ ?_ ?_⟩
    · rintro k o (hk | rfl) ho
      · rcases hr1.own.2 with ⟨hv, _⟩ | ⟨g, cap, cur, hv, _, hh, _⟩
        · rw [hv] at hk; cases hk
        · rw [hv] at hk; injection hk with hk; subst hk; rw [hh] at ho; cases ho; rfl
      · have h := hb1
        unfold Blk at h
        rw [h] at ho; cases ho; rfl
    · rintro j hj (hk | rfl)
      · exact .inr (RowIn.two.2 (.inl ⟨n5, by simp, by rw [blk_one hb1]; exact hk⟩))
      · exact .inl (by omega)
    · intro j hj hr
      rcases RowIn.two.1 hr with h | h
      · obtain ⟨b', hb', hr2⟩ := h
        simp at hb'
        subst hb'
        rw [blk_one hb2] at hr2
        have hr' : g1 = j := by simpa [Value.ownBlock] using hr2
        subst hr'
        left
        exact RowIn.two.2 (.inl ⟨b', by simp, by rw [blk_one hb1]; exact hg1.resolve_right (by omega)⟩)
      · left
        refine RowIn.two.2 (.inr ((RowIn.of_block fun b' hb' => ?_).1 h))
        simp at hb'
        subst hb'
        refine k12.block b' (by omega) ?_
        rintro (e | e)
        · exact (hr1.at_ _ e).2 hB.at_
        · exact hn5T (e ▸ hB.at_)
    · rintro (e | e)
      · have := (hr1.at_ _ e).1; omega
      · omega
  -- the set's blocks stand where they stood
  have hT2 : ∀ k, T k → w2.heap[k]? = W.heap[k]? := fun k hkT => k12.block k (hTl k hkT).1 (by
    rintro (e | e)
    · exact (hr1.at_ _ e).2 hkT
    · exact hn5T (e ▸ hkT))
  have hTl2 : ∀ k, T k → k < w2.heap.size ∧ (∀ o, w2.heap[k]? = some o → o.isCells = true) ∧ (k = b ∨ RowIn w2 [b] k) := fun k hk => by
    obtain ⟨q1, q2, q3⟩ := hTl k hk
    refine ⟨by omega, fun o ho => q2 o (by rw [← hT2 k hk]; exact ho), q3.imp id fun h => (RowIn.of_block fun b' hb' => ?_).2 h⟩
    simp at hb'
    subst hb'
    exact hT2 b' hB.at_
  have htT : ¬ T 0 := fun h => by have := hT _ h; omega
  have st2 := bits_step (n5 := n5) (N0 := w6.heap.size) hTl2 hc3 hB3 hb6 hn5T (by omega) htT
  have hn53 : ¬ T3 n5 := fun h => (hT3 n5 h).1.elim hn5T (fun h => by omega)
  have st3 := bits_step (n5 := n5) (N0 := w6.heap.size) (fun k h => (hT3 k h).2) hc4 (hB4.mono fun _ _ h => .inl h) hb6 hn53 (by omega) (fun h => (hT3 _ h).1.elim htT (fun h => by omega))
  have hg3 : ¬ T3 g1 := fun h => (hT3 g1 h).1.elim hg6.2 (fun h => by omega)
  refine ⟨(st1.1.trans st2.1).trans st3.1, (st1.2.trans st2.2).trans st3.2, T3, _, ws4, (hb2.chg hc3 hn5T).chg hc4 hn53, ?_, hB4, ?_, by simp; omega, ?_⟩
  · rw [List.length_append, List.map_append]
    exact ((hrow2.chg hc3 (fun g _ e => by subst e; exact hg6.2)).chg hc4 (fun g _ e => by subst e; exact hg3)).mono fun g _ e => by subst e; exact ⟨hg6.1, hg3⟩
  · intro k h
    rcases (hT3 k h).1 with h | h
    · exact hT k h
    · exact .inr (by omega)
  · refine ((hk.trans k12 fun i hi e => ?_).trans hc3 fun i hi e => ?_).trans hc4 fun i hi e => ?_
    · rcases e with e | e
      · have := (hr1.at_ _ e).1; omega
      · exact .inl e
    · rcases hT i e with h | h
      · exact .inr h
      · omega
    · rcases (hT3 i e).1 with h | h
      · rcases hT i h with h | h
        · exact .inr h
        · omega
      · omega

theorem body_step {W w1 : World} {o : Obj} {n5 p5 b B n c : Nat} {A : Option Addr} {T : Nat → Prop} {xs : List Value} {ws : List Nat} (hb1 : Blk W n5 #[.slice A n c] 22) (hr1 : Row (fun k => B ≤ k ∧ ¬ T k) W 3 1 (.slice A n c) n xs) (hB : BitsAt T W b ws)
    (hP : Blk W p5 #[.pointer (some ⟨b, 0, none⟩)] 23) (hpn : p5 ≠ n5) (hpB : p5 < B) (hnB : n5 < B) (hnT : ¬ T n5) (hchg : Chg (fun k => (Value.slice A n c).ownBlock = some k) (W.alloc o) w1) :
    w1.cell? ⟨n5, 0, none⟩ = some (.slice A n c) ∧ w1.frozen? ⟨n5, 0, none⟩ = false ∧ ∀ u, (w1.setCell ⟨n5, 0, none⟩ u).cell? ⟨p5, 0, none⟩ = some (.pointer (some ⟨b, 0, none⟩)) ∧ BitsAt T (w1.setCell ⟨n5, 0, none⟩ u) b ws := by
  have h := (hb1.alloc o).chg hchg (fun e => by have := (hr1.at_ _ e).1; omega)
  have hp := (hP.alloc o).chg hchg (fun e => by have := (hr1.at_ _ e).1; omega)
  have hb := (hB.chg (S' := fun _ => False) ((Chg.refl _ W).alloc o) (fun _ _ _ h => h)).chg hchg (fun g _ hg e => (hr1.at_ _ e).2 hg)
  refine ⟨blk_one h, h.free 0, fun u => ⟨?_, ?_⟩⟩
  · exact blk_one (hp.other (p := ⟨n5, 0, none⟩) (Ne.symm hpn) u)
  · exact hb.chg (S' := fun k => k = n5) ((Chg.refl (fun k => k = n5) w1).setCell (p := ⟨n5, 0, none⟩) (fun _ => rfl) u) (fun g _ hg e => hnT (e ▸ hg))
theorem Tryd.put_round {T : Nat → Prop} {b p5 : Nat} {ws : List Nat} (n : Int) (h0 : -9223372036854775808 ≤ n) (h1 : n ≤ 9223372036854775807) (hp : ¬ T p5) (w2 : World) (hb : BitsAt T w2 b ws) (hc : w2.cell? ⟨p5, 0, none⟩ = some (.pointer (some ⟨b, 0, none⟩))) :
    Calls Tryd.prog 10 #[.pointer (some ⟨b, 0, none⟩), .int .i64 n] w2 fun e w3 => ∃ (q : Bool) (T3 : Nat → Prop) (ws3 : List Nat), e = .returned (.bool q) ∧ BitsAt (fun k => T k ∨ w2.heap.size ≤ k) w3 b ws3 ∧ Chg T w2 w3 ∧ w3.cell? ⟨p5, 0, none⟩ = some (.pointer (some ⟨b, 0, none⟩)) ∧ BitsAt T3 w3 b ws3 ∧
      ∀ k, T3 k → (T k ∨ w2.heap.size ≤ k) ∧ k < w3.heap.size ∧ (∀ o, w3.heap[k]? = some o → o.isCells = true) ∧ (k = b ∨ RowIn w3 [b] k) := by
  refine (Tryd.put_calls hb n h0 h1).mono ?_
  rintro e w3 ⟨rfl, hb3, hk3⟩
  obtain ⟨T3, q1, q2⟩ := hb3.least
  exact ⟨_, T3, _, rfl, hb3, hk3, chg_cell hk3 hp hc, q1, q2⟩

/-- A range over a function that may be left by a break: what follows is shown once. -/
theorem range_both (bk : Nat) {α : Type} {P : Program} {g : Operand} {ps : Array Tmp} {assign body : Code} {Q : Exit → Act → World → Prop} {a : Act} {w : World} {gf : Nat} {lb : Array Value} (hg : a.eval g = .func (.func gf) #[] lb) (hFg : Fence.wide.fn gf) (eg : ∀ args w, (callFunc gf args).run P w = .ok (.enter gf args) w)
    {encs : α → Array Value} {Kp : World → World → Prop} {L : List α} (hseq : SeqStopsK Fence.wide (9 - 1) P gf lb encs Kp (fun ys => ys = L) (fun pre => pre <+: L) L.length w)
    (hKt : ∀ {A B C : World}, Kp A B → Kp B C → Kp A C) (hKb : ∀ (W : World) (l : Nat) (o o' : Obj), w.heap.size ≤ l → W.heap[l]? = some o → o.isCells = false → o.isWalk = false → Kp W (W.putObj l o')) (hps : ∀ x, (encs x).size = ps.size)
    (I : List α → World → Prop) (k : Nat) (hI : OwnFrom w.heap.size I) (hIk : ∀ pre W, I pre W → pre.length ≤ k) (h0 : I [] w) (a₁ : α → Act)
    (hassign : ∀ (l : Nat) (x : α) (W : World) (K : Act → World → Prop), K (a₁ x) W →
      assign.wpIn (Fence.wide.inRound l) (9 - 1 - 1) P (Exit.then K (fun _ _ _ => False)) { tmps := (ps.zip (encs x)).foldl (fun t (p, v) => t.setIfInBounds p v) a.tmps, defers := [] } W)
    (hbody : ∀ (l : Nat) (pre : List α) (x : α) (W : World), I pre W → pre.length < L.length → body.wpIn (Fence.wide.inRound l) (9 - 1 - 1) P (ownPostK Kp I (fun c xs W => c = .exit bk ∧ ∃ pre x, xs = pre ++ [x] ∧ pre.length = k ∧ I pre W) (pre ++ [x]) W) (a₁ x) W)
    (hR : ∀ (D : Nat) (W : World), w.heap.size ≤ D → I (L.take k) W → W.heap[D]? = some (.deferred (some [])) → Q .normal { a with defers := { target := .collected D, args := #[] } :: a.defers } W) :
    (Code.rangeFunc g ps assign body).wpIn Fence.wide 9 P (Exit.inBlock bk Q) a w := by
  refine wpIn_rangeFunc_ownF rfl (by omega) hg hFg eg hseq hKt hKb (Below.refl _ _) hps I _ hI (fun c xs A B row hs hg hr => ?_) h0 a₁ hassign hbody ?_ ?_
  · obtain ⟨h1, pre, x, h2, h3, h4⟩ := hs
    exact ⟨h1, pre, x, h2, h3, hI pre A B row h4 hg hr⟩
  · rintro D ys W hD rfl hs hK
    refine hR D W hD ?_ hK
    rw [List.take_of_length_le (hIk ys W hs)]
    exact hs
  · rintro D c pre W hD hpre ⟨rfl, pre0, x, rfl, hk, hs⟩ hK
    have e : L.take k = pre0 := by
      obtain ⟨t, rfl⟩ := hpre
      rw [List.append_assoc, List.take_append_of_le_length (by omega), List.take_of_length_le (by omega)]
    refine wpIn_exit ?_
    simp only [Exit.inBlock, if_true]
    exact hR D W hD (by rw [e]; exact hs) hK

/-- Behind some rounds of a loop that only gathers. -/
def LInv2 (w6 : World) (n5 kk : Nat) (pre : List Num) (W : World) : Prop :=
  ∃ v : Value, Blk W n5 #[v] 22 ∧ Row (fun k => w6.heap.size ≤ k) W 3 1 v pre.length (pre.map fun x => Value.int .i64 x.1) ∧ pre.length ≤ kk ∧ Chg (fun j => j = n5) w6 W
theorem LInv2.own {w6 : World} {n5 kk : Nat} {pre : List Num} {W W' : World} {row : Option Nat} (h : LInv2 w6 n5 kk pre W) (hg : W.grownBy W' row) (hr : NoCells W row) (hge : ∀ r, row = some r → w6.heap.size ≤ r) : LInv2 w6 n5 kk pre W' := by
  obtain ⟨v, h1, h2, h5, h6⟩ := h
  exact ⟨v, h1.own hg hr, h2.own_ hg hr, h5, h6.own hg hge⟩
theorem loop_round2 {w6 W w1 : World} {o : Obj} {n5 kk g1 c1 c : Nat} {A : Option Addr} {pre : List Num} {x : Num}
    (hb1 : Blk W n5 #[.slice A pre.length c] 22) (hr1 : Row (fun k => w6.heap.size ≤ k) W 3 1 (.slice A pre.length c) pre.length (pre.map fun x => Value.int .i64 x.1))
    (hp : pre.length < kk) (hk : Chg (fun j => j = n5) w6 W) (hn6 : n5 < w6.heap.size) (hlo : 0 < n5)
    (hrow : Row (fun b => (Value.slice A pre.length c).ownBlock = some b ∨ (W.alloc o).heap.size ≤ b) w1 3 1 (.slice (some ⟨g1, 0, none⟩) (pre.length + 1) c1) (pre.length + 1) ((pre.map fun x => Value.int .i64 x.1) ++ [.int .i64 x.1]))
    (hchg : Chg (fun k => (Value.slice A pre.length c).ownBlock = some k) (W.alloc o) w1) :
    KeepsOthers W (w1.setCell ⟨n5, 0, none⟩ (.slice (some ⟨g1, 0, none⟩) (pre.length + 1) c1)) ∧ Kp [n5] w6.heap.size W (w1.setCell ⟨n5, 0, none⟩ (.slice (some ⟨g1, 0, none⟩) (pre.length + 1) c1)) ∧ LInv2 w6 n5 kk (pre ++ [x]) (w1.setCell ⟨n5, 0, none⟩ (.slice (some ⟨g1, 0, none⟩) (pre.length + 1) c1)) := by
  have hWs : w6.heap.size ≤ W.heap.size := hk.size
  have hg1 : (Value.slice A pre.length c).ownBlock = some g1 ∨ W.heap.size < g1 := by
    have := hrow.at_ g1 rfl
    simp only [World.size_alloc] at this
    exact this
  have hg6 : w6.heap.size ≤ g1 := by
    rcases hg1 with h | h
    · exact hr1.at_ g1 h
    · omega
  have hbx : Blk w1 n5 #[.slice A pre.length c] 22 := (hb1.alloc o).chg hchg (fun e => by have := hr1.at_ _ e; omega)
  have hb2 : Blk (w1.setCell ⟨n5, 0, none⟩ (.slice (some ⟨g1, 0, none⟩) (pre.length + 1) c1)) n5 #[.slice (some ⟨g1, 0, none⟩) (pre.length + 1) c1] 22 := by simpa using hbx.put 0 (.slice (some ⟨g1, 0, none⟩) (pre.length + 1) c1)
  have k12 : Chg (fun k => (Value.slice A pre.length c).ownBlock = some k ∨ k = n5) W (w1.setCell ⟨n5, 0, none⟩ (.slice (some ⟨g1, 0, none⟩) (pre.length + 1) c1)) :=
    (((Chg.refl _ W).alloc _).trans hchg fun i hi e => .inl e).setCell (fun _ => .inr rfl) _
  have hrow2 := ownsRow_setCell_other hrow.own (a := ⟨n5, 0, none⟩) (by simp [Value.ownBlock]; omega) (.slice (some ⟨g1, 0, none⟩) (pre.length + 1) c1)
  generalize w1.setCell ⟨n5, 0, none⟩ (.slice (some ⟨g1, 0, none⟩) (pre.length + 1) c1) = w2 at *
  refine ⟨k12.others ?_, Kp.of_chg k12 ?_ ?_ ?_, _, hb2, ?_, by simp; omega, hk.trans k12 fun i hi e => ?_⟩
  · rintro k o (hk | rfl) ho
    · rcases hr1.own.2 with ⟨hv, _⟩ | ⟨g, cap, cur, hv, _, hh, _⟩
      · rw [hv] at hk; cases hk
      · rw [hv] at hk; injection hk with hk; subst hk; rw [hh] at ho; cases ho; rfl
    · have h := hb1
      unfold Blk at h
      rw [h] at ho; cases ho; rfl
  · rintro j hj (hk | rfl)
    · exact .inr ⟨n5, by simp, by rw [blk_one hb1]; exact hk⟩
    · exact .inl (by omega)
  · rintro j hj ⟨b', hb', hr2⟩
    simp at hb'
    subst hb'
    rw [blk_one hb2] at hr2
    have hr' : g1 = j := by simpa [Value.ownBlock] using hr2
    subst hr'
    left
    exact ⟨b', by simp, by rw [blk_one hb1]; exact hg1.resolve_right (by omega)⟩
  · rintro (e | e)
    · have := hr1.at_ _ e; omega
    · omega
  · rw [List.length_append, List.map_append]
    exact ⟨hrow2, fun g hg => by have : g1 = g := by simpa [Value.ownBlock] using hg
                                 omega⟩
  · rcases e with e | e
    · have := hr1.at_ _ e; omega
    · exact e
end Go.Proofs.YtaobleahcceffaaDoor
