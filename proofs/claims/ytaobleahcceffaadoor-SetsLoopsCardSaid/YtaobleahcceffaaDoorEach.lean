/-
  Each's loop: the contract of the iterator that Each hands out, for every loop body that leaves the copied words alone. Conditions: a set that there is; the de Bruijn table as its initialiser lays it.
-/
import Derived.Test.YtaobleahcceffaaDoorDoor1
import Derived.Test.YtaobleahcceffaaDoorRange
set_option linter.unusedVariables false
set_option linter.unusedSimpArgs false
namespace Go.Proofs.YtaobleahcceffaaDoor
open Go.RowKit Go.Shelf
attribute [local go_sem] Oper.semAt_some

/-- A number that may be in a set. -/
abbrev Num := { x : Int // 0 ≤ x ∧ x < 65536 }

/-- The row whose slice stands in the first cell of one of these blocks. -/
def RowIn (W : World) (bs : List Nat) (k : Nat) : Prop := ∃ b ∈ bs, (W.cell? ⟨b, 0, none⟩).bind Value.ownBlock = some k
theorem RowIn.of_block {W W' : World} {bs : List Nat} {k : Nat} (h : ∀ b ∈ bs, W'.heap[b]? = W.heap[b]?) : RowIn W' bs k ↔ RowIn W bs k := by
  have e : ∀ b ∈ bs, W'.cell? ⟨b, 0, none⟩ = W.cell? ⟨b, 0, none⟩ := fun b hb => World.cell?_of_block (w := W) (a := ⟨b, 0, none⟩) (h b hb)
  constructor
  · rintro ⟨b, hb, hk⟩; exact ⟨b, hb, by rw [← e b hb]; exact hk⟩
  · rintro ⟨b, hb, hk⟩; exact ⟨b, hb, by rw [e b hb]; exact hk⟩

/-- What a round keeps: from N0 on all cells but the rows of its own (whose slices stand in the blocks bs); its rows are the old ones or new; the table. -/
structure Kp (bs : List Nat) (N0 : Nat) (W W' : World) : Prop where
  size : W.heap.size ≤ W'.heap.size
  block : ∀ k, N0 ≤ k → ¬ RowIn W bs k → ∀ o, W.heap[k]? = some o → o.isCells = true → W'.heap[k]? = some o
  row : ∀ k, k < W.heap.size → RowIn W' bs k → RowIn W bs k ∨ k < N0
  tab : Tab W → Tab W'
theorem Kp.trans {bs : List Nat} {N0 : Nat} {A B C : World} (h : Kp bs N0 A B) (k : Kp bs N0 B C) : Kp bs N0 A C := by
  have hlt : ∀ {W : World} {j : Nat} {o : Obj}, W.heap[j]? = some o → j < W.heap.size := fun h => (Array.getElem?_eq_some_iff.1 h).1
  refine ⟨Nat.le_trans h.size k.size, fun j hj hr o ho hc => ?_, fun j hj hr => ?_, fun t => k.tab (h.tab t)⟩
  · have h1 := h.block j hj hr o ho hc
    refine k.block j hj (fun e => ?_) o h1 hc
    rcases h.row j (hlt ho) e with h2 | h2
    · exact hr h2
    · omega
  · rcases k.row j (Nat.lt_of_lt_of_le hj h.size) hr with h1 | h1
    · exact h.row j hj h1
    · exact .inr h1
theorem Kp.putObj {bs : List Nat} {N0 : Nat} (hb : ∀ b ∈ bs, b < N0) (h0 : 0 < N0) (W : World) (l : Nat) (o o' : Obj) (hl : N0 ≤ l) (ho : W.heap[l]? = some o) (hc : o.isCells = false) : Kp bs N0 W (W.putObj l o') := by
  refine ⟨by simp, fun k hk _ o1 h1 hc1 => ?_, fun k _ hr => ?_, fun t j hj => ?_⟩
  · have : k ≠ l := fun e => by subst e; rw [ho] at h1; cases h1; rw [hc] at hc1; cases hc1
    exact (World.putObj_heap_other this).trans h1
  · exact .inl ((RowIn.of_block fun b hbs => World.putObj_heap_other (by have := hb b hbs; omega)).1 hr)
  · exact (World.cell?_of_block (w := W) (a := ⟨0, j, none⟩) (World.putObj_heap_other (show 0 ≠ l by omega))).trans (t j hj)
/-- What is written lies below N0, or is a row of the round's own; its rows are the old ones or new. -/
theorem Kp.of_chg {bs : List Nat} {N0 : Nat} {S : Nat → Prop} {W W' : World} (k : Chg S W W') (hS : ∀ j, j < W.heap.size → S j → j < N0 ∨ RowIn W bs j) (hr : ∀ j, j < W.heap.size → RowIn W' bs j → RowIn W bs j ∨ j < N0) (ht : ¬ S 0) : Kp bs N0 W W' := by
  refine ⟨k.size, fun j hj hn o ho hc => ?_, hr, fun t => t.chg k ht⟩
  have hlt : j < W.heap.size := (Array.getElem?_eq_some_iff.1 ho).1
  refine (k.block j hlt fun hs => ?_).trans ho
  rcases hS j hlt hs with h | h
  · omega
  · exact hn h
theorem BitsAt.rowIn {S : Nat → Prop} {w : World} {b : Nat} {ws : List Nat} (h : BitsAt S w b ws) : ∀ k, (w.cell? ⟨b, 0, none⟩).bind Value.ownBlock = some k → S k ∧ k < w.heap.size := by
  obtain ⟨sv, h1, h2, h3, h4⟩ := h
  intro k hk
  have hc : w.cell? ⟨b, 0, none⟩ = some sv := by simpa using h1.cell 0
  rw [hc] at hk
  exact ⟨h3.at_ k hk, h3.lt k hk⟩

theorem Tryd.each_in (n : Nat) (p : Option Addr) (w : World) :
    CallsIn Fence.wide n Tryd.prog 20 #[.pointer p] w fun e w' => e = .returned (.func (.func 35) #[] #[.pointer (some ⟨w.heap.size, 0, none⟩)]) ∧ w' = w.alloc (.cells #[.pointer p] 23) := by
  refine callsIn_wide.2 ?_
  go_enter Tryd.func20, Tryd.ntmps20
  go_wp2
  go_ret
  exact ⟨rfl, rfl⟩

/-- The set's numbers as the loop is handed them. -/
def Comes (L : List Num) (ns : List Nat) : Prop := L.map (·.1) = ns.map fun (n : Nat) => (n : Int)
theorem Comes.cons {L : List Num} {m : Nat} {ns : List Nat} (h : Comes L (m :: ns)) : ∃ x L', L = x :: L' ∧ x.1 = (m : Int) ∧ Comes L' ns := by
  cases L with
  | nil => simp [Comes] at h
  | cons x L => simp [Comes] at h; exact ⟨x, L, rfl, h.1, h.2⟩
theorem Comes.nil {L : List Num} (h : Comes L []) : L = [] := List.map_eq_nil_iff.1 h
theorem comes_blist {ws : List Nat} (h : BOk ws) : ∃ L, Comes L (blist ws) := by
  have : ∀ ns : List Nat, (∀ n ∈ ns, n < 65536) → ∃ L, Comes L ns := by
    intro ns
    induction ns with
    | nil => exact fun _ => ⟨[], rfl⟩
    | cons n ns ih =>
      intro hn
      obtain ⟨L, hL⟩ := ih fun m hm => hn m (by simp [hm])
      exact ⟨⟨(n : Int), by omega, by have := hn n (by simp); omega⟩ :: L, by simpa [Comes] using hL⟩
  exact this _ fun n hn => h.below (mem_blist.1 hn)

theorem word_next (y : Nat) (hy : y < 18446744073709551616) (h0 : y ≠ 0) : bits BinOp.and IntKind.u64 (y : Int) (IntKind.u64.wrap ((y : Int) - 1)) = ((y &&& (y - 1) : Nat) : Int) := by
  rw [show (y : Int) - 1 = ((y - 1 : Nat) : Int) by omega, wrap_nat (by omega)]
  exact u64_and_nat y (y - 1) hy (by omega)

theorem Row.kp {T : Nat → Prop} {bs : List Nat} {N0 : Nat} {w w' : World} {e : TypeId} {g n c : Nat} {xs : List Value} (h : Row T w e 1 (.slice (some ⟨g, 0, none⟩) n c) n xs) (k : Kp bs N0 w w') (hg : N0 ≤ g) (hne : ¬ RowIn w bs g) : Row T w' e 1 (.slice (some ⟨g, 0, none⟩) n c) n xs := by
  refine ⟨⟨h.own.1, ?_⟩, h.at_⟩
  rcases h.own.2 with h2 | ⟨g', cap, cur, he, hb, hh, r⟩
  · exact .inl h2
  · have : g = g' := by injection he with he; injection he with he; injection he
    subst this
    exact .inr ⟨g, cap, cur, he, hb, k.block g hg hne _ hh rfl, r⟩

set_option maxRecDepth 100000 in
set_option maxHeartbeats 2000000 in
/-- Each's closure, for every loop body that keeps its word. -/
theorem Tryd.each1_in (n l Bn b N0 : Nat) (bs : List Nat) (ws : List Nat) (L : List Num) (hL : Comes L (blist ws)) (J Jx : List Num → World → Prop) {S : Nat → Prop}
    (W : World) (hJ : AbidesFrom W.heap.size J) (hJx : AbidesFrom W.heap.size Jx)
    (hY : ∀ pre x W1, J pre W1 → pre.length < L.length → YieldAt Fence.wide (n - 1) Tryd.prog l #[.int .i64 x.1] W1 fun e W' =>
      (e = .returned (.bool true) ∧ J (pre ++ [x]) W' ∧ Kp bs N0 W1 W') ∨ (e = .returned (.bool false) ∧ Jx (pre ++ [x]) W'))
    (hN : N0 ≤ W.heap.size) (hbs : ∀ b ∈ bs, b < N0) (hRI : ∀ k, RowIn W bs k → k < W.heap.size) (hBn : W.cell? ⟨Bn, 0, none⟩ = some (.pointer (some ⟨b, 0, none⟩))) (hb : BitsAt S W b ws) (hT : Tab W) (h0 : J [] W) :
    CallsIn Fence.wide n Tryd.prog 35 #[.func (.yield l) #[] #[], .pointer (some ⟨Bn, 0, none⟩)] W fun e W' => (∃ v, e = .returned v) ∧
      ((∃ ys, ys = L ∧ J ys W') ∨ (∃ pre, pre <+: L ∧ Jx pre W')) := by
  obtain ⟨sv, q1, q2, q3, q4⟩ := hb
  have hc : W.cell? ⟨b, 0, none⟩ = some sv := by simpa using q1.cell 0
  have hcs := q3.cells (fun u hu => by simp only [List.mem_map] at hu; obtain ⟨x, _, rfl⟩ := hu; rfl)
  have HCL := Lib.hid (Tryd.cloneU64c_calls W sv _ _ hcs (by have := q4.len; omega))
  refine callsIn_of_wp Tryd.func35 rfl trivial ?_ rfl
  simp only [Tryd.ntmps35, List.size_toArray, List.length_cons, List.length_nil, Nat.reduceAdd, Nat.reduceSub, Array.replicate_succ, Array.replicate_zero, List.push_toArray, List.append_toArray, List.nil_append, List.cons_append]
  gi_wp2_with (first | (refine ⟨trivial, fun h => (by cases h), ?_⟩; gi_at_call 30; refine (callsIn_wide.2 (Tryd.words_calls _ _ _ hc)).mono ?_; rintro e w' ⟨rfl, rfl⟩) | (refine ⟨trivial, fun h => (by cases h), ?_⟩; gi_at_call 36; refine (callsIn_wide.2 HCL.out).mono ?_; rintro e w1 ⟨v1, rfl, hrow, hk⟩; obtain ⟨A1, c1, rfl, hc1, hc2, hc3⟩ := hrow.slice; have HROW := Lib.hid hrow; have HKP := Lib.hid hk; clear hrow hk))
  have HRO := Lib.hid (show ∀ k, RowIn w1 bs k → k < W.heap.size from fun k hk => hRI k ((RowIn.of_block fun b hb => HKP.out.block b (by have := hbs b hb; omega) id).1 hk))
  have HJ1 := Lib.hid (show J [] w1 from hJ [] W w1 none h0 ⟨HKP.out.os, HKP.out.tape, HKP.out.output, HKP.out.size, fun k hk _ => HKP.out.block k hk id⟩ (fun r e => by cases e))
  have HT1 := Lib.hid (hT.chg HKP.out id)
  have HL := Lib.hid hL
  have HQ := Lib.hid q4
  have hlen := q4.len
  have hsz := HKP.out.size
  clear hRI hbs q1 q2 q3 q4 hT h0 hL hc hcs hBn hJ hJx HCL HKP hc3
  have HY := Lib.hid hY
  clear hY
  gi_loopw [9] (fun i wr => ∃ (j : Nat) (pre rest : List Num), j ≤ ws.length ∧ i = .int .i64 j ∧ L = pre ++ rest ∧ Comes rest (bfrom ws j) ∧ J pre wr ∧ Tab wr ∧ Row (fun k => W.heap.size ≤ k) wr 54 1 (.slice A1 ws.length c1) ws.length (ws.map fun (x : Nat) => Value.int .u64 x) ∧ (∀ k, RowIn wr bs k → A1.map (·.block) ≠ some k)) (fun i _ => ws.length - (intOf i).toNat)
  case atStart => exact ⟨0, [], L, Nat.zero_le _, rfl, rfl, by rw [bfrom_zero]; exact HL.out, HJ1.out, HT1.out, HROW.out, fun k hk e => by
    have h1 := HRO.out k hk
    cases A1 with
    | none => cases e
    | some a => have := HROW.out.at_ a.block rfl; simp at e; omega⟩
  case round =>
    obtain ⟨j, pre, rest, hj, rfl, hpre, hcm, hJs, hTs, hrow, hne⟩ := hrel
    by_cases hlt : j < ws.length
    · obtain ⟨g, c', he, _, _, hg, hgl, hcs, _⟩ := hrow.form (by omega)
      obtain ⟨rfl, rfl⟩ : A1 = some ⟨g, 0, none⟩ ∧ c1 = c' := by injection he with a1 _ a2; exact ⟨a1, a2⟩
      have hcell : wr.cell? ⟨g, j, none⟩ = some (.int .u64 (bword ws j)) := hcs j _ (words_cell ws j hlt)
      have hx := HQ.out.small j
      have HC0 := Lib.hid (show Comes rest ((wbits (bword ws j)).map (64 * j + ·) ++ bfrom ws (j + 1)) by rw [← bfrom_step hlt]; exact hcm)
      generalize bword ws j = x at hcell hx HC0
      have HP := Lib.hid hpre
      have HR := Lib.hid hrow
      have HN := Lib.hid hne
      have HTS := Lib.hid hTs
      have HJS := Lib.hid hJs
      clear hcm he hcs hpre hrow hne hTs hJs
      gi_wp2_with fail
      gi_loopw [4] (fun v wr => ∃ (y : Nat) (pre rest : List Num), v = .int .u64 y ∧ y < 18446744073709551616 ∧ L = pre ++ rest ∧ Comes rest ((wbits y).map (64 * j + ·) ++ bfrom ws (j + 1)) ∧ J pre wr ∧ Tab wr ∧ Row (fun k => W.heap.size ≤ k) wr 54 1 (.slice (some ⟨g, 0, none⟩) ws.length c1) ws.length (ws.map fun (x : Nat) => Value.int .u64 x) ∧ (∀ k, RowIn wr bs k → some g ≠ some k)) (fun v _ => (intOf v).toNat)
      case atStart => exact ⟨x, pre, rest, rfl, hx, HP.out, HC0.out, HJS.out, HTS.out, HR.out, fun k hk => by simpa using HN.out k hk⟩
      case round =>
        obtain ⟨y, pre, rest, rfl, hy64, hpre, hcm, hJs, hTs, hrow, hne⟩ := hrel
        have HP := Lib.hid hpre
        have HR := Lib.hid hrow
        have HN := Lib.hid hne
        have HTS := Lib.hid hTs
        have HJS := Lib.hid hJs
        by_cases hy0 : y = 0
        · subst hy0
          have HC := Lib.hid hcm
          clear hpre hrow hne hTs hJs hcm
          gi_wp2_with fail
          go_roundw
          case rel => exact ⟨j + 1, pre, rest, by omega, by go_num, HP.out, by simpa [wbits_zero] using HC.out, HJS.out, HTS.out, HR.out, fun k hk => by simpa using HN.out k hk⟩
          case measure => simp [intOf]; omega
        · have hcons := wbits_cons hy0 hy64
          obtain ⟨_, _, hk64⟩ := ctz_form hy0 hy64
          have hlt' : y &&& (y - 1) < y := by have := Nat.and_le_right (n := y) (m := y - 1); omega
          have HW := Lib.hid (word_next y hy64 hy0)
          have HZ := Lib.hid (Tryd.tz_calls y wr hy64 hy0 hTs)
          rw [hcons] at hcm
          obtain ⟨⟨xv, hx0, hx1⟩, rest', rfl, hxv, hcm'⟩ := Comes.cons hcm
          generalize Lib.ctz 64 y = k at hxv hk64 HZ
          generalize hY1 : y &&& (y - 1) = y1 at hcm' hlt' HW
          have hxv' : xv = 64 * (j : Int) + k := by simpa using hxv
          subst hxv'
          obtain ⟨fn, tmps, assign, body, hyy, hR⟩ := HY.out pre ⟨64 * (j : Int) + k, hx0, hx1⟩ wr hJs (by rw [hpre]; simp)
          have HRR := Lib.hid hR
          have HC := Lib.hid hcm'
          clear hR hcm hcm' hcons hpre hrow hne hTs hJs hxv hY1
          have h0y : (0 : Int) ≤ y := Int.natCast_nonneg _
          have h1y : (y : Int) < 18446744073709551616 := by omega
          have hny : ((y : Int) != 0) = true := by simpa using hy0
          have HLT := Lib.hid (show y1 < y from hlt')
          have HYY := Lib.hid (show y1 < 18446744073709551616 by omega)
          generalize hyv : (y : Int) = yv at HW HZ h0y h1y hny ⊢
          have HV := Lib.hid hyv
          clear hy64 hlt' hy0 hyv
          gi_wp2_with (refine ⟨trivial, fun h => (by cases h), ?_⟩; gi_at_call 37; refine (callsIn_wide.2 HZ.out).mono ?_; rintro e w' ⟨rfl, rfl⟩)
          refine ⟨fun h => (by cases h), ?_⟩
          refine HRR.out.mono ?_
          rintro e W3 (⟨rfl, hJ3, hk3⟩ | ⟨rfl, hJx3⟩)
          · have HJ3 := Lib.hid hJ3
            have HK3 := Lib.hid hk3
            clear hJ3 hk3
            gi_wp2
            go_roundw
            case rel =>
              refine ⟨y1, _, rest', ?_, HYY.out, ?_, HC.out, HJ3.out, HK3.out.tab HTS.out, ?_, ?_⟩
              · rw [HW.out]
              · rw [HP.out, List.append_assoc]; rfl
              · exact HR.out.kp HK3.out (Nat.le_trans hN hg) (fun e => HN.out g e rfl)
              · intro k hk e
                injection e with e
                subst e
                rcases HK3.out.row g (HR.out.lt g rfl) hk with h | h
                · exact HN.out g h rfl
                · omega
            case measure => simp only [intOf, List.getD_eq_getElem?_getD, Array.getD_eq_getD_getElem?]; simp [intOf, HW.out]; have := HLT.out; have := HV.out; omega
          · gi_wp2
            refine bodyPost_ret (results_none rfl _ _ _) rfl ?_
            exact ⟨⟨_, rfl⟩, .inr ⟨pre ++ [⟨64 * (j : Int) + k, hx0, hx1⟩], ⟨rest', by rw [HP.out, List.append_assoc]; rfl⟩, hJx3⟩⟩
    · obtain rfl : j = ws.length := by omega
      have HP := Lib.hid hpre
      rw [bfrom_end (Nat.le_refl _)] at hcm
      have HC := Lib.hid (Comes.nil hcm)
      clear hcm hpre
      gi_wp2
      go_end0
      refine ⟨⟨_, rfl⟩, .inl ⟨L, rfl, ?_⟩⟩
      rw [HP.out, HC.out, List.append_nil]
      exact hJs
end Go.Proofs.YtaobleahcceffaaDoor
