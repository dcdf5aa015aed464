/-
  The walks of package sets' queue of numbers: Push, Pop, Len, as far as the document's example goes. Conditions: a queue that there is, its map's entries known.
-/
import Derived.Test.YtaobleahcceffaaDoorSets3
import Derived.Test.YtaobleahcceffaaDoorRefL
import Derived.MapKept
set_option linter.unusedVariables false
set_option linter.unusedSimpArgs false
namespace Go.Proofs.YtaobleahcceffaaDoor
open Go.RowKit

/-- Block r turned. -/
def setBlk (w : World) (r : Nat) (o : Obj) : World := { w with heap := w.heap.setIfInBounds r o }
theorem setBlk_same {w : World} {r : Nat} (o : Obj) (h : r < w.heap.size) : (setBlk w r o).heap[r]? = some o := by simp [setBlk, h]
theorem setBlk_other {w : World} {r k : Nat} (o : Obj) (h : r ≠ k) : (setBlk w r o).heap[k]? = w.heap[k]? := by simp [setBlk, Array.getElem?_setIfInBounds, h]
theorem setBlk_size {w : World} {r : Nat} (o : Obj) : (setBlk w r o).heap.size = w.heap.size := by simp [setBlk]
theorem Chg.setBlk {S : Nat → Prop} {a w : World} (h : Chg S a w) {r : Nat} (hr : r < a.heap.size → S r) (o : Obj) : Chg S a (Go.Proofs.YtaobleahcceffaaDoor.setBlk w r o) :=
  ⟨h.os, h.tape, h.output, by rw [setBlk_size]; exact h.size, fun k hk hn => (setBlk_other o (fun e => hn (by subst e; exact hr hk))).trans (h.block k hk hn)⟩

section
variable {P : Program} {t k e : TypeId}
theorem run_lookup_i64 (ht : P.underlying t = some (.map k e)) (hk : P.underlying k = some (.int .i64)) (r : Nat) (es : Array MapEntry) (ck i : Nat) (x : Int) (v : Value) (hf : Instr.findNow (.int .i64) (.int .i64 x) es.toList 0 = some (some (i, v))) (w : World) (h : w.heap[r]? = some (.map es ck)) :
    (Instr.lookup t (.map (some r)) (.int .i64 x) false).run P w = .ok v w := by
  have hc : ∀ b, (Instr.checkKey b 10000 k (.int .i64 x)).run P w = .ok () w := fun b => MapKept.run_checkKey (d := .int .i64) (k := .int .i64 x) hk rfl b 9999
  simp [Instr.lookup, run_underlying ht, MapKept.run_getObj_map h, hc, MapKept.run_findKey hk hf, Result.andThen]
theorem run_lookup_i64_none (ht : P.underlying t = some (.map k e)) (hk : P.underlying k = some (.int .i64)) (z : Value) (hz : ∀ w, (zeroValue e).run P w = .ok z w) (r : Nat) (es : Array MapEntry) (ck : Nat) (x : Int) (hf : Instr.findNow (.int .i64) (.int .i64 x) es.toList 0 = some none) (w : World) (h : w.heap[r]? = some (.map es ck)) :
    (Instr.lookup t (.map (some r)) (.int .i64 x) false).run P w = .ok z w := by
  have hc : ∀ b, (Instr.checkKey b 10000 k (.int .i64 x)).run P w = .ok () w := fun b => MapKept.run_checkKey (d := .int .i64) (k := .int .i64 x) hk rfl b 9999
  simp [Instr.lookup, run_underlying ht, MapKept.run_getObj_map h, hc, MapKept.run_findKey hk hf, hz, Result.andThen]
theorem run_lookup_i64_nil (ht : P.underlying t = some (.map k e)) (hk : P.underlying k = some (.int .i64)) (z : Value) (hz : ∀ w, (zeroValue e).run P w = .ok z w) (x : Int) (w : World) :
    (Instr.lookup t (.map none) (.int .i64 x) false).run P w = .ok z w := by
  have hc : ∀ b, (Instr.checkKey b 10000 k (.int .i64 x)).run P w = .ok () w := fun b => MapKept.run_checkKey (d := .int .i64) (k := .int .i64 x) hk rfl b 9999
  have hf : Instr.findNow (.int .i64) (.int .i64 x) ([] : List MapEntry) 0 = some none := rfl
  simp [Instr.lookup, run_underlying ht, hc, MapKept.run_findKey hk hf, hz, Result.andThen]
theorem run_update_i64_new (ht : P.underlying t = some (.map k e)) (hk : P.underlying k = some (.int .i64)) (r : Nat) (es : Array MapEntry) (ck : Nat) (x : Int) (v : Value) (hf : Instr.findNow (.int .i64) (.int .i64 x) es.toList 0 = some none) (w : World) (h : w.heap[r]? = some (.map es ck)) :
    (Instr.mapUpdate t (.map (some r)) (.int .i64 x) v).run P w = .ok () (setBlk w r (.map (es.push { key := .int .i64 x, val := v, born := ck }) (ck + 1))) := by
  have hc : ∀ b, (Instr.checkKey b 10000 k (.int .i64 x)).run P w = .ok () w := fun b => MapKept.run_checkKey (d := .int .i64) (k := .int .i64 x) hk rfl b 9999
  simp [Instr.mapUpdate, run_underlying ht, MapKept.run_getObj_map h, hc, MapKept.run_findKey hk hf, MapKept.run_setObj_map _ h, Result.andThen, setBlk]
theorem run_delete_i64 {ty : TypeId} (ht : P.underlying t = some (.map k e)) (hk : P.underlying k = some (.int .i64)) (r : Nat) (es : Array MapEntry) (ck i : Nat) (x : Int) (v : Value) (hf : Instr.findNow (.int .i64) (.int .i64 x) es.toList 0 = some (some (i, v))) (w : World) (h : w.heap[r]? = some (.map es ck)) :
    (Builtin.delete_ #[t, k] ty #[.map (some r), .int .i64 x]).run P w = .ok (.tuple #[]) (setBlk w r (.map (es.eraseIdxIfInBounds i) ck)) := by
  have hc : ∀ b, (Instr.checkKey b 10000 k (.int .i64 x)).run P w = .ok () w := fun b => MapKept.run_checkKey (d := .int .i64) (k := .int .i64 x) hk rfl b 9999
  simp [Builtin.delete_, run_underlying ht, MapKept.run_getObj_map h, hc, MapKept.run_findKey hk hf, MapKept.run_setObj_map _ h, Result.andThen, setBlk]
end

/-- The queue at block q holds the numbers l; its map the entries es; it owns what lies at N0 and above. -/
def QAt (N0 : Nat) (w : World) (q : Nat) (l : List Int) (es : Array MapEntry) (ck : Nat) : Prop :=
  ∃ A c r, Blk w q #[.slice A l.length c, .map (some r)] 59 ∧ Row (fun k => N0 ≤ k) w 3 1 (.slice A l.length c) l.length (l.map (.int .i64)) ∧ w.heap[r]? = some (.map es ck) ∧ N0 ≤ r

theorem Tryd.zeroBool : ∀ w, (zeroValue 4).run Tryd.prog w = .ok (.bool false) w := fun _ => by kernel_rfl

set_option maxHeartbeats 400000 in
theorem Tryd.push_old {N0 : Nat} {w : World} {q : Nat} {l : List Int} {es : Array MapEntry} {ck i : Nat} (h : QAt N0 w q l es ck) (x : Int) (hf : Instr.findNow (.int .i64) (.int .i64 x) es.toList 0 = some (some (i, .bool true))) :
    Calls Tryd.prog 32 #[.pointer (some ⟨q, 0, none⟩), .int .i64 x] w fun e w' => e = .returned (.bool false) ∧ w = w' := by
  obtain ⟨A, c, r, hb, _, hm, _⟩ := h
  have hc1 : w.cell? ⟨q, 1, none⟩ = some (.map (some r)) := by simpa using hb.cell 1
  have hlk := run_lookup_i64 (P := Tryd.prog) Tryd.underlying57 Tryd.underlying3 r es ck i x _ hf w hm
  clear hb hm hf
  go_enter Tryd.func32, Tryd.ntmps32
  go_wp2
  go_ret
  exact ⟨rfl, rfl⟩

theorem push_step {W w1 : World} {q : Nat} {v m : Value} {o : Obj} (hb : Blk W q #[v, m] 59) (hA : v.ownBlock ≠ some q) (k : Chg (fun k => v.ownBlock = some k) (W.alloc o) w1) :
    w1.cell? ⟨q, 0, none⟩ = some v ∧ w1.frozen? ⟨q, 0, none⟩ = false ∧ Blk w1 q #[v, m] 59 := by
  have h := (hb.alloc o).chg k hA
  exact ⟨by simpa using h.cell 0, h.free 0, h⟩

theorem push_end {N0 : Nat} {W2 w1 : World} {q r n c g1 c1 : Nat} {A : Option Addr} {l : List Int} {x : Int} {o : Obj} {es : Array MapEntry} {ck : Nat} (hn : n = l.length)
    (hb1 : Blk w1 q #[.slice A n c, .map (some r)] 59) (hqW : q < W2.heap.size) (hm2 : W2.heap[r]? = some (.map es ck)) (hr : N0 ≤ r) (hN : N0 ≤ W2.heap.size)
    (h0 : Row (fun k => N0 ≤ k) W2 3 1 (.slice A n c) n (l.map (.int .i64))) (hq : (Value.slice A n c).ownBlock ≠ some q) (hro : (Value.slice A n c).ownBlock ≠ some r) (hqr : q ≠ r)
    (hrow : Row (fun b => (Value.slice A n c).ownBlock = some b ∨ (W2.alloc o).heap.size ≤ b) w1 3 1 (.slice (some ⟨g1, 0, none⟩) (n + 1) c1) (n + 1) (l.map (.int .i64) ++ [.int .i64 x]))
    (hchg : Chg (fun k => (Value.slice A n c).ownBlock = some k) (W2.alloc o) w1) :
    QAt N0 (w1.setCell ⟨q, 0, none⟩ (.slice (some ⟨g1, 0, none⟩) (n + 1) c1)) q (l ++ [x]) es ck := by
  subst hn
  have hlt : r < W2.heap.size := lt_of_block hm2
  have e1 : (l ++ [x]).length = l.length + 1 := by simp
  have e2 : (l ++ [x]).map (Value.int .i64) = l.map (.int .i64) ++ [.int .i64 x] := by simp
  refine ⟨some ⟨g1, 0, none⟩, c1, r, ?_, ?_, ?_, hr⟩
  · rw [e1]
    simpa using hb1.put 0 (.slice (some ⟨g1, 0, none⟩) (l.length + 1) c1)
  · rw [e1, e2]
    refine (hrow.chg ((Chg.refl (fun k => k = q) w1).setCell (p := ⟨q, 0, none⟩) (fun _ => rfl) (.slice (some ⟨g1, 0, none⟩) (l.length + 1) c1)) ?_).mono ?_
    · intro g _ hg e
      subst e
      rcases hg with hg | hg
      · exact hq hg
      · simp only [World.size_alloc] at hg; omega
    · intro g _ hg
      rcases hg with hg | hg
      · exact h0.at_ g hg
      · simp only [World.size_alloc] at hg; omega
  · refine (Below.heap_setCell _ _ _ _ hqr.symm).trans ((hchg.block r (by simp only [World.size_alloc]; omega) hro).trans ((heap_alloc_old W2 _ hlt).trans hm2))

set_option maxRecDepth 100000 in
set_option maxHeartbeats 1000000 in
theorem Tryd.push_first {w : World} {q n c : Nat} {A : Option Addr} {l : List Int} (hn : n = l.length) (hl : n ≤ 1000) {N0 : Nat} (h : Blk w q #[.slice A n c, .map none] 59) (hrow : Row (fun k => N0 ≤ k) w 3 1 (.slice A n c) n (l.map (.int .i64))) (hN : N0 ≤ w.heap.size) (x : Int) :
    Calls Tryd.prog 32 #[.pointer (some ⟨q, 0, none⟩), .int .i64 x] w fun e w' => e = .returned (.bool true) ∧ QAt N0 w' q (l ++ [x]) #[{ key := .int .i64 x, val := .bool true, born := 0 }] 1 ∧ Chg (fun k => k = q ∨ N0 ≤ k) w w' := by
  have hc0 : w.cell? ⟨q, 0, none⟩ = some (.slice A n c) := by simpa using h.cell 0
  have hc1 : w.cell? ⟨q, 1, none⟩ = some (.map none) := by simpa using h.cell 1
  have hfr : ∀ j, w.frozen? ⟨q, j, none⟩ = false := h.free
  have hlk := run_lookup_i64_nil (P := Tryd.prog) Tryd.underlying57 Tryd.underlying3 _ Tryd.zeroBool x w
  have hmm := @run_makeMap Tryd.prog
  have hnl := run_eql_map_nil (P := Tryd.prog) w 57 _ _ none Tryd.underlying57
  have hqs := h.lt
  have hqo : Hid ((Value.slice A n c).ownBlock ≠ some q) := Lib.hid (hrow.ne_blk h (by decide))
  have hro : Hid ((Value.slice A n c).ownBlock ≠ some w.heap.size) := Lib.hid fun e => by have := hrow.lt _ e; omega
  have H := Lib.hid h
  clear h
  obtain ⟨W1, hW1⟩ : ∃ W1, (w.setCell ⟨q, 1, none⟩ (.map (some w.heap.size))).alloc (.map #[] 0) = W1 := ⟨_, rfl⟩
  have hb1 : Blk W1 q #[.slice A n c, .map (some w.heap.size)] 59 := by
    have := (H.out.put 1 (.map (some w.heap.size))).alloc (.map #[] 0)
    rw [hW1] at this
    simpa using this
  have hs1 : W1.heap.size = w.heap.size + 1 := by rw [← hW1]; simp
  have hm1 : W1.heap[w.heap.size]? = some (.map #[] 0) := by
    rw [← hW1]
    have h := heap_alloc_new (w.setCell ⟨q, 1, none⟩ (.map (some w.heap.size))) (.map #[] 0)
    rwa [World.size_setCell] at h
  have hk1 : Chg (fun k => k = q) w W1 := by rw [← hW1]; exact (Chg.setCell (S := fun k => k = q) (p := ⟨q, 1, none⟩) (Chg.refl _ w) (fun _ => rfl) _).alloc _
  have hup := run_update_i64_new (P := Tryd.prog) Tryd.underlying57 Tryd.underlying3 w.heap.size #[] 0 x (.bool true) rfl W1 hm1
  obtain ⟨W2, hW2⟩ : ∃ W2, setBlk W1 w.heap.size (.map (#[].push { key := .int .i64 x, val := .bool true, born := 0 }) (0 + 1)) = W2 := ⟨_, rfl⟩
  have hb2 : Blk W2 q #[.slice A n c, .map (some w.heap.size)] 59 := by
    rw [← hW2]; exact (setBlk_other _ (by omega)).trans hb1
  have hs2 : W2.heap.size = w.heap.size + 1 := by rw [← hW2, setBlk_size, hs1]
  have hm2 : W2.heap[w.heap.size]? = some (.map #[{ key := .int .i64 x, val := .bool true, born := 0 }] 1) := by rw [← hW2]; exact setBlk_same _ (by omega)
  have hk2 : Chg (fun k => k = q) w W2 := by rw [← hW2]; exact hk1.setBlk (fun h => by omega) _
  rw [hW2, ← hW1] at hup
  have hc20 : W2.cell? ⟨q, 0, none⟩ = some (.slice A n c) := by simpa using hb2.cell 0
  have hf2 : ∀ j, W2.frozen? ⟨q, j, none⟩ = false := hb2.free
  have HR2 := Lib.hid (hrow.least.chg hk2 (fun g _ hg e => hqo.out (by subst e; exact hg)))
  have HS2 : Hid (Row (fun k => N0 ≤ k) W2 3 1 (.slice A n c) n (l.map (.int .i64))) := Lib.hid (HR2.out.mono fun g _ hg => hrow.at_ g hg)
  have HB2 := Lib.hid hb2
  have HM2 := Lib.hid hm2
  have HK2 := Lib.hid hk2
  clear hW2 hW1 hb1 hb2 hs1 hm1 hm2 hk1 hk2 hrow
  have HN := Lib.hid hn
  clear hn
  go_enter Tryd.func32, Tryd.ntmps32
  go_wp2_with (at_builtin; go_loud (refine row_append (fun k => (Value.slice A n c).ownBlock = some k) rfl _ _ 22 3 (.int .i64 0) 1 8 rfl Tryd.underlying22 Tryd.infoInt rfl (by decide) (by decide) (.slice A n c) n (l.map (.int .i64)) rfl (HR2.out.alloc _) ⟨w.heap.size + 1, 0, none⟩ 1 1 [.int .i64 x] rfl rfl (by rw [← hs2]; exact cell_one_new _ _ _) (by simp [Value.oneCell']) (by omega) (by omega) ?_; intro g1 c1 w1 hrow hchg; have HPS := push_step HB2.out hqo.out hchg; have hcell1 := HPS.1; have hfree1 := HPS.2.1; have HBX := Lib.hid HPS.2.2; have HROW := Lib.hid hrow; have HCHG := Lib.hid hchg; clear HPS hrow hchg))
  go_ret
  refine ⟨rfl, push_end HN.out HBX.out (by omega) HM2.out hN (by omega) HS2.out hqo.out hro.out (by omega) HROW.out HCHG.out, ?_⟩
  refine (((HK2.out.mono fun _ _ h => .inl h).alloc _).trans HCHG.out fun i hi e => .inr (HS2.out.at_ i e)).setCell (fun _ => .inl rfl) _

set_option maxRecDepth 100000 in
set_option maxHeartbeats 1000000 in
theorem Tryd.push_new {N0 : Nat} {w : World} {q : Nat} {l : List Int} {es : Array MapEntry} {ck : Nat} (h : QAt N0 w q l es ck) (hl : l.length ≤ 1000) (hN : N0 ≤ w.heap.size) (x : Int) (hf : Instr.findNow (.int .i64) (.int .i64 x) es.toList 0 = some none) :
    Calls Tryd.prog 32 #[.pointer (some ⟨q, 0, none⟩), .int .i64 x] w fun e w' => e = .returned (.bool true) ∧ QAt N0 w' q (l ++ [x]) (es.push { key := .int .i64 x, val := .bool true, born := ck }) (ck + 1) ∧ Chg (fun k => k = q ∨ N0 ≤ k) w w' := by
  obtain ⟨A, c, r, hb, hrow, hm, hr⟩ := h
  obtain ⟨n, hn⟩ : ∃ n, n = l.length := ⟨_, rfl⟩
  rw [← hn] at hb hrow hl
  have hc0 : w.cell? ⟨q, 0, none⟩ = some (.slice A n c) := by simpa using hb.cell 0
  have hc1 : w.cell? ⟨q, 1, none⟩ = some (.map (some r)) := by simpa using hb.cell 1
  have hlk := run_lookup_i64_none (P := Tryd.prog) Tryd.underlying57 Tryd.underlying3 _ Tryd.zeroBool r es ck x hf w hm
  have hnl := run_eql_map_nil (P := Tryd.prog) w 57 _ _ (some r) Tryd.underlying57
  have hup := run_update_i64_new (P := Tryd.prog) Tryd.underlying57 Tryd.underlying3 r es ck x (.bool true) hf w hm
  have hqs := hb.lt
  have hrs : r < w.heap.size := lt_of_block hm
  have hqr : q ≠ r := by
    rintro rfl
    unfold Blk at hb
    rw [hb] at hm
    simp at hm
  have hqo : Hid ((Value.slice A n c).ownBlock ≠ some q) := Lib.hid (hrow.ne_blk hb (by decide))
  have hro : Hid ((Value.slice A n c).ownBlock ≠ some r) := Lib.hid (by
    intro hv
    rcases hrow.own.2 with ⟨e, _⟩ | ⟨g, cap, cur, e, _, hh, _⟩
    · rw [e] at hv; simp [Value.ownBlock] at hv
    · rw [e] at hv
      have : g = r := by simpa [Value.ownBlock] using hv
      subst this
      rw [hm] at hh
      simp at hh)
  obtain ⟨W2, hW2⟩ : ∃ W2, setBlk w r (.map (es.push { key := .int .i64 x, val := .bool true, born := ck }) (ck + 1)) = W2 := ⟨_, rfl⟩
  have hb2 : Blk W2 q #[.slice A n c, .map (some r)] 59 := by
    rw [← hW2]; exact (setBlk_other _ (Ne.symm hqr)).trans hb
  have hs2 : W2.heap.size = w.heap.size := by rw [← hW2, setBlk_size]
  have hm2 : W2.heap[r]? = some (.map (es.push { key := .int .i64 x, val := .bool true, born := ck }) (ck + 1)) := by rw [← hW2]; exact setBlk_same _ hrs
  have hk2 : Chg (fun k => k = r) w W2 := by rw [← hW2]; exact (Chg.refl (fun k => k = r) w).setBlk (fun h => rfl) _
  rw [hW2] at hup
  have hc20 : W2.cell? ⟨q, 0, none⟩ = some (.slice A n c) := by simpa using hb2.cell 0
  have hf2 : ∀ j, W2.frozen? ⟨q, j, none⟩ = false := hb2.free
  have HR2 := Lib.hid (hrow.least.chg hk2 (fun g _ hg e => hro.out (by subst e; exact hg)))
  have HS2 : Hid (Row (fun k => N0 ≤ k) W2 3 1 (.slice A n c) n (l.map (.int .i64))) := Lib.hid (HR2.out.mono fun g _ hg => hrow.at_ g hg)
  have HB2 := Lib.hid hb2
  have HM2 := Lib.hid hm2
  have HK2 := Lib.hid hk2
  have HN := Lib.hid hn
  clear hW2 hb hb2 hm hm2 hk2 hrow hf hn
  go_enter Tryd.func32, Tryd.ntmps32
  go_wp2_with (at_builtin; go_loud (refine row_append (fun k => (Value.slice A n c).ownBlock = some k) rfl _ _ 22 3 (.int .i64 0) 1 8 rfl Tryd.underlying22 Tryd.infoInt rfl (by decide) (by decide) (.slice A n c) n (l.map (.int .i64)) rfl (HR2.out.alloc _) ⟨w.heap.size, 0, none⟩ 1 1 [.int .i64 x] rfl rfl (by rw [← hs2]; exact cell_one_new _ _ _) (by simp [Value.oneCell']) (by omega) (by omega) ?_; intro g1 c1 w1 hrow hchg; have HPS := push_step HB2.out hqo.out hchg; have hcell1 := HPS.1; have hfree1 := HPS.2.1; have HBX := Lib.hid HPS.2.2; have HROW := Lib.hid hrow; have HCHG := Lib.hid hchg; clear HPS hrow hchg))
  go_ret
  refine ⟨rfl, push_end HN.out HBX.out (by omega) HM2.out hr (by omega) HS2.out hqo.out hro.out (by omega) HROW.out HCHG.out, ?_⟩
  refine (((HK2.out.mono fun _ _ h => .inr (by omega)).alloc _).trans HCHG.out fun i hi e => .inr (HS2.out.at_ i e)).setCell (fun _ => .inl rfl) _

theorem Tryd.qlen_calls {w : World} {q n c : Nat} {A : Option Addr} {m : Value} (h : Blk w q #[.slice A n c, m] 59) :
    Calls Tryd.prog 34 #[.pointer (some ⟨q, 0, none⟩)] w fun e w' => e = .returned (.int .i64 n) ∧ w = w' := by
  have hc0 : w.cell? ⟨q, 0, none⟩ = some (.slice A n c) := by simpa using h.cell 0
  clear h
  go_enter Tryd.func34, Tryd.ntmps34
  go_wp2
  go_ret
  exact ⟨rfl, rfl⟩

set_option maxRecDepth 100000 in
set_option maxHeartbeats 400000 in
theorem Tryd.pop_calls_q {N0 : Nat} {w : World} {q : Nat} {l : List Int} {x : Int} {es : Array MapEntry} {ck i : Nat} {u : Value} (h : QAt N0 w q (x :: l) es ck) (hl : l.length ≤ 1000) (hp : 1 ≤ l.length) (hf : Instr.findNow (.int .i64) (.int .i64 x) es.toList 0 = some (some (i, u))) :
    Calls Tryd.prog 33 #[.pointer (some ⟨q, 0, none⟩)] w fun e w' => e = .returned (.tuple #[.int .i64 x, .bool true]) ∧ (∃ A c m, Blk w' q #[.slice A l.length c, m] 59) ∧ Chg (fun k => k = q ∨ N0 ≤ k) w w' := by
  obtain ⟨A, c, r, hb, hrow, hm, hr⟩ := h
  obtain ⟨g, c', heq, hc', hcm, _, _, hcl, _⟩ := hrow.form (by simp)
  injection heq with e1 e2 e3
  subst e1 e3
  have hx : w.cell? ⟨g, 0, none⟩ = some (.int .i64 x) := hcl 0 _ rfl
  obtain ⟨n, hn⟩ : ∃ n, n = l.length := ⟨_, rfl⟩
  rw [List.length_cons, ← hn] at hb hrow hc'
  rw [← hn] at hl hp
  have hcc : ¬ c = 1 := by omega
  unfold maxLen at hcm
  have hc0 : w.cell? ⟨q, 0, none⟩ = some (.slice (some ⟨g, 0, none⟩) (n + 1) c) := by simpa using hb.cell 0
  have hc1 : w.cell? ⟨q, 1, none⟩ = some (.map (some r)) := by simpa using hb.cell 1
  have hfr : w.frozen? ⟨q, 0, none⟩ = false := hb.free 0
  have hqr : q ≠ r := by
    rintro rfl
    unfold Blk at hb
    rw [hb] at hm
    simp at hm
  have hm1 : (w.setCell ⟨q, 0, none⟩ (.slice (some ⟨g, 1, none⟩) n (c - 1))).heap[r]? = some (.map es ck) := (Below.heap_setCell _ _ _ _ hqr.symm).trans hm
  have hdl := run_delete_i64 (P := Tryd.prog) (ty := 0) Tryd.underlying57 Tryd.underlying3 r es ck i x u hf _ hm1
  have HB := Lib.hid hb
  have HN := Lib.hid hn
  clear hb hm hf hm1 hn hrow hcl
  go_enter Tryd.func33, Tryd.ntmps33
  go_wp2_with (go_at_call 34; refine (Tryd.qlen_calls HB.out).mono ?_; rintro e w' ⟨rfl, rfl⟩)
  go_ret2
  refine ⟨rfl, ⟨some ⟨g, 1, none⟩, c - 1, .map (some r), ?_⟩, ?_⟩
  · have h := HB.out.put 0 (.slice (some ⟨g, 1, none⟩) n (c - 1))
    rw [← HN.out]
    refine (setBlk_other _ (Ne.symm hqr)).trans ?_
    simpa [Blk] using h
  · exact ((Chg.refl _ w).setCell (fun _ => .inl rfl) _).setBlk (fun _ => .inr hr) _
end Go.Proofs.YtaobleahcceffaaDoor
