/-
  Words on worlds: what a call may turn (Chg), a block known whole (Blk), a row of the call's own (Row), data read out of memory (Rd). Conditions: none; nothing here speaks of a program's text.
-/
import Derived.WalkKit
import Derived.WalkSpells
import Derived.WalkLawsBesides
import Derived.Deep.Draws
import Derived.Deep.AppendLies
import Derived.Maps.AppendAt
import Derived.OneCell
import Derived.Lib.Hide
import Derived.RegionTactic
import Derived.Deep.LoopGhost
import Derived.KernelRfl
import Derived.Outline
namespace Go.Proofs.YtaobleahcceffaaDoor
open Go.RowKit

/-! ### What may have turned -/
/-- Of the blocks that were there only those of S may have turned; the streams are as they were; no block has gone. -/
structure Chg (S : Nat → Prop) (w w' : World) : Prop where
  os : w'.os = w.os
  tape : w'.tape = w.tape
  output : w'.output = w.output
  size : w.heap.size ≤ w'.heap.size
  block : ∀ k, k < w.heap.size → ¬ S k → w'.heap[k]? = w.heap[k]?

/-- Nothing that was there has turned. -/
abbrev Kept (w w' : World) : Prop := Chg (fun _ => False) w w'

theorem Chg.refl (S : Nat → Prop) (w : World) : Chg S w w := ⟨rfl, rfl, rfl, Nat.le_refl _, fun _ _ _ => rfl⟩
theorem Chg.mono {S S' : Nat → Prop} {w w' : World} (h : Chg S w w') (hS : ∀ k, k < w.heap.size → S k → S' k) : Chg S' w w' :=
  ⟨h.os, h.tape, h.output, h.size, fun k hk hn => h.block k hk fun hs => hn (hS k hk hs)⟩
theorem Chg.trans {S S' : Nat → Prop} {a b c : World} (h : Chg S a b) (k : Chg S' b c) (hS : ∀ i, i < a.heap.size → S' i → S i) : Chg S a c :=
  ⟨k.os.trans h.os, k.tape.trans h.tape, k.output.trans h.output, Nat.le_trans h.size k.size,
   fun i hi hn => (k.block i (Nat.lt_of_lt_of_le hi h.size) fun hs => hn (hS i hi hs)).trans (h.block i hi hn)⟩
theorem Chg.then {S : Nat → Prop} {a b c : World} (h : Chg S a b) (k : Chg S b c) : Chg S a c := h.trans k fun _ _ hs => hs
theorem Chg.kept {S : Nat → Prop} {a b c : World} (h : Chg S a b) (k : Kept b c) : Chg S a c := h.trans k fun _ _ hs => hs.elim
theorem Kept.any {S : Nat → Prop} {a b : World} (h : Kept a b) : Chg S a b := h.mono fun _ _ hs => hs.elim
theorem Chg.drew {S : Nat → Prop} {a w : World} (h : Chg S a w) : Chg S a w.drew := ⟨h.os, h.tape, h.output, h.size, h.block⟩
theorem Chg.drewN {S : Nat → Prop} {a w : World} (h : Chg S a w) (n : Nat) : Chg S a (w.drewN n) := ⟨h.os, h.tape, h.output, h.size, h.block⟩
theorem Chg.alloc {S : Nat → Prop} {a w : World} (h : Chg S a w) (o : Obj) : Chg S a (w.alloc o) :=
  ⟨h.os, h.tape, h.output, Nat.le_trans h.size (by simp), fun k hk hn => (Below.heap_alloc _ _ _ (Nat.lt_of_lt_of_le hk h.size)).trans (h.block k hk hn)⟩
theorem Chg.setCell {S : Nat → Prop} {a w : World} (h : Chg S a w) {p : Addr} (hp : p.block < a.heap.size → S p.block) (u : Value) : Chg S a (w.setCell p u) :=
  ⟨h.os, h.tape, h.output, by simpa using h.size, fun k hk hn => (Below.heap_setCell _ _ _ _ (fun e => hn (by subst e; exact hp hk))).trans (h.block k hk hn)⟩
theorem Chg.below {w w' : World} (h : Kept w w') : Below w.heap.size w w' := ⟨h.os, h.tape, h.output, h.size, fun k hk => h.block k hk id⟩
theorem Kept.of_below {w w' : World} (h : Below w.heap.size w w') : Kept w w' := ⟨h.os, h.tape, h.output, h.size, fun k hk _ => h.block k hk⟩
theorem Chg.of_grown {w w' : World} {row : Option Nat} (h : w.grownBy w' row) : Chg (fun k => row = some k) w w' :=
  ⟨h.os, h.tape, h.output, h.size, fun k hk hn => h.block k hk fun e => hn e.symm⟩
theorem Chg.grown {S : Nat → Prop} {a w w' : World} {row : Option Nat} (h : Chg S a w) (hg : w.grownBy w' row) (hr : ∀ k, row = some k → k < a.heap.size → S k) : Chg S a w' :=
  h.trans (Chg.of_grown hg) fun i hi e => hr i e hi

/-! ### A block that is known whole -/
/-- Block b holds just these cells, and may be written. -/
def Blk (w : World) (b : Nat) (c : Array Value) (t : TypeId) : Prop := w.heap[b]? = some (.cells c t (0, 0))

theorem Blk.lt {w : World} {b : Nat} {c : Array Value} {t : TypeId} (h : Blk w b c t) : b < w.heap.size := lt_of_block h
theorem Blk.cell {w : World} {b : Nat} {c : Array Value} {t : TypeId} (h : Blk w b c t) (j : Nat) : w.cell? ⟨b, j, none⟩ = c[j]? := by
  unfold Blk at h
  simp [World.cell?, h]
theorem Blk.free {w : World} {b : Nat} {c : Array Value} {t : TypeId} (h : Blk w b c t) (j : Nat) : w.frozen? ⟨b, j, none⟩ = false := by
  unfold Blk at h
  simp [World.frozen?, h]
theorem Blk.new (w : World) (c : Array Value) (t : TypeId) : Blk (w.alloc (.cells c t)) w.heap.size c t := heap_alloc_new w _
theorem Blk.alloc {w : World} {b : Nat} {c : Array Value} {t : TypeId} (h : Blk w b c t) (o : Obj) : Blk (w.alloc o) b c t :=
  (Below.heap_alloc w o b h.lt).trans h
theorem Blk.drew {w : World} {b : Nat} {c : Array Value} {t : TypeId} (h : Blk w b c t) : Blk w.drew b c t := h
theorem Blk.drewN {w : World} {b : Nat} {c : Array Value} {t : TypeId} (h : Blk w b c t) (n : Nat) : Blk (w.drewN n) b c t := h
theorem Blk.other {w : World} {b : Nat} {c : Array Value} {t : TypeId} (h : Blk w b c t) {p : Addr} (hp : p.block ≠ b) (u : Value) : Blk (w.setCell p u) b c t :=
  (Below.heap_setCell _ _ _ _ (Ne.symm hp)).trans h
theorem Blk.put {w : World} {b : Nat} {c : Array Value} {t : TypeId} (h : Blk w b c t) (j : Nat) (u : Value) : Blk (w.setCell ⟨b, j, none⟩ u) b (c.setIfInBounds j u) t := by
  have hlt := h.lt
  have h' : w.heap[b] = .cells c t (0, 0) := by simpa [Blk, Array.getElem?_eq_getElem hlt] using h
  show (w.heap.modify b _)[b]? = _
  rw [Array.getElem?_eq_getElem (by simpa using hlt), Array.getElem_modify_self, h']
  rfl
theorem Blk.chg {S : Nat → Prop} {w w' : World} {b : Nat} {c : Array Value} {t : TypeId} (h : Blk w b c t) (k : Chg S w w') (hs : ¬ S b) : Blk w' b c t :=
  (k.block b h.lt hs).trans h
theorem Blk.keep {w w' : World} {b : Nat} {c : Array Value} {t : TypeId} (h : Blk w b c t) (k : Kept w w') : Blk w' b c t := h.chg k id
theorem Blk.ne {w : World} {b b' : Nat} {c c' : Array Value} {t t' : TypeId} (h : Blk w b c t) (h' : Blk w b' c' t') (hne : t ≠ t') : b ≠ b' := by
  rintro rfl
  unfold Blk at h h'
  rw [h] at h'
  injection h' with h'
  injection h' with _ ht
  exact hne ht

/-! ### A row of the call's own -/
/-- The slice v owns the cells xs; where they lie is one of S. -/
structure Row (S : Nat → Prop) (w : World) (e : TypeId) (size : Nat) (v : Value) (n : Nat) (xs : List Value) : Prop where
  own : w.ownsRow 0 e size v n xs
  at_ : ∀ g, v.ownBlock = some g → S g

theorem Row.nil (S : Nat → Prop) (w : World) (e : TypeId) (size : Nat) : Row S w e size (.slice none 0 0) 0 [] :=
  ⟨World.ownsRow_nil w 0 e size, fun g h => by simp [Value.ownBlock] at h⟩
theorem Row.lt {S : Nat → Prop} {w : World} {e : TypeId} {size : Nat} {v : Value} {n : Nat} {xs : List Value} (h : Row S w e size v n xs) : ∀ g, v.ownBlock = some g → g < w.heap.size :=
  fun g hg => (h.own.lt g hg).2
theorem Row.mono {S S' : Nat → Prop} {w : World} {e : TypeId} {size : Nat} {v : Value} {n : Nat} {xs : List Value} (h : Row S w e size v n xs) (hS : ∀ g, g < w.heap.size → S g → S' g) : Row S' w e size v n xs :=
  ⟨h.own, fun g hg => hS g (h.lt g hg) (h.at_ g hg)⟩
theorem Row.least {S : Nat → Prop} {w : World} {e : TypeId} {size : Nat} {v : Value} {n : Nat} {xs : List Value} (h : Row S w e size v n xs) : Row (fun k => v.ownBlock = some k) w e size v n xs := ⟨h.own, fun _ hg => hg⟩
theorem Row.chg {S S' : Nat → Prop} {w w' : World} {e : TypeId} {size : Nat} {v : Value} {n : Nat} {xs : List Value} (h : Row S w e size v n xs) (k : Chg S' w w') (hs : ∀ g, g < w.heap.size → S g → ¬ S' g) : Row S w' e size v n xs := by
  refine ⟨⟨h.own.1, ?_⟩, h.at_⟩
  rcases h.own.2 with h2 | ⟨g, cap, cur, rfl, hb, hh, r⟩
  · exact .inl h2
  · have hl := h.lt g (by simp [Value.ownBlock])
    exact .inr ⟨g, cap, cur, rfl, hb, (k.block g hl (hs g hl (h.at_ g (by simp [Value.ownBlock])))).trans hh, r⟩
theorem Row.keep {S : Nat → Prop} {w w' : World} {e : TypeId} {size : Nat} {v : Value} {n : Nat} {xs : List Value} (h : Row S w e size v n xs) (k : Kept w w') : Row S w' e size v n xs :=
  h.chg k fun _ _ _ hf => hf
theorem Row.alloc {S : Nat → Prop} {w : World} {e : TypeId} {size : Nat} {v : Value} {n : Nat} {xs : List Value} (h : Row S w e size v n xs) (o : Obj) : Row S (w.alloc o) e size v n xs :=
  h.keep ((Chg.refl _ w).alloc o)
theorem Row.drew {S : Nat → Prop} {w : World} {e : TypeId} {size : Nat} {v : Value} {n : Nat} {xs : List Value} (h : Row S w e size v n xs) : Row S w.drew e size v n xs :=
  h.keep ((Chg.refl _ w).drew)
theorem Row.slice {S : Nat → Prop} {w : World} {e : TypeId} {size : Nat} {v : Value} {n : Nat} {xs : List Value} (h : Row S w e size v n xs) : ∃ A c, v = .slice A n c ∧ n ≤ c ∧ c ≤ maxLen ∧ (A = none → c = 0) := by
  rcases h.own.2 with ⟨rfl, rfl⟩ | ⟨g, cap, cur, rfl, _, _, h1, h2, _⟩
  · exact ⟨none, 0, rfl, Nat.le_refl _, Nat.zero_le _, fun _ => rfl⟩
  · exact ⟨_, cap, rfl, h1, h2, fun h => by cases h⟩
/-- A row that is not empty: where it lies, and its cells. -/
theorem Row.form {S : Nat → Prop} {w : World} {e : TypeId} {size : Nat} {v : Value} {n : Nat} {xs : List Value} (h : Row S w e size v n xs) (hn : 0 < n) :
    ∃ g c, v = .slice (some ⟨g, 0, none⟩) n c ∧ n ≤ c ∧ c ≤ maxLen ∧ S g ∧ g < w.heap.size ∧ (∀ j u, xs[j]? = some u → w.cell? ⟨g, j, none⟩ = some u) ∧ (∀ j, w.frozen? ⟨g, j, none⟩ = false) := by
  rcases h.own.2 with ⟨rfl, rfl⟩ | ⟨g, cap, cur, rfl, _, hh, h1, h2, _, ht⟩
  · omega
  · refine ⟨g, cap, rfl, h1, h2, h.at_ g rfl, lt_of_block hh, fun j u hj => ?_, fun j => Blk.free hh j⟩
    have := h.own.cells (g := g) rfl j u hj
    have hadd : (⟨g, 0, none⟩ : Addr).add j = ⟨g, j, none⟩ := by unfold Addr.add; split <;> simp_all
    rwa [hadd] at this
/-- The block of a row has the row's element type. -/
theorem Row.ne_blk {S : Nat → Prop} {w : World} {e : TypeId} {size : Nat} {v : Value} {n : Nat} {xs : List Value} (h : Row S w e size v n xs) {b : Nat} {c : Array Value} {t : TypeId} (hb : Blk w b c t) (hne : t ≠ e) : v.ownBlock ≠ some b := by
  intro hv
  rcases h.own.2 with ⟨rfl, rfl⟩ | ⟨g, cap, cur, rfl, _, hh, _⟩
  · simp [Value.ownBlock] at hv
  · have : g = b := by simpa [Value.ownBlock] using hv
    subst this
    unfold Blk at hb
    rw [hb] at hh
    injection hh with hh
    injection hh with _ ht
    exact hne ht
/-- A store into a row. -/
theorem Row.put {S : Nat → Prop} {w : World} {e : TypeId} {g n c : Nat} {xs : List Value} (h : Row S w e 1 (.slice (some ⟨g, 0, none⟩) n c) n xs) (i : Nat) (x : Value) :
    Row S (w.setCell ⟨g, i, none⟩ x) e 1 (.slice (some ⟨g, 0, none⟩) n c) n (xs.set i x) ∧ Chg (fun k => k = g) w (w.setCell ⟨g, i, none⟩ x) := by
  obtain ⟨h1, h2⟩ := h.own.stored i x
  exact ⟨⟨h1, h.at_⟩, (Chg.of_grown h2).mono fun k _ e => by injection e with e; exact e.symm⟩

section
variable {P : Program} {ops : Array Oper} {rest : List Oper} {o : Oper} {a : Act} {Q : Exit → Act → World → Prop}
/-- append(v, x..): the cells of the new elements stand ready at the address ad. -/
theorem row_append_any {W : World} (S : Nat → Prop) (hgd : o.guard = none) (s x : Operand) (t e : TypeId) (z : Value) (size bytes : Nat)
    (ho : o.op = .call { callee := .builtin .append, args := #[s, x], argTypes := #[t, t] })
    (ht : P.underlying t = some (.slice e)) (hinfo : (P.info? e).map (fun i => (i.zero, i.size, i.bytes)) = some (some z, size, bytes)) (hz : z.cells.size = size) (hs0 : 0 < size) (hb0 : 0 < bytes)
    (v : Value) (n : Nat) (xs : List Value) (hs : a.eval s = v) (HO : Row S W e size v n xs) (ad : Addr) (m c : Nat) (news : List Value) (hx : a.eval x = .slice (some ad) m c)
    (hl : news.length = m * size) (hnews : ∀ j u, news[j]? = some u → W.cell? (ad.add j) = some u) (h1 : ∀ u ∈ news, u.oneCell' = true) (hlen : (n + m) * bytes ≤ 140737488355328)
    (h : ∀ v1 w1, Row (fun b => S b ∨ W.heap.size ≤ b) w1 e size v1 (n + m) (xs ++ news) → Chg (fun k => v.ownBlock = some k) W w1 → wpList P ops Q rest (a.put o.dst v1) w1) :
    wpList P ops Q (o :: rest) a W := by
  obtain ⟨i0, hi, hzz⟩ := Option.map_eq_some_iff.1 hinfo
  simp only [Prod.mk.injEq] at hzz
  obtain ⟨hz0, hz1, hz2⟩ := hzz
  have hnm : n + m ≤ 140737488355328 := Nat.le_trans (Nat.le_mul_of_pos_right _ hb0) hlen
  refine wpList_append_own_at W hgd s x t ho 0 e i0 z size bytes ht hi hz0 hz1 hz2 hz hs0 v n xs hs HO.own ad m c news hx hl hnews h1 (by simp only [maxLen]; omega) hlen (Nat.zero_le _) ?_
  intro v1 w1 hown hg _ hat
  refine h v1 w1 ⟨hown, fun g hg' => ?_⟩ (Chg.of_grown hg)
  rcases hat with hat | hat
  · exact .inl (HO.at_ g (hat ▸ hg'))
  · rw [hg'] at hat
    injection hat with hat
    exact .inr (by omega)
/-- .. at least one: the new value written out. -/
theorem row_append {W : World} (S : Nat → Prop) (hgd : o.guard = none) (s x : Operand) (t e : TypeId) (z : Value) (size bytes : Nat)
    (ho : o.op = .call { callee := .builtin .append, args := #[s, x], argTypes := #[t, t] })
    (ht : P.underlying t = some (.slice e)) (hinfo : (P.info? e).map (fun i => (i.zero, i.size, i.bytes)) = some (some z, size, bytes)) (hz : z.cells.size = size) (hs0 : 0 < size) (hb0 : 0 < bytes)
    (v : Value) (n : Nat) (xs : List Value) (hs : a.eval s = v) (HO : Row S W e size v n xs) (ad : Addr) (m c : Nat) (news : List Value) (hx : a.eval x = .slice (some ad) m c)
    (hl : news.length = m * size) (hnews : ∀ j u, news[j]? = some u → W.cell? (ad.add j) = some u) (h1 : ∀ u ∈ news, u.oneCell' = true) (hlen : (n + m) * bytes ≤ 140737488355328)
    (hm0 : 0 < m) (h : ∀ g1 c1 w1, Row (fun b => S b ∨ W.heap.size ≤ b) w1 e size (.slice (some ⟨g1, 0, none⟩) (n + m) c1) (n + m) (xs ++ news) → Chg (fun k => v.ownBlock = some k) W w1 → wpList P ops Q rest (a.put o.dst (.slice (some ⟨g1, 0, none⟩) (n + m) c1)) w1) :
    wpList P ops Q (o :: rest) a W :=
  row_append_any S hgd s x t e z size bytes ho ht hinfo hz hs0 hb0 v n xs hs HO ad m c news hx hl hnews h1 hlen fun v1 w1 hrow hchg => by
    obtain ⟨g1, c1, rfl, _⟩ := hrow.form (by omega)
    exact h g1 c1 w1 hrow hchg
end

/-! ### Data that is read -/
/-- What a world move keeps of data: the blocks of ok are there as they were, and are blocks of ok'. -/
structure Moves (ok ok' : Nat → Prop) (w w' : World) : Prop where
  block : ∀ k, k < w.heap.size → ok k → w'.heap[k]? = w.heap[k]?
  ok : ∀ k, k < w.heap.size → ok k → ok' k
theorem Moves.refl (ok : Nat → Prop) (w : World) : Moves ok ok w w := ⟨fun _ _ _ => rfl, fun _ _ h => h⟩
theorem Moves.weak {ok ok' : Nat → Prop} {w : World} (h : ∀ k, k < w.heap.size → ok k → ok' k) : Moves ok ok' w w := ⟨fun _ _ _ => rfl, h⟩
theorem Chg.moves {S ok ok' : Nat → Prop} {w w' : World} (h : Chg S w w') (hs : ∀ k, k < w.heap.size → ok k → ¬ S k ∧ ok' k) : Moves ok ok' w w' :=
  ⟨fun k hk ho => h.block k hk (hs k hk ho).1, fun k hk ho => (hs k hk ho).2⟩
theorem Moves.cell {ok ok' : Nat → Prop} {w w' : World} (h : Moves ok ok' w w') {a : Addr} {v : Value} (ho : ok a.block) (hc : w.cell? a = some v) : w'.cell? a = some v :=
  (World.cell?_of_block (h.block a.block (World.block_lt_of_cell? w a hc) ho)).trans hc

/-- A slice reads as ps: R says what an element's cells say. -/
def Rd {α : Type} (R : (Nat → Prop) → World → List Value → α → Prop) (size : Nat) (ok : Nat → Prop) (w : World) (v : Value) (ps : List α) : Prop :=
  ∃ A c, v = .slice A ps.length c ∧ ps.length ≤ c ∧ c ≤ maxLen ∧ (A = none → c = 0) ∧ (0 < ps.length → ∃ g off, A = some ⟨g, off, none⟩ ∧ ok g ∧
    ∀ j p, ps[j]? = some p → ∃ cs, cs.length = size ∧ R ok w cs p ∧ ∀ i u, cs[i]? = some u → w.cell? ⟨g, off + j * size + i, none⟩ = some u)

/-- A reading that moves with the world. -/
def Movable {α : Type} (R : (Nat → Prop) → World → List Value → α → Prop) : Prop :=
  ∀ ok ok' w w' cs p, Moves ok ok' w w' → R ok w cs p → R ok' w' cs p

theorem Rd.move {α : Type} {R : (Nat → Prop) → World → List Value → α → Prop} (hR : Movable R) {size : Nat} {ok ok' : Nat → Prop} {w w' : World} (hm : Moves ok ok' w w') {v : Value} {ps : List α} (hpos : 0 < size) (h : Rd R size ok w v ps) : Rd R size ok' w' v ps := by
  obtain ⟨A, c, rfl, h1, h2, h0, h3⟩ := h
  refine ⟨A, c, rfl, h1, h2, h0, fun hp => ?_⟩
  obtain ⟨g, off, rfl, hg, hc⟩ := h3 hp
  have hlt : g < w.heap.size := by
    obtain ⟨cs, hl, _, hu⟩ := hc 0 _ (List.getElem?_eq_getElem hp)
    exact World.block_lt_of_cell? w ⟨g, off + 0 * size + 0, none⟩ (hu 0 _ (List.getElem?_eq_getElem (by omega)))
  refine ⟨g, off, rfl, hm.ok g hlt hg, fun j p hj => ?_⟩
  obtain ⟨cs, hl, hr, hu⟩ := hc j p hj
  exact ⟨cs, hl, hR _ _ _ _ _ _ hm hr, fun i u hi => hm.cell hg (hu i u hi)⟩

theorem Rd.len {α : Type} {R : (Nat → Prop) → World → List Value → α → Prop} {size : Nat} {ok : Nat → Prop} {w : World} {v : Value} {ps : List α} (h : Rd R size ok w v ps) : ps.length ≤ maxLen := by
  obtain ⟨A, c, _, h1, h2, _⟩ := h
  omega

theorem Rd.nil {α : Type} (R : (Nat → Prop) → World → List Value → α → Prop) (size : Nat) (ok : Nat → Prop) (w : World) : Rd R size ok w (.slice none 0 0) ([] : List α) :=
  ⟨none, 0, rfl, Nat.le_refl _, Nat.zero_le _, fun _ => rfl, fun h => by simp at h⟩

/-- Whole numbers of a kind, one cell each. -/
def RInt (k : IntKind) (_ : Nat → Prop) (_ : World) (cs : List Value) (x : Int) : Prop := cs = [.int k x]
theorem RInt.mov (k : IntKind) : Movable (RInt k) := fun _ _ _ _ _ _ _ h => h
abbrev Ints (k : IntKind) := Rd (RInt k) 1

/-- A row of the call's own, read as data. -/
theorem Row.rd {α : Type} {R : (Nat → Prop) → World → List Value → α → Prop} {size : Nat} {S ok : Nat → Prop} {w : World} {e : TypeId} {v : Value} {ps : List α} {xs : List Value}
    (h : Row S w e size v ps.length xs) (hS : ∀ g, S g → ok g) (hR : ∀ j p, ps[j]? = some p → ∃ cs, cs.length = size ∧ R ok w cs p ∧ ∀ i u, cs[i]? = some u → xs[j * size + i]? = some u) : Rd R size ok w v ps := by
  obtain ⟨A, c, rfl, h1, h2, h0⟩ := h.slice
  refine ⟨A, c, rfl, h1, h2, h0, fun hp => ?_⟩
  obtain ⟨g, c', he, _, _, hg, _, hc, _⟩ := h.form hp
  injection he with he _ _
  refine ⟨g, 0, he, hS g hg, fun j p hj => ?_⟩
  obtain ⟨cs, hl, hr, hu⟩ := hR j p hj
  refine ⟨cs, hl, hr, fun i u hi => ?_⟩
  rw [Nat.zero_add]
  exact hc _ u (hu i u hi)
theorem Row.ints {k : IntKind} {S ok : Nat → Prop} {w : World} {e : TypeId} {v : Value} {ps : List Int} (h : Row S w e 1 v ps.length (ps.map (.int k))) (hS : ∀ g, S g → ok g) : Ints k ok w v ps :=
  h.rd hS fun j p hj => ⟨[.int k p], rfl, rfl, fun i u hi => by
    obtain ⟨rfl, rfl⟩ : i = 0 ∧ u = .int k p := by
      match i, hi with
      | 0, hi => exact ⟨rfl, by simpa using hi.symm⟩
      | i + 1, hi => simp at hi
    simp [hj]⟩
theorem Ints.at_ {k : IntKind} {ok : Nat → Prop} {w : World} {v : Value} {ps : List Int} (h : Ints k ok w v ps) : ∃ A c, v = .slice A ps.length c ∧ ps.length ≤ c ∧ c ≤ maxLen ∧ (A = none → c = 0) ∧
    (0 < ps.length → ∃ g off, A = some ⟨g, off, none⟩ ∧ ok g ∧ ∀ j x, ps[j]? = some x → w.cell? ⟨g, off + j, none⟩ = some (.int k x)) := by
  obtain ⟨A, c, hv, h1, h2, h0, h3⟩ := h
  refine ⟨A, c, hv, h1, h2, h0, fun hp => ?_⟩
  obtain ⟨g, off, hA, hg, hc⟩ := h3 hp
  refine ⟨g, off, hA, hg, fun j x hj => ?_⟩
  obtain ⟨cs, _, hr, hu⟩ := hc j x hj
  have hr' : cs = [.int k x] := hr
  subst hr'
  simpa using hu 0 _ rfl

end Go.Proofs.YtaobleahcceffaaDoor
