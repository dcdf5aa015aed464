/-
  Lists of whole numbers read out of memory, element by element; a filter, round by round. Conditions: none; nothing here speaks of a program's text.
-/
import Derived.Test.YtaobleahcceffaaDoorBase
namespace Go.Proofs.YtaobleahcceffaaDoor
open Go.RowKit

/-- Where a slice of numbers lies, and its cells in every later world that keeps what was there. -/
theorem Ints.cells {k : IntKind} {ok : Nat → Prop} {w : World} {A : Option Addr} {c : Nat} {l : List Int} (h : Ints k ok w (.slice A l.length c) l) (hp : 0 < l.length) :
    ∃ g off, A = some ⟨g, off, none⟩ ∧ ok g ∧ g < w.heap.size ∧ ∀ j x, l[j]? = some x → w.cell? ⟨g, off + j, none⟩ = some (.int k x) := by
  obtain ⟨A', c', he, _, _, _, h3⟩ := h.at_
  obtain ⟨rfl, rfl⟩ : A = A' ∧ c = c' := by injection he with a1 _ a2; exact ⟨a1, a2⟩
  obtain ⟨g, off, hA, hg, hc⟩ := h3 hp
  exact ⟨g, off, hA, hg, World.block_lt_of_cell? w ⟨g, off + 0, none⟩ (hc 0 _ (List.getElem?_eq_getElem hp)), hc⟩
theorem kept_cell {w W : World} {a : Addr} {v : Value} (k : Kept w W) (h : w.cell? a = some v) : W.cell? a = some v :=
  (World.cell?_of_block (k.block a.block (World.block_lt_of_cell? w a h) id)).trans h
theorem chg_cell {S : Nat → Prop} {w W : World} {a : Addr} {v : Value} (k : Chg S w W) (hS : ¬ S a.block) (h : w.cell? a = some v) : W.cell? a = some v :=
  (World.cell?_of_block (k.block a.block (World.block_lt_of_cell? w a h) hS)).trans h
theorem filter_yes (p : Int → Bool) (l : List Int) (j : Nat) (h : j < l.length) (hp : p l[j] = true) : (l.take (j + 1)).filter p = (l.take j).filter p ++ [l[j]] := by
  rw [List.take_succ_eq_append_getElem h, List.filter_append]
  simp [hp]
theorem filter_no (p : Int → Bool) (l : List Int) (j : Nat) (h : j < l.length) (hp : p l[j] = false) : (l.take (j + 1)).filter p = (l.take j).filter p := by
  rw [List.take_succ_eq_append_getElem h, List.filter_append]
  simp [hp]
theorem filter_take_le (p : Int → Bool) (l : List Int) (j : Nat) : ((l.take j).filter p).length ≤ l.length := by
  have h1 := List.length_filter_le p (l.take j)
  have h2 := List.length_take_le j l
  have h3 : (l.take j).length ≤ l.length := by rw [List.length_take]; omega
  omega
/-- A row of numbers with one more. -/
theorem Row.snoc_int {S : Nat → Prop} {W w1 : World} {e : TypeId} {v : Value} {k : IntKind} {xs : List Int} {x : Int} (h : Row (fun b => S b ∨ W.heap.size ≤ b) w1 e 1 v (xs.length + 1) (xs.map (.int k) ++ [.int k x])) (hS : ∀ b, W.heap.size ≤ b → S b) : Row S w1 e 1 v (xs ++ [x]).length ((xs ++ [x]).map (.int k)) := by
  simp only [List.length_append, List.length_singleton, List.map_append, List.map_cons, List.map_nil]
  exact h.mono fun b _ hb => hb.elim id (hS b)
/-- Behind an append to a row of the call's own. -/
theorem kept_append {S : Nat → Prop} {w W w1 : World} {e : TypeId} {size n : Nat} {v : Value} {xs : List Value} {o : Obj} (k : Kept w W) (hr : Row S W e size v n xs) (hS : ∀ b, S b → w.heap.size ≤ b) (h : Chg (fun b => v.ownBlock = some b) (W.alloc o) w1) : Kept w w1 :=
  (k.alloc o).trans h fun i hi hv => by have := hS i (hr.at_ i hv); omega
end Go.Proofs.YtaobleahcceffaaDoor
