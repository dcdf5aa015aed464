/-
  Words for ranges over functions: append within a round; what stays where a block that is no cells turns. Conditions: none; nothing here speaks of a program's text.
-/
import Derived.Test.YtaobleahcceffaaDoorBase
import Derived.RangeFuncNested
import Derived.RangeFuncBound
import Derived.RangeFuncCalls
import Derived.RangeFuncLeaves
import Derived.RangeFuncBox
import Derived.Shelf.Abstract
import Derived.OwnWalkIn
import Derived.TacticsInMore
import Derived.LoopNIn
import Derived.LoopIn
namespace Go.Proofs.YtaobleahcceffaaDoor
open Go.RowKit

section
variable {F : Fence} {fr : Nat} {P : Program} {ops : Array Oper} {rest : List Oper} {o : Oper} {a : Act} {Q : Exit → Act → World → Prop}
/-- append(v, x..) within a fence: the cells of the new elements stand ready at the address ad. -/
theorem rowIn_append {W : World} (S : Nat → Prop) (hgd : o.guard = none) (s x : Operand) (t e : TypeId) (z : Value) (size bytes : Nat)
    (ho : o.op = .call { callee := .builtin .append, args := #[s, x], argTypes := #[t, t] })
    (ht : P.underlying t = some (.slice e)) (hinfo : (P.info? e).map (fun i => (i.zero, i.size, i.bytes)) = some (some z, size, bytes)) (hz : z.cells.size = size) (hs0 : 0 < size) (hb0 : 0 < bytes)
    (v : Value) (n : Nat) (xs : List Value) (hs : a.eval s = v) (HO : Row S W e size v n xs) (ad : Addr) (m c : Nat) (news : List Value) (hx : a.eval x = .slice (some ad) m c)
    (hl : news.length = m * size) (hnews : ∀ j u, news[j]? = some u → W.cell? (ad.add j) = some u) (h1 : ∀ u ∈ news, u.oneCell' = true) (hlen : (n + m) * bytes ≤ 140737488355328)
    (hm0 : 0 < m) (h : ∀ g1 c1 w1, Row (fun b => S b ∨ W.heap.size ≤ b) w1 e size (.slice (some ⟨g1, 0, none⟩) (n + m) c1) (n + m) (xs ++ news) → Chg (fun k => v.ownBlock = some k) W w1 → wpListIn F fr P ops Q rest (a.put o.dst (.slice (some ⟨g1, 0, none⟩) (n + m) c1)) w1) :
    wpListIn F fr P ops Q (o :: rest) a W := by
  obtain ⟨i0, hi, hzz⟩ := Option.map_eq_some_iff.1 hinfo
  simp only [Prod.mk.injEq] at hzz
  obtain ⟨hz0, hz1, hz2⟩ := hzz
  have hnm : n + m ≤ 140737488355328 := Nat.le_trans (Nat.le_mul_of_pos_right _ hb0) hlen
  refine wpListIn_plain hgd fun K hK' => ?_
  obtain ⟨v', w', hrun, hown, hg, _, hat⟩ := run_append_own_at (P := P) W 0 t o.type e i0 z size bytes ht hi hz0 hz1 hz2 hz hs0 v n xs HO.own ad m c news hl hnews h1 (by simp only [maxLen]; omega) hlen (Nat.zero_le _)
  have hrow : Row (fun b => S b ∨ W.heap.size ≤ b) w' e size v' (n + m) (xs ++ news) := by
    refine ⟨hown, fun g hg' => ?_⟩
    rcases hat with hat | hat
    · exact .inl (HO.at_ g (hat ▸ hg'))
    · rw [hg'] at hat
      injection hat with hat
      exact .inr (by omega)
  obtain ⟨g1, c1, rfl, _⟩ := hrow.form (by omega)
  unfold Oper.wpIn
  refine ⟨?_, ?_⟩
  · simp [Oper.about, ho, resolve, Target.leads, Sem.run_pure]
  · rw [Oper.semAt_plain F _ _ (by rw [ho]; intro c hc'; cases hc')]
    simp [execOp, ho, resolve, invoke, builtin, hs, hx, hrun, Result.andThen]
    exact hK' _ _ (h g1 c1 w' hrow (Chg.of_grown hg))
end

/-! ### What stays where a block that is no cells turns -/
/-- The one block that has turned is no cells. -/
def NoCells (W : World) (row : Option Nat) : Prop := ∀ r, row = some r → ∃ o : Obj, W.heap[r]? = some o ∧ o.isCells = false
theorem Blk.own {W W' : World} {row : Option Nat} {b : Nat} {c : Array Value} {t : TypeId} (h : Blk W b c t) (hg : W.grownBy W' row) (hr : NoCells W row) : Blk W' b c t := by
  refine (hg.block b h.lt fun e => ?_).trans h
  obtain ⟨o, ho, hc⟩ := hr b e.symm
  unfold Blk at h
  rw [h] at ho; cases ho; cases hc
theorem Row.own_ {S : Nat → Prop} {W W' : World} {row : Option Nat} {e : TypeId} {size : Nat} {v : Value} {n : Nat} {xs : List Value} (h : Row S W e size v n xs) (hg : W.grownBy W' row) (hr : NoCells W row) : Row S W' e size v n xs := by
  refine ⟨⟨h.own.1, ?_⟩, h.at_⟩
  rcases h.own.2 with h2 | ⟨g, cap, cur, rfl, hb, hh, r⟩
  · exact .inl h2
  · exact .inr ⟨g, cap, cur, rfl, hb, Blk.own hh hg hr, r⟩
theorem Chg.own {S : Nat → Prop} {w W W' : World} {row : Option Nat} (h : Chg S w W) (hg : W.grownBy W' row) (hr : ∀ r, row = some r → w.heap.size ≤ r) : Chg S w W' :=
  h.grown hg fun k hk hlt => by have := hr k hk; omega
theorem Kept.others {W W' : World} (h : Kept W W') : KeepsOthers W W' :=
  ⟨h.size, fun k o hk _ => (h.block k (Array.getElem?_eq_some_iff.1 hk).1 id).trans hk⟩
/-- What has turned is cells. -/
theorem Chg.others {S : Nat → Prop} {W W' : World} (h : Chg S W W') (hS : ∀ k o, S k → W.heap[k]? = some o → o.isCells = true) : KeepsOthers W W' :=
  ⟨h.size, fun k o hk ho => (h.block k (Array.getElem?_eq_some_iff.1 hk).1 fun hs => by rw [hS k o hs hk] at ho; cases ho).trans hk⟩
end Go.Proofs.YtaobleahcceffaaDoor
