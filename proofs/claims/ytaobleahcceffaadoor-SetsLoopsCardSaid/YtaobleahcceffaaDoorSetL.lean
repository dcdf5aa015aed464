/-
  The contracts of a set of numbers, told by its rising list: Of, Clone, Join, Minus, Same, Len, a loop over it. Conditions: sets that there are; the de Bruijn table as its initialiser lays it for the loop.
-/
import Derived.Test.YtaobleahcceffaaDoorPlain
import Derived.Test.YtaobleahcceffaaDoorAll
import Derived.Laws.AppendOwnNone
set_option linter.unusedVariables false
set_option linter.unusedSimpArgs false
namespace Go.Proofs.YtaobleahcceffaaDoor
open Go.RowKit

/-- A list that a set can be. -/
structure LS (l : List Int) : Prop where
  rise : l.Pairwise (· < ·)
  small : ∀ n ∈ l, 0 ≤ n ∧ n ≤ 65535

theorem LS.bl {ws : List Nat} (h : BOk ws) : LS (Go.Proofs.YtaobleahcceffaaDoor.bl ws) := ⟨bl_sorted ws, fun n hn => ⟨(mem_bl.1 hn).1, by have := bl_small h hn; omega⟩⟩
theorem mem_r3put {l : List Int} {n m : Int} : m ∈ r3put l n ↔ m ∈ l ∨ (m = n ∧ 0 ≤ n ∧ n ≤ 65535) := by
  unfold r3put
  split
  · constructor
    · exact .inl
    · rintro (h | ⟨_, _, _⟩)
      · exact h
      · omega
  · rw [mem_rputG]
    constructor
    · rintro (h | h)
      · exact .inl h
      · exact .inr ⟨h, by omega, by omega⟩
    · rintro (h | h)
      · exact .inl h
      · exact .inr h.1
theorem sorted_r3put {l : List Int} (h : l.Pairwise (· < ·)) (n : Int) : (r3put l n).Pairwise (· < ·) := by
  unfold r3put
  split
  · exact h
  · exact sorted_rputG h n
theorem mem_foldl_put : ∀ (l acc : List Int) (n : Int), n ∈ l.foldl r3put acc ↔ n ∈ acc ∨ (n ∈ l ∧ 0 ≤ n ∧ n ≤ 65535)
  | [], acc, n => by simp
  | a :: l, acc, n => by
    rw [List.foldl_cons, mem_foldl_put l, mem_r3put, List.mem_cons]
    constructor
    · rintro ((h | ⟨rfl, h⟩) | ⟨h, h2⟩)
      · exact .inl h
      · exact .inr ⟨.inl rfl, h⟩
      · exact .inr ⟨.inr h, h2⟩
    · rintro (h | ⟨h | h, h2⟩)
      · exact .inl (.inl h)
      · subst h; exact .inl (.inr ⟨rfl, h2⟩)
      · exact .inr ⟨h, h2⟩
theorem sorted_foldl_put : ∀ (l : List Int) {acc : List Int}, acc.Pairwise (· < ·) → (l.foldl r3put acc).Pairwise (· < ·)
  | [], _, h => h
  | a :: l, _, h => sorted_foldl_put l (sorted_r3put h a)
theorem mem_rof {l : List Int} {n : Int} : n ∈ rof l ↔ n ∈ l ∧ 0 ≤ n ∧ n ≤ 65535 := by
  unfold rof
  rw [mem_foldl_put]
  simp
theorem LS.rof (l : List Int) : LS (Go.Proofs.YtaobleahcceffaaDoor.rof l) := ⟨sorted_foldl_put l List.Pairwise.nil, fun n hn => (mem_rof.1 hn).2⟩
theorem LS.ext {l m : List Int} (hl : LS l) (hm : LS m) (h : ∀ n, n ∈ l ↔ n ∈ m) : l = m := sorted_ext hl.rise hm.rise h
theorem LS.self {l : List Int} (h : LS l) : Go.Proofs.YtaobleahcceffaaDoor.rof l = l := (LS.rof l).ext h fun n => by
  rw [mem_rof]
  exact ⟨fun h => h.1, fun hn => ⟨hn, h.small n hn⟩⟩
theorem LS.sub {l m : List Int} (hl : LS l) (hm : LS m) (h : ∀ n ∈ l, n ∈ m) : l.length < m.length ↔ ∃ n, n ∈ m ∧ n ∉ l := by
  have e : l = m.filter (fun n => decide (n ∈ l)) := hl.ext ⟨hm.rise.filter _, fun n hn => hm.small n (List.mem_filter.1 hn).1⟩ fun n => by
    rw [List.mem_filter]
    simp only [decide_eq_true_eq]
    exact ⟨fun hn => ⟨h n hn, hn⟩, fun hn => hn.2⟩
  have e2 := List.length_filter_lt_length_iff_exists (p := fun n => decide (n ∈ l)) (l := m)
  rw [← e] at e2
  rw [e2]
  simp
/-- Two lists joined, one taken from the other. -/
def ljoin (l m : List Int) : List Int := rof (l ++ m)
def lminus (l m : List Int) : List Int := l.filter fun n => !m.contains n
theorem mem_ljoin {l m : List Int} (hl : LS l) (hm : LS m) {n : Int} : n ∈ ljoin l m ↔ n ∈ l ∨ n ∈ m := by
  unfold ljoin
  rw [mem_rof, List.mem_append]
  constructor
  · exact fun h => h.1
  · rintro (h | h)
    · exact ⟨.inl h, hl.small n h⟩
    · exact ⟨.inr h, hm.small n h⟩
theorem mem_lminus {l m : List Int} {n : Int} : n ∈ lminus l m ↔ n ∈ l ∧ n ∉ m := by
  unfold lminus
  rw [List.mem_filter]
  simp
theorem LS.minus {l : List Int} (h : LS l) (m : List Int) : LS (lminus l m) := ⟨h.rise.filter _, fun n hn => h.small n (mem_lminus.1 hn).1⟩
theorem LS.join (l m : List Int) : LS (ljoin l m) := LS.rof _
theorem bl_join {V W : List Nat} (hV : BOk V) (hW : BOk W) : bl (bjoin V W W.length) = ljoin (bl V) (bl W) :=
  sorted_ext (bl_sorted _) (LS.join _ _).rise fun n => by
    rw [mem_ljoin (LS.bl hV) (LS.bl hW), mem_bl, mem_bl, mem_bl, bhas_join, Bool.or_eq_true]
    constructor
    · rintro ⟨h0, h | h⟩
      · exact .inl ⟨h0, h⟩
      · exact .inr ⟨h0, h⟩
    · rintro (⟨h0, h⟩ | ⟨h0, h⟩)
      · exact ⟨h0, .inl h⟩
      · exact ⟨h0, .inr h⟩
theorem bl_joined {V W : List Nat} (hV : BOk V) (hW : BOk W) : bjoined V W W.length = decide ((bl V).length < (ljoin (bl V) (bl W)).length) := by
  rw [Bool.eq_iff_iff, bjoined_iff hV hW, decide_eq_true_eq, (LS.bl hV).sub (LS.join _ _) fun n hn => (mem_ljoin (LS.bl hV) (LS.bl hW)).2 (.inl hn)]
  constructor
  · rintro ⟨n, h1, h2⟩
    refine ⟨n, (mem_ljoin (LS.bl hV) (LS.bl hW)).2 (.inr (mem_bl.2 ⟨by omega, by simpa using h1⟩)), fun h => ?_⟩
    have := (mem_bl.1 h).2
    simp [h2] at this
  · rintro ⟨n, h1, h2⟩
    rcases (mem_ljoin (LS.bl hV) (LS.bl hW)).1 h1 with h | h
    · exact absurd h h2
    · obtain ⟨h0, hb⟩ := mem_bl.1 h
      refine ⟨n.toNat, hb, ?_⟩
      cases hv : bhas V n.toNat
      · rfl
      · exact absurd (mem_bl.2 ⟨h0, hv⟩) h2
theorem bl_minus {V W : List Nat} (hV : BOk V) (hW : BOk W) : bl (bminus V W (min W.length V.length)) = lminus (bl V) (bl W) :=
  sorted_ext (bl_sorted _) ((LS.bl hV).minus _).rise fun n => by
    rw [mem_lminus, mem_bl, mem_bl, mem_bl, bhas_minus hV hW, Bool.and_eq_true, Bool.not_eq_true']
    constructor
    · rintro ⟨h0, h1, h2⟩
      exact ⟨⟨h0, h1⟩, fun h => by rw [h2] at h; exact absurd h.2 (by simp)⟩
    · rintro ⟨⟨h0, h1⟩, h2⟩
      refine ⟨h0, h1, ?_⟩
      cases hw : bhas W n.toNat
      · rfl
      · exact absurd ⟨h0, hw⟩ h2
theorem bl_met {V W : List Nat} (hV : BOk V) (hW : BOk W) : bmet V W (min W.length V.length) = decide ((lminus (bl V) (bl W)).length < (bl V).length) := by
  rw [Bool.eq_iff_iff, bmet_iff hW, decide_eq_true_eq, ((LS.bl hV).minus _).sub (LS.bl hV) fun n hn => (mem_lminus.1 hn).1]
  constructor
  · rintro ⟨n, h1, h2⟩
    refine ⟨n, mem_bl.2 ⟨by omega, by simpa using h2⟩, fun h => (mem_lminus.1 h).2 (mem_bl.2 ⟨by omega, by simpa using h1⟩)⟩
  · rintro ⟨n, h1, h2⟩
    obtain ⟨h0, hb⟩ := mem_bl.1 h1
    refine ⟨n.toNat, ?_, hb⟩
    by_cases hw : n ∈ bl W
    · exact (mem_bl.1 hw).2
    · exact absurd (mem_lminus.2 ⟨h1, hw⟩) h2
theorem bl_same {V W : List Nat} (hV : BOk V) (hW : BOk W) : bsame V W = decide (bl V = bl W) := by
  rw [Bool.eq_iff_iff, bsame_iff hV hW, decide_eq_true_eq]
  constructor
  · intro h
    exact sorted_ext (bl_sorted _) (bl_sorted _) fun n => by rw [mem_bl, mem_bl, h]
  · intro h n
    have h1 : (n : Int) ∈ bl V ↔ (n : Int) ∈ bl W := by rw [h]
    rw [mem_bl, mem_bl] at h1
    rw [Bool.eq_iff_iff]
    constructor
    · intro hn; simpa using (h1.1 ⟨by omega, by simpa using hn⟩).2
    · intro hn; simpa using (h1.2 ⟨by omega, by simpa using hn⟩).2
theorem lminus_self (l : List Int) : lminus l l = [] := by
  unfold lminus
  rw [List.filter_eq_nil_iff]
  intro n hn
  simpa using hn

/-- The set at b, by its list. -/
def SetAt (S : Nat → Prop) (w : World) (b : Nat) (l : List Int) : Prop := ∃ ws, BitsAt S w b ws ∧ bl ws = l
theorem SetAt.ls {S : Nat → Prop} {w : World} {b : Nat} {l : List Int} (h : SetAt S w b l) : LS l := by obtain ⟨ws, h, rfl⟩ := h; exact LS.bl h.ok
theorem SetAt.chg {S S' T : Nat → Prop} {w w' : World} {b : Nat} {l : List Int} (h : SetAt S w b l) (k : Chg S' w w') (hs : ∀ g, g < w.heap.size → S g → ¬ S' g) (hT : ∀ g, g < w'.heap.size → S g → T g) : SetAt T w' b l := by
  obtain ⟨ws, h, e⟩ := h; exact ⟨ws, (h.chg k hs).mono hT, e⟩
theorem SetAt.keep {S : Nat → Prop} {w w' : World} {b : Nat} {l : List Int} (h : SetAt S w b l) (k : Kept w w') : SetAt S w' b l := by
  obtain ⟨ws, h, e⟩ := h; exact ⟨ws, h.keep k, e⟩
theorem SetAt.mono {S T : Nat → Prop} {w : World} {b : Nat} {l : List Int} (h : SetAt S w b l) (hT : ∀ g, g < w.heap.size → S g → T g) : SetAt T w b l := by
  obtain ⟨ws, h, e⟩ := h; exact ⟨ws, h.mono hT, e⟩

theorem Tryd.sof_calls {ok : Nat → Prop} {w : World} {v : Value} {l : List Int} (h : Ints .i64 ok w v l) (hl : ∀ x ∈ l, -9223372036854775808 ≤ x ∧ x ≤ 9223372036854775807) :
    Calls Tryd.prog 7 #[v] w fun e w' => ∃ b', e = .returned (.pointer (some ⟨b', 0, none⟩)) ∧ SetAt (fun k => w.heap.size ≤ k) w' b' (rof l) ∧ Kept w w' :=
  (Tryd.of_calls h hl).mono fun e w' ⟨b', he, hb, hk⟩ => ⟨b', he, ⟨_, hb, (bl_of l).symm⟩, hk⟩
theorem Tryd.sclone_calls {S : Nat → Prop} {w : World} {b : Nat} {l : List Int} (h : SetAt S w b l) :
    Calls Tryd.prog 21 #[.pointer (some ⟨b, 0, none⟩)] w fun e w' => ∃ b', e = .returned (.pointer (some ⟨b', 0, none⟩)) ∧ SetAt (fun k => w.heap.size ≤ k) w' b' l ∧ Kept w w' := by
  obtain ⟨ws, h, rfl⟩ := h
  exact (Tryd.bclone_calls h).mono fun e w' ⟨b', he, hb, hk⟩ => ⟨b', he, ⟨_, hb, rfl⟩, hk⟩
theorem Tryd.sjoin_calls {S S2 : Nat → Prop} {w : World} {b d : Nat} {l m : List Int} (h : SetAt S w b l) (h2 : SetAt S2 w d m) (hd : ∀ k, k < w.heap.size → S2 k → ¬ S k) :
    Calls Tryd.prog 22 #[.pointer (some ⟨b, 0, none⟩), .pointer (some ⟨d, 0, none⟩)] w fun e w' => e = .returned (.bool (decide (l.length < (ljoin l m).length))) ∧ SetAt (fun k => S k ∨ w.heap.size ≤ k) w' b (ljoin l m) ∧ Chg S w w' := by
  obtain ⟨ws, h, rfl⟩ := h
  obtain ⟨vs, h2, rfl⟩ := h2
  refine (Tryd.join_calls h h2 hd).mono fun e w' ⟨he, hb, hk⟩ => ⟨?_, ⟨_, hb, bl_join h.ok h2.ok⟩, hk⟩
  rw [he, bl_joined h.ok h2.ok]
theorem Tryd.sjoin_self {S : Nat → Prop} {w : World} {b : Nat} {l : List Int} (h : SetAt S w b l) :
    Calls Tryd.prog 22 #[.pointer (some ⟨b, 0, none⟩), .pointer (some ⟨b, 0, none⟩)] w fun e w' => e = .returned (.bool false) ∧ SetAt S w' b l ∧ Chg S w w' := by
  obtain ⟨ws, h, rfl⟩ := h
  exact (Tryd.join_self h).mono fun e w' ⟨he, hb, hk⟩ => ⟨he, ⟨_, hb, rfl⟩, hk⟩
theorem Tryd.sminus_calls {S S2 : Nat → Prop} {w : World} {b d : Nat} {l m : List Int} (h : SetAt S w b l) (h2 : SetAt S2 w d m) (hd : ∀ k, k < w.heap.size → S2 k → ¬ S k) :
    Calls Tryd.prog 24 #[.pointer (some ⟨b, 0, none⟩), .pointer (some ⟨d, 0, none⟩)] w fun e w' => e = .returned (.bool (decide ((lminus l m).length < l.length))) ∧ SetAt S w' b (lminus l m) ∧ Chg S w w' := by
  obtain ⟨ws, h, rfl⟩ := h
  obtain ⟨vs, h2, rfl⟩ := h2
  refine (Tryd.minus_calls h h2 hd).mono fun e w' ⟨he, hb, hk⟩ => ⟨?_, ⟨_, hb, bl_minus h.ok h2.ok⟩, hk⟩
  rw [he, bl_met h.ok h2.ok]
theorem Tryd.sminus_self {S : Nat → Prop} {w : World} {b : Nat} {l : List Int} (h : SetAt S w b l) :
    Calls Tryd.prog 24 #[.pointer (some ⟨b, 0, none⟩), .pointer (some ⟨b, 0, none⟩)] w fun e w' => e = .returned (.bool (decide (0 < l.length))) ∧ SetAt S w' b [] ∧ Chg S w w' := by
  obtain ⟨ws, h, rfl⟩ := h
  refine (Tryd.minus_self h).mono fun e w' ⟨he, hb, hk⟩ => ⟨?_, ⟨_, hb, by rw [bl_minus h.ok h.ok, lminus_self]⟩, hk⟩
  rw [he, bl_met h.ok h.ok, lminus_self]
  rfl
theorem Tryd.ssame_calls {S S2 : Nat → Prop} {w : World} {b d : Nat} {l m : List Int} (h : SetAt S w b l) (h2 : SetAt S2 w d m) :
    Calls Tryd.prog 23 #[.pointer (some ⟨b, 0, none⟩), .pointer (some ⟨d, 0, none⟩)] w fun e w' => e = .returned (.bool (decide (l = m))) ∧ w = w' := by
  obtain ⟨ws, h, rfl⟩ := h
  obtain ⟨vs, h2, rfl⟩ := h2
  refine (Tryd.bsame_calls h h2).mono fun e w' ⟨he, hw⟩ => ⟨?_, hw⟩
  rw [he, bl_same h.ok h2.ok]
theorem Tryd.slen_calls {S : Nat → Prop} {w : World} {b : Nat} {l : List Int} (h : SetAt S w b l) :
    Calls Tryd.prog 15 #[.pointer (some ⟨b, 0, none⟩)] w fun e w' => e = .returned (.int .i64 (l.length : Nat)) ∧ w = w' := by
  obtain ⟨ws, h, rfl⟩ := h
  rw [bl_len]
  exact Tryd.len_calls h
theorem Tryd.sall_calls {S : Nat → Prop} {w : World} {b : Nat} {l : List Int} (h : SetAt S w b l) (hT : Tab w) :
    Calls Tryd.prog 13 #[.pointer (some ⟨b, 0, none⟩)] w fun e w' => ∃ v, e = .returned (.tuple #[v, .bool true]) ∧ Ints .i64 (fun k => w.heap.size ≤ k) w' v l ∧ Kept w w' := by
  obtain ⟨ws, h, rfl⟩ := h
  refine (Tryd.all_calls h hT).mono fun e w' ⟨v, he, hr, hk⟩ => ⟨v, he, ?_, hk⟩
  have e : (bl ws).map (Value.int .i64) = (blist ws).map fun (n : Nat) => Value.int .i64 n := by simp [bl]
  rw [← bl_len, ← e] at hr
  exact hr.ints fun _ h => h
/-- Of any two slices of numbers. -/
theorem Ints.move {k : IntKind} {ok ok' S : Nat → Prop} {w w' : World} {v : Value} {l : List Int} (h : Ints k ok w v l) (c : Chg S w w') (hs : ∀ g, g < w.heap.size → ok g → ¬ S g ∧ ok' g) : Ints k ok' w' v l :=
  Rd.move (RInt.mov _) (c.moves hs) (by omega) h

section
variable {P : Program} {ops : Array Oper} {rest : List Oper} {o : Oper} {a : Act} {Q : Exit → Act → World → Prop}
/-- append(v, x...): v the call's own row of numbers, x a slice that reads as numbers. -/
theorem row_append_ints {W : World} (S : Nat → Prop) (hgd : o.guard = none) (s x : Operand) (t e : TypeId) (bytes : Nat)
    (ho : o.op = .call { callee := .builtin .append, args := #[s, x], argTypes := #[t, t] })
    (ht : P.underlying t = some (.slice e)) (hinfo : (P.info? e).map (fun i => (i.zero, i.size, i.bytes)) = some (some (.int .i64 0), 1, bytes)) (hb0 : 0 < bytes)
    (v : Value) (n : Nat) (xs : List Value) (hs : a.eval s = v) (HO : Row S W e 1 v n xs) (xv : Value) (hx : a.eval x = xv) {ok : Nat → Prop} (l : List Int) (HI : Ints .i64 ok W xv l) (hlen : (n + l.length) * bytes ≤ 140737488355328)
    (h : ∀ v1 w1, Row (fun b => S b ∨ W.heap.size ≤ b) w1 e 1 v1 (n + l.length) (xs ++ l.map (.int .i64)) → Chg (fun k => v.ownBlock = some k) W w1 → wpList P ops Q rest (a.put o.dst v1) w1) :
    wpList P ops Q (o :: rest) a W := by
  obtain ⟨A, c, rfl, h1, h2, h3, h4⟩ := HI.at_
  cases A with
  | none =>
    obtain rfl : c = 0 := h3 rfl
    obtain rfl : l = [] := List.eq_nil_of_length_eq_zero (by omega)
    obtain ⟨i0, hi, -⟩ := Option.map_eq_some_iff.1 hinfo
    refine wpList_append_own_none hgd s x t ho 0 e i0 1 ht hi v n xs hs HO.own hx ?_
    exact h v W (by simpa using HO.mono fun _ _ h => .inl h) (Chg.refl _ _)
  | some ad =>
    refine row_append_any S hgd s x t e (.int .i64 0) 1 bytes ho ht hinfo rfl (by omega) hb0 v n xs hs HO ad l.length c (l.map (.int .i64)) hx (by simp) ?_ (by simp [Value.oneCell']) hlen h
    intro j u hj
    have hjl : j < l.length := by
      by_cases hj2 : j < l.length
      · exact hj2
      · rw [List.getElem?_eq_none (by simp; omega)] at hj; cases hj
    obtain ⟨g, off, he, -, -, hc⟩ := HI.cells (by omega)
    injection he with he
    subst he
    have e : (⟨g, off, none⟩ : Addr).add j = ⟨g, off + j, none⟩ := by unfold Addr.add; split <;> simp_all
    rw [e, hc j l[j] (List.getElem?_eq_getElem hjl)]
    rw [← hj]
    simp [List.getElem?_eq_getElem hjl]
end
end Go.Proofs.YtaobleahcceffaaDoor
