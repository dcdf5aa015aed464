/-
  The walks of package sets, second part: slices.Clone, Clone, Drop, Of, Join. Conditions: sets that there are; numbers that fit an int; where two sets come in, they share no block, or are one.
-/
import Derived.Test.YtaobleahcceffaaDoorSets1
set_option linter.unusedVariables false
set_option linter.unusedSimpArgs false
namespace Go.Proofs.YtaobleahcceffaaDoor
open Go.RowKit

/-- A slice whose cells are known. -/
def Cells (w : World) (v : Value) (n size : Nat) (xs : List Value) : Prop :=
  ∃ A c, v = .slice A n c ∧ n ≤ c ∧ c ≤ maxLen ∧ (A = none → c = 0) ∧ xs.length = n * size ∧ (∀ u ∈ xs, u.oneCell' = true) ∧ ∀ ad, A = some ad → ∀ j u, xs[j]? = some u → w.cell? (ad.add j) = some u
theorem Row.cells {S : Nat → Prop} {w : World} {e : TypeId} {size : Nat} {v : Value} {n : Nat} {xs : List Value} (h : Row S w e size v n xs) (h1 : ∀ u ∈ xs, u.oneCell' = true) : Cells w v n size xs := by
  obtain ⟨A, c, rfl, hc1, hc2, hc3⟩ := h.slice
  refine ⟨A, c, rfl, hc1, hc2, hc3, h.own.1, h1, fun ad hA j u hj => ?_⟩
  subst hA
  rcases h.own.2 with ⟨hv, _⟩ | ⟨g, cap, cur, hv, _⟩
  · cases hv
  · injection hv with hv _ _
    injection hv with hv
    subst hv
    exact h.own.cells (g := g) rfl j u hj
theorem row_empty (w : World) (e : TypeId) (size : Nat) : Row (fun k => w.heap.size ≤ k) (w.alloc (.cells #[] e)) e size (.slice (some ⟨w.heap.size, 0, none⟩) 0 0) 0 [] :=
  ⟨World.ownsRow_made w #[] 0 (Nat.zero_le _) (by simp [maxLen]) (by simp), fun g hg => by simp [Value.ownBlock] at hg; omega⟩
theorem pw_cell {w : World} {o : Obj} {a : Addr} {u : Value} (h : w.cell? a = some u) : (w.alloc o).cell? a = some u :=
  (World.cell?_alloc_lt _ _ _ (World.block_lt_of_cell? w a h)).trans h

theorem Tryd.infoU64c : (Tryd.prog.info? 54).map (fun i => (i.zero, i.size, i.bytes)) = some (some (.int .u64 0), 1, 8) := by kernel_rfl
set_option maxHeartbeats 400000 in
/-- slices.Clone[[]uint64,uint64]: the same cells, in new memory; nil of nil. -/
theorem Tryd.cloneU64c_calls (w : World) (v : Value) (n : Nat) (xs : List Value) (h : Cells w v n 1 xs) (hl : n * 8 ≤ 140737488355328) :
    Calls Tryd.prog 36 #[v] w fun e w' => ∃ v', e = .returned v' ∧ Row (fun k => w.heap.size ≤ k) w' 54 1 v' n xs ∧ Kept w w' := by
  obtain ⟨A, c, rfl, h1, h2, h3, h4, h5, h6⟩ := h
  have heq := Lib.run_eql_slice_nil (P := Tryd.prog) w 51 54 A n c 0 0 Tryd.underlying51
  cases A with
  | none =>
    obtain rfl : c = 0 := h3 rfl
    obtain rfl : n = 0 := by omega
    obtain rfl : xs = [] := List.eq_nil_of_length_eq_zero (by omega)
    have H : Hid (Row (fun k => w.heap.size ≤ k) w 54 1 (.slice none 0 0) 0 [] ∧ Kept w w) := Lib.hid ⟨Row.nil _ _ _ _, Chg.refl _ _⟩
    go_enter Tryd.func36, Tryd.ntmps36
    go_wp2
    go_ret
    exact ⟨_, rfl, H.out⟩
  | some ad =>
    have HC : Hid (∀ j u, xs[j]? = some u → (w.alloc (.cells #[] 54)).cell? (ad.add j) = some u) := Lib.hid (fun j u hj => pw_cell (h6 ad rfl j u hj))
    have H5 := Lib.hid h5
    have H4 := Lib.hid h4
    clear h6 h5 h4 h3
    go_enter Tryd.func36, Tryd.ntmps36
    go_wp2_with (at_builtin; refine row_append_any (fun k => w.heap.size ≤ k) rfl _ _ 51 54 (.int .u64 0) 1 8 rfl Tryd.underlying51 Tryd.infoU64c rfl (by decide) (by decide) (.slice (some ⟨w.heap.size, 0, none⟩) 0 0) 0 [] rfl (row_empty w 54 1) ad n c xs rfl H4.out HC.out H5.out (by omega) ?_; intro v1 w1 hrow hchg; have HROW := Lib.hid hrow; have HCHG := Lib.hid hchg; clear hrow hchg)
    go_ret
    refine ⟨_, rfl, ?_, ?_⟩
    · have := HROW.out
      simp only [Nat.zero_add, List.nil_append] at this
      exact this.mono fun g _ hg => by rcases hg with hg | hg; exact hg; simp at hg; omega
    · exact ((Chg.refl _ w).alloc _).trans HCHG.out fun i hi e => by simp [Value.ownBlock] at e; omega

set_option maxHeartbeats 400000 in
theorem Tryd.bclone_calls {S : Nat → Prop} {b : Nat} {ws : List Nat} {w : World} (h : BitsAt S w b ws) :
    Calls Tryd.prog 21 #[.pointer (some ⟨b, 0, none⟩)] w fun e w' => ∃ b', e = .returned (.pointer (some ⟨b', 0, none⟩)) ∧ BitsAt (fun k => w.heap.size ≤ k) w' b' ws ∧ Kept w w' := by
  obtain ⟨sv, hb, _, hr, hok⟩ := h
  have hc : w.cell? ⟨b, 0, none⟩ = some sv := by simpa using hb.cell 0
  have hcs := hr.cells (fun u hu => by simp only [List.mem_map] at hu; obtain ⟨x, _, rfl⟩ := hu; rfl)
  have HK := Lib.hid (Tryd.cloneU64c_calls w sv _ _ hcs (by have := hok.len; omega))
  have HO := Lib.hid hok
  clear hb hr hok hcs
  go_enter Tryd.func21, Tryd.ntmps21
  go_wp2_with (first | (go_at_call 30; refine (Tryd.words_calls _ _ _ hc).mono ?_; rintro e w' ⟨rfl, rfl⟩) | (go_at_call 36; refine HK.out.mono ?_; rintro e w1 ⟨v1, rfl, hrow, hk⟩; obtain ⟨A1, c1, rfl, _, _, _⟩ := hrow.slice; have HROW := Lib.hid hrow; have HKP := Lib.hid hk; clear hrow hk))
  go_ret
  refine ⟨_, rfl, ⟨_, Blk.new w1 _ _, HKP.out.size, HROW.out.alloc _, HO.out⟩, HKP.out.alloc _⟩

/-- The words of a set of some numbers. -/
def bofs (ws : List Nat) (l : List Int) : List Nat := l.foldl putWords ws
theorem BOk.putWords {ws : List Nat} (h : BOk ws) (n : Int) : BOk (putWords ws n) := by
  unfold Go.Proofs.YtaobleahcceffaaDoor.putWords
  split
  · rename_i e
    simp [putTells] at e
    exact h.put (by omega)
  · exact h

set_option maxHeartbeats 400000 in
theorem Tryd.of_calls {ok : Nat → Prop} {w : World} {v : Value} {l : List Int} (h : Ints .i64 ok w v l) (hl : ∀ x ∈ l, -9223372036854775808 ≤ x ∧ x ≤ 9223372036854775807) :
    Calls Tryd.prog 7 #[v] w fun e w' => ∃ b', e = .returned (.pointer (some ⟨b', 0, none⟩)) ∧ BitsAt (fun k => w.heap.size ≤ k) w' b' (bofs [] l) ∧ Kept w w' := by
  obtain ⟨A, c, rfl, h1, h2, h3, h4⟩ := h.at_
  have h2' : l.length ≤ 9223372036854775807 := by unfold maxLen at h2; omega
  have HL := Lib.hid hl
  have H4 := Lib.hid h4
  clear h h4 hl h3 h2
  go_enter Tryd.func7, Tryd.ntmps7
  go_wp2_with fail
  go_loopg [10] (l.length + 1) (fun k i wr => ∃ j : Nat, j ≤ l.length ∧ i = .int .i64 j ∧ BitsAt (fun k => w.heap.size ≤ k) wr w.heap.size (bofs [] (l.take j)) ∧ Kept w wr ∧ l.length + 1 - j ≤ k)
  case atStart => exact ⟨0, Nat.zero_le _, rfl, ⟨_, Blk.new w _ _, Nat.le_refl _, by simpa [bofs] using Row.nil _ _ _ _, BOk.nil⟩, (Chg.refl _ w).alloc _, by omega⟩
  case round =>
    obtain ⟨j, hj, rfl, hb, hk, hm⟩ := hrel
    by_cases hlt : j < l.length
    · obtain ⟨g, off, rfl, hg, hcs⟩ := H4.out (by omega)
      have hcell : wr.cell? ⟨g, off + j, none⟩ = some (.int .i64 l[j]) := by
        have := hcs j l[j] (List.getElem?_eq_getElem hlt)
        exact (World.cell?_of_block (hk.block g (World.block_lt_of_cell? w ⟨g, off + j, none⟩ this) id)).trans this
      have hx := HL.out l[j] (List.getElem_mem hlt)
      have HX := Lib.hid (show bofs [] (l.take (j + 1)) = putWords (bofs [] (l.take j)) l[j] by
        rw [List.take_succ_eq_append_getElem hlt, bofs, bofs, List.foldl_append]; rfl)
      generalize l[j] = x at hcell hx HX
      have HB := Lib.hid hb
      have HK := Lib.hid hk
      have hsz := hk.size
      clear hb hk hcs
      go_wp2_with (go_at_call 10; refine (Tryd.put_calls HB.out x hx.1 hx.2).mono ?_; rintro e w1 ⟨rfl, hb1, hk1⟩; have HB1 := Lib.hid hb1; have HK1 := Lib.hid hk1; clear hb1 hk1)
      go_roundg (gk - 1)
      case measure => omega
      case rel =>
        refine ⟨j + 1, by omega, by go_num, ?_, HK.out.trans HK1.out fun i hi e => by omega, by omega⟩
        rw [HX.out]
        exact HB1.out.mono fun k _ hk => by omega
    · obtain rfl : j = l.length := by omega
      rw [List.take_length] at hb
      have HB := Lib.hid hb
      have HK := Lib.hid hk
      clear hb hk
      go_wp2
      go_ret
      exact ⟨_, rfl, HB.out, HK.out⟩
theorem clear_bit (x m : Nat) (hx : x < 18446744073709551616) : bits BinOp.andNot IntKind.u64 (x : Int) (IntKind.u64.wrap (2 ^ (m % 64))) = ((bclear x (2 ^ (m % 64)) : Nat) : Int) := by
  have h := two_pow_small m
  have e : (2 : Int) ^ (m % 64) = ((2 ^ (m % 64) : Nat) : Int) := by simp
  rw [e]
  generalize 2 ^ (m % 64) = y at h
  rw [IntKind.wrap_u64, show (y : Int) % 18446744073709551616 = y by omega]
  exact u64_andNot_nat x y hx h

/-- What Drop tells, and the words behind it. -/
def dropTells (ws : List Nat) (n : Int) : Bool := decide (0 ≤ n) && bhas ws n.toNat
def dropWords (ws : List Nat) (n : Int) : List Nat := if dropTells ws n then bdrop ws n.toNat else ws

set_option maxHeartbeats 1000000 in
theorem Tryd.drop_calls {S : Nat → Prop} {b : Nat} {ws : List Nat} {w : World} (h : BitsAt S w b ws) (n : Int) (h0 : -9223372036854775808 ≤ n) (h1 : n ≤ 9223372036854775807) :
    Calls Tryd.prog 12 #[.pointer (some ⟨b, 0, none⟩), .int .i64 n] w fun e w' => e = .returned (.bool (dropTells ws n)) ∧ BitsAt S w' b (dropWords ws n) ∧ Chg S w w' := by
  have H := Lib.hid h
  by_cases ht : dropTells ws n = true
  · rw [dropWords, ht, if_pos rfl]
    have HT := Lib.hid ht
    have hn : 0 ≤ n := by simp [dropTells] at ht; exact ht.1
    have hh : bhas ws n.toNat = true := by simp [dropTells] at ht; exact ht.2
    have hl : n.toNat / 64 < ws.length := by
      rcases Nat.lt_or_ge (n.toNat / 64) ws.length with h | h
      · exact h
      · rw [bhas_ge h] at hh; cases hh
    obtain ⟨sv, hb1, hb2, hb3, hb4⟩ := h
    obtain ⟨g, c, rfl, hc1, hc2, hg1, hg2, hcells, hfrees⟩ := hb3.form (by omega)
    have hcell : w.cell? ⟨b, 0, none⟩ = some (.slice (some ⟨g, 0, none⟩) ws.length c) := by simpa using hb1.cell 0
    have hlt' : (n / 64 : Int) < ws.length := by omega
    have hx : w.cell? ⟨g, (n / 64).toNat, none⟩ = some (.int .u64 (bword ws (n.toNat / 64))) := by
      rw [show (n / 64).toNat = n.toNat / 64 from by omega]; exact hcells _ _ (words_cell ws _ (by omega))
    have hxf : w.frozen? ⟨g, (n / 64).toNat, none⟩ = false := hfrees _
    have hs := hb4.small (n.toNat / 64)
    have HW := Lib.hid (BitsAt.word hb1 hb2 hb3 hb4 (n.toNat / 64) (bclear (bword ws (n.toNat / 64)) (2 ^ (n.toNat % 64))) (by omega) (and_small _ hs))
    have HV := Lib.hid (clear_bit (bword ws (n.toNat / 64)) n.toNat hs)
    have e : ws.set (n.toNat / 64) (bclear (bword ws (n.toNat / 64)) (2 ^ (n.toNat % 64))) = bdrop ws n.toNat := rfl
    rw [e] at HW
    clear e
    generalize bword ws (n.toNat / 64) = x at hx hs HW HV
    have HC := Lib.hid ((Chg.refl S w).setCell (p := ⟨g, n.toNat / 64, none⟩) (fun _ => hg1) (.int .u64 (bclear x (2 ^ (n.toNat % 64)) : Nat)))
    clear hb1 hb3 hcells hfrees hb4 hb2
    have HI := Lib.hid (show (n / 64).toNat = n.toNat / 64 ∧ (n % 64).toNat = n.toNat % 64 by omega)
    have HE := Lib.hid (show (decide (0 ≤ n) && bhas ws n.toNat) = true from ht)
    clear ht hh
    go_enter Tryd.func12, Tryd.ntmps12
    go_wp2_with (go_at_call 16; refine (Tryd.has_calls H.out _ h0 h1).mono ?_; rintro e w' ⟨rfl, rfl⟩; rw [HE.out])
    go_region
    all_goals
      go_wp2
      go_ret
      rw [HI.out.1, HI.out.2, HV.out]
      exact ⟨rfl, HW.out.keep ((Chg.refl _ _).drew), HC.out.drew⟩
  · have hf : dropTells ws n = false := by simpa using ht
    rw [dropWords, hf, if_neg (by simp)]
    have HE := Lib.hid (show (decide (0 ≤ n) && bhas ws n.toNat) = false from hf)
    clear ht hf h
    go_enter Tryd.func12, Tryd.ntmps12
    go_wp2_with (go_at_call 16; refine (Tryd.has_calls H.out _ h0 h1).mono ?_; rintro e w' ⟨rfl, rfl⟩; rw [HE.out])
    go_ret
    exact ⟨rfl, H.out, Chg.refl _ _⟩

theorem clear_word (x y : Nat) (hx : x < 18446744073709551616) (hy : y < 18446744073709551616) : (bits BinOp.andNot IntKind.u64 (x : Int) (y : Int) != 0) = (bclear x y != 0) := by
  rw [u64_andNot_nat x y hx hy]
  show (!(((bclear x y : Nat) : Int) == 0)) = _
  generalize bclear x y = z
  cases z with
  | zero => rfl
  | succ z =>
    have h1 : (((z + 1 : Nat) : Int) == 0) = false := by simp; omega
    have h2 : (z + 1 != 0) = true := by simp
    rw [h1, h2]; rfl

set_option maxHeartbeats 2000000 in
/-- b.Join(c), b and c two sets. -/
theorem Tryd.join_calls {S S2 : Nat → Prop} {b d : Nat} {vs ws : List Nat} {w : World} (h : BitsAt S w b vs) (h2 : BitsAt S2 w d ws) (hd : ∀ k, k < w.heap.size → S2 k → ¬ S k) :
    Calls Tryd.prog 22 #[.pointer (some ⟨b, 0, none⟩), .pointer (some ⟨d, 0, none⟩)] w fun e w' => e = .returned (.bool (bjoined vs ws ws.length)) ∧ BitsAt (fun k => S k ∨ w.heap.size ≤ k) w' b (bjoin vs ws ws.length) ∧ Chg S w w' := by
  have H := Lib.hid h
  have H2 := Lib.hid h2
  have HD := Lib.hid hd
  have hlw := h2.ok.len
  have HS := h.at_
  obtain ⟨sv2, q1, q2, q3, q4⟩ := h2
  obtain ⟨A2, c2, rfl, qc1, qc2, _⟩ := q3.slice
  have hcell2 : w.cell? ⟨d, 0, none⟩ = some (.slice A2 ws.length c2) := by simpa using q1.cell 0
  have Q3 := Lib.hid q3
  clear h hd q1 q2 q3 q4
  go_enter Tryd.func22, Tryd.ntmps22
  go_wp2_with (go_at_call 30; refine (Tryd.words_calls _ _ _ hcell2).mono ?_; rintro e w' ⟨rfl, rfl⟩)
  go_loopg [5, 13] (ws.length + 1) (fun k t i wr => ∃ j : Nat, j ≤ ws.length ∧ i = .int .i64 j ∧ t = .bool (bjoined vs ws j) ∧ BitsAt (fun k => S k ∨ w.heap.size ≤ k) wr b (bjoin vs ws j) ∧ Chg S w wr ∧ ws.length + 1 - j ≤ k)
  case atStart => exact ⟨0, Nat.zero_le _, rfl, rfl, H.out.mono fun _ _ h => .inl h, Chg.refl _ _, by omega⟩
  case round =>
    obtain ⟨j, hj, rfl, rfl, hb, hk, hm⟩ := hrel
    have HB := Lib.hid hb
    have HK := Lib.hid hk
    have hsz := hk.size
    by_cases hlt : j < ws.length
    · obtain ⟨g2, c3, he, _, _, hS2, hg2, hcs2, _⟩ := Row.form (Q3.out.chg hk HD.out) (by omega)
      obtain ⟨rfl, rfl⟩ : A2 = some ⟨g2, 0, none⟩ ∧ c2 = c3 := by injection he with a1 _ a2; exact ⟨a1, a2⟩
      clear he
      have hcell : wr.cell? ⟨g2, j, none⟩ = some (.int .u64 (bword ws j)) := hcs2 j _ (words_cell ws j hlt)
      have hy := H2.out.ok.small j
      have HX := Lib.hid (bjoined_succ vs ws j)
      have HW := Lib.hid (show bjoin vs ws (j + 1) = (bgrow (bjoin vs ws j) j).set j (bword (bgrow (bjoin vs ws j) j) j ||| bword ws j) from rfl)
      have HV := Lib.hid (show bword vs j = bword (bjoin vs ws j) j by rw [bjoin_word, if_neg (by omega)])
      rw [HV.out] at HX
      generalize hE1 : bjoined vs ws (j + 1) = t1 at HX
      have HE1 := Lib.hid hE1
      generalize bjoined vs ws j = t at HX
      generalize hE2 : bjoin vs ws (j + 1) = us1 at HW
      have HE2 := Lib.hid hE2
      clear hE1 hE2
      generalize bword ws j = y at hcell hy HX HW
      clear HV hb hk hcs2 hS2
      generalize bjoin vs ws j = us0 at HB HX HW
      have HL0 := Lib.hid HB.out.ok.len
      go_wp2_with fail
      go_loopg [] 1025 (fun k wr2 => ∃ us, BitsAt (fun k => S k ∨ w.heap.size ≤ k) wr2 b us ∧ Chg S w wr2 ∧ bgrow us j = bgrow us0 j ∧ 1025 - us.length ≤ k ∧ (us.length ≤ j + 1 ∨ us = us0))
      case atStart => exact ⟨us0, HB.out, HK.out, rfl, by omega, .inr rfl⟩
      case round =>
        obtain ⟨us, hb, hc, hg, hk, hl⟩ := hrel
        have hlen := hb.ok.len
        by_cases hle : us.length ≤ j
        · obtain ⟨sv, hb1, hb2, hb3, hb4⟩ := hb
          obtain ⟨A, c, rfl, hc1, hc2, hc3⟩ := hb3.slice
          have hcell : wr.cell? ⟨b, 0, none⟩ = some (.slice A us.length c) := by simpa using hb1.cell 0
          have hle' : (us.length : Int) ≤ j := by omega
          have HB1 := Lib.hid hb1
          have HB3 := Lib.hid hb3
          have HC := Lib.hid hc
          have hblt := hb1.lt
          have HG := Lib.hid hg
          clear hb1 hb3 hc hg
          go_wp2_with (at_builtin; refine row_append (fun k => S k ∨ w.heap.size ≤ k) rfl _ _ 51 54 (.int .u64 0) 1 8 rfl Tryd.underlying51 Tryd.infoU64 rfl (by decide) (by decide) (.slice A us.length c) us.length _ rfl (HB3.out.alloc _) ⟨wr.heap.size, 0, none⟩ 1 1 [.int .u64 0] rfl rfl (cell_one_new _ _ _) (by simp [Value.oneCell']) (by omega) (by omega) ?_; intro g1 c1 w1 hrow hchg; have HN := put_step HB1.out HB3.out hchg; have hcell1 := HN.1; have hfree1 := HN.2; have HROW := Lib.hid hrow; have HCHG := Lib.hid hchg; clear HN hrow hchg)
          go_roundg (gk - 1)
          case measure => omega
          case rel =>
            have hle := HC.out.size
            refine ⟨us ++ [0], put_round HB1.out HB3.out HROW.out HCHG.out hb2 hb4 (by omega) (fun k hk => .inr (by omega)), ?_, by rw [bgrow_step (by assumption)]; exact HG.out, by simp; omega, .inl (by simp; omega)⟩
            refine ((HC.out.alloc _).trans HCHG.out fun i hi e => ?_).setCell (fun _ => HS) _
            rcases HB3.out.at_ i e with h | h
            · exact h
            · omega
        · obtain ⟨sv, hb1, hb2, hb3, hb4⟩ := hb
          obtain ⟨g, c, rfl, hc1, hc2, hg1, hg2, hcells, hfrees⟩ := hb3.form (by omega)
          have hcellb : wr.cell? ⟨b, 0, none⟩ = some (.slice (some ⟨g, 0, none⟩) us.length c) := by simpa using hb1.cell 0
          have hle' : (j : Int) < us.length := by omega
          have hx : wr.cell? ⟨g, j, none⟩ = some (.int .u64 (bword us j)) := hcells _ _ (words_cell us _ (by omega))
          have hxf : wr.frozen? ⟨g, j, none⟩ = false := hfrees _
          have hs := hb4.small j
          have HWD := Lib.hid (BitsAt.word (T := fun k => S k ∨ w.heap.size ≤ k) hb1 hb2 hb3 hb4 j (bword us j ||| y) (by omega) (or_small hs hy))
          have HVO := Lib.hid (u64_or_nat (bword us j) y hs hy)
          have HVC := Lib.hid (clear_word y (bword us j) hy hs)
          have e0 : us = bgrow us0 j := by rw [← hg, bgrow_has (by omega)]
          have e1 : bword us j = bword us0 j := by rw [e0, bword_grow]
          have e2 : us.set j (bword us j ||| y) = us1 := by rw [HW.out, ← e0]
          rw [e2] at HWD
          rw [← e1] at HX
          have hgS : g < w.heap.size → S g := fun h => hg1.resolve_right (by omega)
          have HCW := Lib.hid (hc.setCell (p := ⟨g, j, none⟩) hgS (.int .u64 (bword us j ||| y : Nat)))
          clear e0 e1 e2
          generalize bword us j = x at hx hs HWD HVO HX HVC HCW
          clear hb1 hb3 hc hcells hfrees hg hb4 hb2 hgS
          cases t
          all_goals
            go_wp2_with fail
            go_roundg (ws.length - j)
            case measure => omega
            case rel =>
              rw [HVO.out]
              refine ⟨j + 1, by omega, by go_num, ?_, by rw [HE2.out]; exact HWD.out, HCW.out, by omega⟩
              rw [HE1.out, HX.out]
              first | rfl | (rw [Bool.false_or, ← HVC.out])
    · obtain rfl : j = ws.length := by omega
      clear hb hk
      go_wp2
      go_ret
      exact ⟨rfl, HB.out, HK.out⟩
end Go.Proofs.YtaobleahcceffaaDoor
