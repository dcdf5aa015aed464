/-
  The walks of package sets: words, Has, Put, Drop. Conditions: a set that there is (its block and its row known), numbers that fit an int.
-/
import Derived.Test.YtaobleahcceffaaDoorProg
import Derived.Test.YtaobleahcceffaaDoorBits
import Derived.RegionTactic
import Derived.Deep.LoopGhost
import Derived.KernelRfl
import Derived.Outline
set_option linter.unusedVariables false
set_option linter.unusedSimpArgs false
namespace Go.Proofs.YtaobleahcceffaaDoor
open Go.RowKit

/-- The set at block b has the words ws; its blocks are of S. -/
def BitsAt (S : Nat → Prop) (w : World) (b : Nat) (ws : List Nat) : Prop :=
  ∃ sv, Blk w b #[sv] 53 ∧ S b ∧ Row S w 54 1 sv ws.length (ws.map fun (x : Nat) => Value.int .u64 x) ∧ BOk ws

theorem BitsAt.ok {S : Nat → Prop} {w : World} {b : Nat} {ws : List Nat} (h : BitsAt S w b ws) : BOk ws := by obtain ⟨_, _, _, _, h⟩ := h; exact h
theorem BitsAt.lt {S : Nat → Prop} {w : World} {b : Nat} {ws : List Nat} (h : BitsAt S w b ws) : b < w.heap.size := by obtain ⟨_, h, _⟩ := h; exact h.lt
theorem BitsAt.at_ {S : Nat → Prop} {w : World} {b : Nat} {ws : List Nat} (h : BitsAt S w b ws) : S b := by obtain ⟨_, _, h, _⟩ := h; exact h
theorem BitsAt.mono {S S' : Nat → Prop} {w : World} {b : Nat} {ws : List Nat} (h : BitsAt S w b ws) (hS : ∀ k, k < w.heap.size → S k → S' k) : BitsAt S' w b ws := by
  obtain ⟨sv, h1, h2, h3, h4⟩ := h
  exact ⟨sv, h1, hS b h1.lt h2, h3.mono hS, h4⟩
theorem BitsAt.chg {S S' : Nat → Prop} {w w' : World} {b : Nat} {ws : List Nat} (h : BitsAt S w b ws) (k : Chg S' w w') (hs : ∀ g, g < w.heap.size → S g → ¬ S' g) : BitsAt S w' b ws := by
  obtain ⟨sv, h1, h2, h3, h4⟩ := h
  exact ⟨sv, h1.chg k (hs b h1.lt h2), h2, h3.chg k hs, h4⟩
theorem BitsAt.keep {S : Nat → Prop} {w w' : World} {b : Nat} {ws : List Nat} (h : BitsAt S w b ws) (k : Kept w w') : BitsAt S w' b ws := h.chg k fun _ _ _ hf => hf

theorem words_cell (ws : List Nat) (j : Nat) (h : j < ws.length) : (ws.map fun (x : Nat) => Value.int .u64 x)[j]? = some (.int .u64 (bword ws j)) := by
  simp [bword_lt h]

theorem Tryd.words_calls (b : Nat) (sv : Value) (w : World) (hc : w.cell? ⟨b, 0, none⟩ = some sv) :
    Calls Tryd.prog 30 #[.pointer (some ⟨b, 0, none⟩)] w fun e w' => e = .returned sv ∧ w = w' := by
  go_enter Tryd.func30, Tryd.ntmps30
  go_wp2
  go_ret
  exact ⟨rfl, rfl⟩

theorem bit_test (x k : Nat) (hx : x < 18446744073709551616) : (bits BinOp.and IntKind.u64 ((x : Int) / 2 ^ k) 1 == 1) = x.testBit k := by
  have e : ((x : Int) / 2 ^ k) = ((x / 2 ^ k : Nat) : Int) := by simp
  have hl : x / 2 ^ k < 18446744073709551616 := Nat.lt_of_le_of_lt (Nat.div_le_self _ _) hx
  rw [e, Nat.testBit_eq_decide_div_mod_eq]
  generalize x / 2 ^ k = y at hl
  rw [and_one_u64 _ (by omega) (by omega)]
  rcases Nat.mod_two_eq_zero_or_one y with h | h
  · have : (y : Int) % 2 = 0 := by omega
    rw [this, h]; rfl
  · have : (y : Int) % 2 = 1 := by omega
    rw [this, h]; rfl

set_option maxHeartbeats 400000 in
theorem Tryd.has_yes (b g len cap : Nat) (n x : Int) (w : World) (hc : w.cell? ⟨b, 0, none⟩ = some (.slice (some ⟨g, 0, none⟩) len cap))
    (h0 : 0 ≤ n) (h1 : n ≤ 9223372036854775807) (hk : n / 64 < len) (hx : w.cell? ⟨g, (n / 64).toNat, none⟩ = some (.int .u64 x)) (x0 : 0 ≤ x) (x1 : x < 18446744073709551616) :
    Calls Tryd.prog 16 #[.pointer (some ⟨b, 0, none⟩), .int .i64 n] w fun e w' => e = .returned (.bool (bits BinOp.and IntKind.u64 (x / 2 ^ (n % 64).toNat) 1 == 1)) ∧ w = w' := by
  go_enter Tryd.func16, Tryd.ntmps16
  go_wp2_with (go_at_call 30; refine (Tryd.words_calls _ _ _ hc).mono ?_; rintro e w' ⟨rfl, rfl⟩)
  go_ret
  exact ⟨rfl, rfl⟩

set_option maxHeartbeats 400000 in
theorem Tryd.has_no (b len cap : Nat) (A : Option Addr) (n : Int) (w : World) (hc : w.cell? ⟨b, 0, none⟩ = some (.slice A len cap))
    (h0 : -9223372036854775808 ≤ n) (h1 : n ≤ 9223372036854775807) (hk : n < 0 ∨ len ≤ n / 64) :
    Calls Tryd.prog 16 #[.pointer (some ⟨b, 0, none⟩), .int .i64 n] w fun e w' => e = .returned (.bool false) ∧ w = w' := by
  rcases hk with hk | hk
  · go_enter Tryd.func16, Tryd.ntmps16
    go_wp2_with (go_at_call 30; refine (Tryd.words_calls _ _ _ hc).mono ?_; rintro e w' ⟨rfl, rfl⟩)
    go_ret
    exact ⟨rfl, rfl⟩
  · have h2 : 0 ≤ n := by omega
    have h3 : ¬ (n / 64 < len) := by omega
    go_enter Tryd.func16, Tryd.ntmps16
    go_wp2_with (go_at_call 30; refine (Tryd.words_calls _ _ _ hc).mono ?_; rintro e w' ⟨rfl, rfl⟩)
    go_ret
    exact ⟨rfl, rfl⟩

theorem Tryd.has_calls {S : Nat → Prop} {b : Nat} {ws : List Nat} {w : World} (h : BitsAt S w b ws) (n : Int) (h0 : -9223372036854775808 ≤ n) (h1 : n ≤ 9223372036854775807) :
    Calls Tryd.prog 16 #[.pointer (some ⟨b, 0, none⟩), .int .i64 n] w fun e w' => e = .returned (.bool (decide (0 ≤ n) && bhas ws n.toNat)) ∧ w = w' := by
  obtain ⟨sv, hb, _, hr, hok⟩ := h
  have hc : w.cell? ⟨b, 0, none⟩ = some sv := by simpa using hb.cell 0
  by_cases hn : 0 ≤ n
  · obtain ⟨m, rfl⟩ := Int.eq_ofNat_of_zero_le hn
    by_cases hl : m / 64 < ws.length
    · obtain ⟨g, c, rfl, hlc, hcm, _, _, hcell, _⟩ := hr.form (by omega)
      have hx := hcell (m / 64) _ (words_cell ws _ hl)
      have hs := hok.small (m / 64)
      have e1 : ((m : Int) / 64).toNat = m / 64 := by omega
      have e2 : ((m : Int) % 64).toNat = m % 64 := by omega
      refine (Tryd.has_yes b g _ c m (bword ws (m / 64)) w hc hn h1 (by omega) (by rw [e1]; exact hx) (by omega) (by omega)).mono ?_
      rintro e w' ⟨rfl, rfl⟩
      refine ⟨?_, rfl⟩
      rw [e2, bit_test _ _ hs]
      simp [bhas]
    · obtain ⟨A, c, rfl, hlc, _, _⟩ := hr.slice
      refine (Tryd.has_no b _ c A m w hc h0 h1 (.inr (by omega))).mono ?_
      rintro e w' ⟨rfl, rfl⟩
      refine ⟨?_, rfl⟩
      simp [bhas_ge (ws := ws) (n := m) (by omega)]
  · obtain ⟨A, c, rfl, hlc, _, _⟩ := hr.slice
    refine (Tryd.has_no b _ c A n w hc h0 h1 (.inl (by omega))).mono ?_
    rintro e w' ⟨rfl, rfl⟩
    refine ⟨?_, rfl⟩
    simp [hn]

theorem Tryd.infoU64 : (Tryd.prog.info? 54).map (fun i => (i.zero, i.size, i.bytes)) = some (some (.int .u64 0), 1, 8) := by kernel_rfl

/-- What Put tells, and the words behind it. -/
def putTells (ws : List Nat) (n : Int) : Bool := decide (0 ≤ n) && decide (n < 65536) && !bhas ws n.toNat
def putWords (ws : List Nat) (n : Int) : List Nat := if putTells ws n then bput ws n.toNat else ws

/-- Behind the append of a word the set's own cell is as it was. -/
theorem put_step {S : Nat → Prop} {wr w1 : World} {b c n : Nat} {A : Option Addr} {xs : List Value} (hb : Blk wr b #[.slice A n c] 53) (hr : Row S wr 54 1 (.slice A n c) n xs) {o : Obj}
    (k : Chg (fun k => (Value.slice A n c).ownBlock = some k) (wr.alloc o) w1) : w1.cell? ⟨b, 0, none⟩ = some (.slice A n c) ∧ w1.frozen? ⟨b, 0, none⟩ = false := by
  have h := (hb.alloc o).chg k (hr.ne_blk hb (by decide))
  exact ⟨by simpa using h.cell 0, h.free 0⟩

/-- .. and behind the store of the new row. -/
theorem put_round {T : Nat → Prop} {wr w1 : World} {b c g1 c1 : Nat} {vs : List Nat} {A : Option Addr} (hb : Blk wr b #[.slice A vs.length c] 53) (hr : Row T wr 54 1 (.slice A vs.length c) vs.length (vs.map fun (x : Nat) => Value.int .u64 x)) {o : Obj}
    (hr1 : Row (fun k => T k ∨ (wr.alloc o).heap.size ≤ k) w1 54 1 (.slice (some ⟨g1, 0, none⟩) (vs.length + 1) c1) (vs.length + 1) ((vs.map fun (x : Nat) => Value.int .u64 x) ++ [.int .u64 0]))
    (k : Chg (fun k => (Value.slice A vs.length c).ownBlock = some k) (wr.alloc o) w1) (hT : T b) (hok : BOk vs) (hl : vs.length < 1024) (hf : ∀ k, wr.heap.size ≤ k → T k) :
    BitsAt T (w1.setCell ⟨b, 0, none⟩ (.slice (some ⟨g1, 0, none⟩) (vs.length + 1) c1)) b (vs ++ [0]) := by
  have h := (hb.alloc o).chg k (hr.ne_blk hb (by decide))
  have h2 := hr1.ne_blk h (by decide)
  refine ⟨_, by simpa using h.put 0 (.slice (some ⟨g1, 0, none⟩) (vs.length + 1) c1), hT, ⟨by simpa using ownsRow_setCell_other hr1.own h2 _, fun g hg => ?_⟩, hok.snoc hl⟩
  rcases hr1.at_ g hg with h | h
  · exact h
  · simp only [World.size_alloc] at h
    exact hf g (by omega)

theorem or_bit (x m : Nat) (hx : x < 18446744073709551616) : bits BinOp.or IntKind.u64 (x : Int) (IntKind.u64.wrap (2 ^ (m % 64))) = ((x ||| 2 ^ (m % 64) : Nat) : Int) := by
  have h := two_pow_small m
  have e : (2 : Int) ^ (m % 64) = ((2 ^ (m % 64) : Nat) : Int) := by simp
  rw [e]
  generalize 2 ^ (m % 64) = y at h
  rw [IntKind.wrap_u64, show (y : Int) % 18446744073709551616 = y by omega]
  exact u64_or_nat x y hx h

/-- A word of a set's row is written. -/
theorem BitsAt.word {T : Nat → Prop} {wr : World} {b g c : Nat} {vs : List Nat} (hb : Blk wr b #[.slice (some ⟨g, 0, none⟩) vs.length c] 53) (hT : T b)
    (hr : Row T wr 54 1 (.slice (some ⟨g, 0, none⟩) vs.length c) vs.length (vs.map fun (x : Nat) => Value.int .u64 x)) (hok : BOk vs) (i y : Nat) (hi : i < vs.length) (hy : y < 18446744073709551616) :
    BitsAt T (wr.setCell ⟨g, i, none⟩ (.int .u64 y)) b (vs.set i y) := by
  have hne := hr.ne_blk hb (by decide)
  have h := hr.put i (.int .u64 y)
  refine ⟨_, by simpa using hb.other (p := ⟨g, i, none⟩) (fun e => hne (by simp [Value.ownBlock]; exact e)) (.int .u64 y), hT, ?_, hok.set hi hy⟩
  rw [List.map_set]
  simpa using h.1

set_option maxHeartbeats 1000000 in
theorem Tryd.put_yes {S : Nat → Prop} {b : Nat} {ws : List Nat} {w : World} (h : BitsAt S w b ws) (n : Int) (h0 : 0 ≤ n) (h1 : n < 65536) (hh : bhas ws n.toNat = false) :
    Calls Tryd.prog 10 #[.pointer (some ⟨b, 0, none⟩), .int .i64 n] w fun e w' => e = .returned (.bool true) ∧ BitsAt (fun k => S k ∨ w.heap.size ≤ k) w' b (bput ws n.toNat) ∧ Chg S w w' := by
  have H := Lib.hid h
  have HH := Lib.hid hh
  have HS := h.at_
  clear h hh
  go_enter Tryd.func10, Tryd.ntmps10
  go_wp2_with (go_at_call 16; refine (Tryd.has_calls H.out _ (by omega) (by omega)).mono ?_; rintro e w' ⟨rfl, rfl⟩; rw [HH.out]; simp only [Bool.and_false])
  go_loopg [] 1025 (fun k wr => ∃ vs, BitsAt (fun k => S k ∨ w.heap.size ≤ k) wr b vs ∧ Chg S w wr ∧ bgrow vs (n.toNat / 64) = bgrow ws (n.toNat / 64) ∧ 1025 - vs.length ≤ k ∧ (vs.length ≤ n.toNat / 64 + 1 ∨ vs = ws))
  case atStart => exact ⟨ws, H.out.mono fun _ _ h => .inl h, Chg.refl _ _, rfl, by omega, .inr rfl⟩
  case round =>
    obtain ⟨vs, hb, hc, hg, hk, hl⟩ := hrel
    have hlen := hb.ok.len
    by_cases hlt : vs.length ≤ n.toNat / 64
    · obtain ⟨sv, hb1, hb2, hb3, hb4⟩ := hb
      obtain ⟨A, c, rfl, hc1, hc2, hc3⟩ := hb3.slice
      have hcell : wr.cell? ⟨b, 0, none⟩ = some (.slice A vs.length c) := by simpa using hb1.cell 0
      have hfree : wr.frozen? ⟨b, 0, none⟩ = false := hb1.free 0
      have hlt' : (vs.length : Int) ≤ n / 64 := by omega
      have HB1 := Lib.hid hb1
      have HB3 := Lib.hid hb3
      have HC := Lib.hid hc
      have hblt := hb1.lt
      clear hb1 hb3 hc
      have HG := Lib.hid hg
      clear hg
      go_wp2_with (at_builtin; refine row_append (fun k => S k ∨ w.heap.size ≤ k) rfl _ _ 51 54 (.int .u64 0) 1 8 rfl Tryd.underlying51 Tryd.infoU64 rfl (by decide) (by decide) (.slice A vs.length c) vs.length _ rfl (HB3.out.alloc _) ⟨wr.heap.size, 0, none⟩ 1 1 [.int .u64 0] rfl rfl (cell_one_new _ _ _) (by simp [Value.oneCell']) (by omega) (by omega) ?_; intro g1 c1 w1 hrow hchg; have HN := put_step HB1.out HB3.out hchg; have hcell1 := HN.1; have hfree1 := HN.2; have HROW := Lib.hid hrow; have HCHG := Lib.hid hchg; clear HN hrow hchg)
      go_roundg (gk - 1)
      case measure => omega
      case rel =>
        have hle := HC.out.size
        refine ⟨vs ++ [0], put_round HB1.out HB3.out HROW.out HCHG.out hb2 hb4 (by omega) (fun k hk => .inr (by omega)), ?_, by rw [bgrow_step hlt]; exact HG.out, by simp; omega, .inl (by simp; omega)⟩
        · refine ((HC.out.alloc _).trans HCHG.out fun i hi e => ?_).setCell (fun _ => HS) _
          rcases HB3.out.at_ i e with h | h
          · exact h
          · omega
    · obtain ⟨sv, hb1, hb2, hb3, hb4⟩ := hb
      obtain ⟨g, c, rfl, hc1, hc2, hg1, hg2, hcells, hfrees⟩ := hb3.form (by omega)
      have hcell : wr.cell? ⟨b, 0, none⟩ = some (.slice (some ⟨g, 0, none⟩) vs.length c) := by simpa using hb1.cell 0
      have hfree : wr.frozen? ⟨b, 0, none⟩ = false := hb1.free 0
      have hlt' : (n / 64 : Int) < vs.length := by omega
      have hx : wr.cell? ⟨g, (n / 64).toNat, none⟩ = some (.int .u64 (bword vs (n.toNat / 64))) := by
        rw [show (n / 64).toNat = n.toNat / 64 from by omega]; exact hcells _ _ (words_cell vs _ (by omega))
      have hxf : wr.frozen? ⟨g, (n / 64).toNat, none⟩ = false := hfrees _
      have hs := hb4.small (n.toNat / 64)
      have HW := Lib.hid (BitsAt.word (T := fun k => S k ∨ w.heap.size ≤ k) hb1 hb2 hb3 hb4 (n.toNat / 64) (bword vs (n.toNat / 64) ||| 2 ^ (n.toNat % 64)) (by omega) (or_small hs (two_pow_small _)))
      have HV := Lib.hid (or_bit (bword vs (n.toNat / 64)) n.toNat hs)
      have e : vs.set (n.toNat / 64) (bword vs (n.toNat / 64) ||| 2 ^ (n.toNat % 64)) = bput ws n.toNat := by
        unfold bput
        rw [← hg, bgrow_has (by omega), ← bword_grow ws (n.toNat / 64), ← hg, bgrow_has (by omega)]
      rw [e] at HW
      clear e
      generalize bword vs (n.toNat / 64) = x at hx hs HW HV
      have hgS : g < w.heap.size → S g := fun h => hg1.resolve_right (by omega)
      have HC := Lib.hid (hc.setCell (p := ⟨g, n.toNat / 64, none⟩) hgS (.int .u64 (x ||| 2 ^ (n.toNat % 64) : Nat)))
      clear hb1 hb3 hc hcells hfrees hg hb4 hb2
      have HI := Lib.hid (show (n / 64).toNat = n.toNat / 64 ∧ (n % 64).toNat = n.toNat % 64 by omega)
      go_wp2
      go_region
      all_goals
        go_wp2
        go_ret
        rw [HI.out.1, HI.out.2, HV.out]
        exact ⟨rfl, HW.out.keep ((Chg.refl _ _).drew), HC.out.drew⟩

set_option maxHeartbeats 400000 in
theorem Tryd.put_calls {S : Nat → Prop} {b : Nat} {ws : List Nat} {w : World} (h : BitsAt S w b ws) (n : Int) (h0 : -9223372036854775808 ≤ n) (h1 : n ≤ 9223372036854775807) :
    Calls Tryd.prog 10 #[.pointer (some ⟨b, 0, none⟩), .int .i64 n] w fun e w' => e = .returned (.bool (putTells ws n)) ∧ BitsAt (fun k => S k ∨ w.heap.size ≤ k) w' b (putWords ws n) ∧ Chg S w w' := by
  have H := Lib.hid h
  have hm : BitsAt (fun k => S k ∨ w.heap.size ≤ k) w b ws := h.mono fun _ _ h => .inl h
  have HM := Lib.hid hm
  clear h hm
  by_cases hn : n < 0
  · have e : putTells ws n = false := by simp [putTells, show ¬ 0 ≤ n by omega]
    have e2 : putWords ws n = ws := by simp [putWords, e]
    rw [e, e2]
    clear e e2
    go_enter Tryd.func10, Tryd.ntmps10
    go_wp2
    go_ret
    exact ⟨rfl, HM.out, Chg.refl _ _⟩
  · by_cases hn1 : 65536 ≤ n
    · have e : putTells ws n = false := by simp [putTells, show ¬ n < 65536 by omega]
      have e2 : putWords ws n = ws := by simp [putWords, e]
      rw [e, e2]
      clear e e2
      go_enter Tryd.func10, Tryd.ntmps10
      go_wp2
      go_ret
      exact ⟨rfl, HM.out, Chg.refl _ _⟩
    · by_cases hh : bhas ws n.toNat = true
      · have e : putTells ws n = false := by simp [putTells, hh]
        have e2 : putWords ws n = ws := by simp [putWords, e]
        rw [e, e2]
        have hd : decide (0 ≤ n) = true := by simp; omega
        have HD := Lib.hid hd
        have HH := Lib.hid hh
        clear e e2 hh hd
        go_enter Tryd.func10, Tryd.ntmps10
        go_wp2_with (go_at_call 16; refine (Tryd.has_calls H.out _ (by omega) (by omega)).mono ?_; rintro e w' ⟨rfl, rfl⟩; rw [HH.out, HD.out, Bool.true_and])
        go_ret
        exact ⟨rfl, HM.out, Chg.refl _ _⟩
      · have hh' : bhas ws n.toNat = false := by simpa using hh
        have e : putTells ws n = true := by simp [putTells, hh']; omega
        have e2 : putWords ws n = bput ws n.toNat := by simp [putWords, e]
        rw [e, e2]
        exact Tryd.put_yes H.out n (by omega) (by omega) hh'
end Go.Proofs.YtaobleahcceffaaDoor
