/-
  The walk of SetsPlays: it answers true whatever the numbers. Conditions: a slice that reads as numbers of the machine's width; the de Bruijn table as its initialiser lays it.
-/
import Derived.Test.YtaobleahcceffaaDoorLives
import Derived.Test.YtaobleahcceffaaDoorPlain
import Derived.Test.YtaobleahcceffaaDoorAll
set_option linter.unusedVariables false
set_option linter.unusedSimpArgs false
namespace Go.Proofs.YtaobleahcceffaaDoor
open Go.RowKit

theorem bl_map (ws : List Nat) : (bl ws).map (Value.int .i64) = (blist ws).map fun (n : Nat) => Value.int .i64 n := by simp [bl]

theorem cell_same {w W : World} {a : Addr} (h : W.heap[a.block]? = w.heap[a.block]?) : W.cell? a = w.cell? a := by unfold World.cell?; rw [h]
theorem kept_two {w w1 wr : World} {a : Addr} {v : Value} (k1 : Kept w w1) (k2 : Kept w wr) (h : a.block < w.heap.size) (hc : w1.cell? a = some v) : wr.cell? a = some v :=
  (cell_same ((k2.block _ h id).trans (k1.block _ h id).symm)).trans hc

/-- The list and the set of a game, apart from one another; what was there at first stays. -/
structure Play (w0 w : World) (b : Nat) (ws : List Nat) (u : Value) : Prop where
  mk ::
  set : ∃ S : Nat → Prop, BitsAt S w b ws ∧ Ints .i64 (fun k => ¬ S k) w u (bl ws) ∧ ∀ k, S k → w0.heap.size ≤ k ∧ k < w.heap.size
  kept : Kept w0 w

theorem Play.turn {w0 w w1 w2 : World} {b : Nat} {ws' : List Nat} {S : Nat → Prop} {v : Value} {ok : Nat → Prop} (hS : ∀ k, S k → w0.heap.size ≤ k ∧ k < w.heap.size) (hk : Kept w0 w)
    (hl : Ints .i64 ok w1 v (bl ws')) (hok : ∀ k, ok k → ¬ S k ∨ w.heap.size ≤ k) (k1 : Kept w w1) (hb : BitsAt (fun k => S k ∨ w1.heap.size ≤ k) w2 b ws') (k2 : Chg S w1 w2) : Play w0 w2 b ws' v := by
  have s0 := hk.size
  have s1 := k1.size
  have s2 := k2.size
  refine ⟨⟨fun k => (S k ∨ w1.heap.size ≤ k) ∧ k < w2.heap.size, hb.mono fun k h1 h2 => ⟨h2, h1⟩, ?_, ?_⟩, ?_⟩
  · refine Rd.move (RInt.mov _) (k2.moves fun k hk h => ?_) (by omega) hl
    have : ¬ S k := by
      rcases hok k h with h | h
      · exact h
      · exact fun hs => by have := (hS k hs).2; omega
    exact ⟨this, fun ⟨h1, _⟩ => h1.elim this (fun h1 => by omega)⟩
  · rintro k ⟨h1, h2⟩
    refine ⟨?_, h2⟩
    rcases h1 with h1 | h1
    · exact (hS k h1).1
    · omega
  · exact (hk.then k1).trans k2 fun i hi hs => by have := (hS i hs).1; omega

set_option maxRecDepth 100000 in
set_option maxHeartbeats 400000 in
theorem Tryd.plays_calls {ok : Nat → Prop} {w : World} {v : Value} {l : List Int} (h : Ints .i64 ok w v l) (hb : ∀ x ∈ l, -9223372036854775808 ≤ x ∧ x ≤ 9223372036854775807) (ask : Int) (ha : -9223372036854775808 ≤ ask ∧ ask ≤ 9223372036854775807) (hT : Tab w) :
    Calls Tryd.prog 3 #[v, .int .i64 ask] w fun e w' => e = .returned (.bool true) ∧ Kept w w' := by
  have H := Lib.hid h
  have HT := Lib.hid hT
  clear h hT
  have H0 := Lib.hid (Rd.nil (RInt .i64) 1 (fun _ => True) w)
  obtain ⟨l', hl'⟩ : ∃ l', l' = l.take 100 := ⟨_, rfl⟩
  have hl100 : l'.length ≤ 100 := by rw [hl', List.length_take]; omega
  have hb' : ∀ x ∈ l', -9223372036854775808 ≤ x ∧ x ≤ 9223372036854775807 := fun x hx => hb x (List.mem_of_mem_take (by rw [← hl']; exact hx))
  have HBD := Lib.hid hb'
  have HL := Lib.hid hl'
  clear hb hb' hl'
  go_enter Tryd.func3, Tryd.ntmps3
  go_wp2_with first
    | (go_at_call 7; refine (Tryd.of_calls H0.out (by simp)).mono ?_; rintro e w1 ⟨b, rfl, hb, hk⟩; have HB1 : Hid (BitsAt (fun k => w.heap.size ≤ k) w1 b []) := Lib.hid hb; have HK1 := Lib.hid hk; have HH : Hid (Ints .i64 (fun k => k < w.heap.size) w1 v l) := Lib.hid (Rd.move (RInt.mov _) (hk.moves fun _ hlt _ => ⟨id, hlt⟩) (by omega) H.out); clear hb hk)
    | (go_at_call 8; refine (Tryd.cut_calls HH.out).mono ?_; rintro e w' ⟨v', rfl, hi, rfl⟩; rw [← HL.out] at hi; obtain ⟨A, c, rfl, hc1, -, -, -⟩ := hi.at_; have HI := Lib.hid hi; clear hi)
  have P0 : Play w w1 b [] (.slice none 0 0) := ⟨⟨fun k => w.heap.size ≤ k ∧ k < w1.heap.size, HB1.out.mono fun k h1 h2 => ⟨h2, h1⟩, Rd.nil _ _ _ _, fun _ h => h⟩, HK1.out⟩
  have HP0 := Lib.hid P0
  clear P0
  go_loopg [6, 17] (l'.length + 1) (fun k u i wr => ∃ (j : Nat) (ws : List Nat), j ≤ l'.length ∧ i = .int .i64 j ∧ Play w wr b ws u ∧ (bl ws).length ≤ j ∧ l'.length + 1 - j ≤ k)
  case atStart => exact ⟨0, [], Nat.zero_le _, rfl, HP0.out, Nat.le_refl _, by omega⟩
  case round =>
    obtain ⟨j, ws, hj, rfl, hp, hlen, hm⟩ := hrel
    obtain ⟨⟨S, hbs, hu, hS⟩, hkw⟩ := hp
    obtain ⟨A2, c2, rfl, hc2, hc3, -, -⟩ := hu.at_
    have hok := hbs.ok
    by_cases hlt : j < l'.length
    · obtain ⟨g, off, rfl, hgw, _, hc⟩ := HI.out.cells (by omega)
      have hcell := kept_two (a := ⟨g, off + j, none⟩) HK1.out hkw hgw (hc j l'[j] (List.getElem?_eq_getElem hlt))
      have hbd := HBD.out l'[j] (List.getElem_mem hlt)
      generalize l'[j] = x at hcell hbd
      by_cases hx : 0 ≤ x
      · have hw : -1 < x := by omega
        have hq : putTells ws x = decide ((bl ws).length < (bl (putWords ws x)).length) := put_tells hok x
        have hpl : (bl (putWords ws x)).length ≤ (bl ws).length + 1 := by rw [← bl_put hok]; exact r3put_len _ _
        have HR := Lib.hid (Tryd.r3put_calls hu (by omega) x)
        rw [bl_put hok] at HR
        have HB := Lib.hid fun (w2 : World) (k : Kept wr w2) => Tryd.put_calls (hbs.keep k) x hbd.1 hbd.2
        obtain ⟨N1, hN1⟩ : ∃ N1, N1 = (bl ws).length := ⟨_, rfl⟩
        obtain ⟨N2, hN2⟩ : ∃ N2, N2 = (bl (putWords ws x)).length := ⟨_, rfl⟩
        rw [← hN1] at hu hq hpl hlen HR hc2 ⊢
        rw [← hN2] at hq hpl
        have HU := Lib.hid hu
        have HS := Lib.hid hS
        have HBS := Lib.hid hbs
        have HKW := Lib.hid hkw
        have HOK := Lib.hid hok
        have HN1 := Lib.hid hN1
        have HN2 := Lib.hid hN2
        clear hu hS hbs hkw hok hN1 hN2 hc hc3
        by_cases hlt2 : N1 < N2
        · have hqq : putTells ws x = true := by rw [hq]; exact decide_eq_true hlt2
          have hd : decide (N1 < N2) = true := decide_eq_true hlt2
          have HQ := Lib.hid hqq
          clear hq hqq
          go_wp2_with first
            | (go_at_call 9; refine HR.out.mono ?_; rintro e w2 ⟨v2, rfl, hi, hk2⟩; obtain ⟨A3, c3, rfl, hc5, -⟩ := hi.at_; rw [← HN2.out] at hi hc5 ⊢; have HI2 := Lib.hid hi; have HK2 := Lib.hid hk2; clear hi hk2)
            | (go_at_call 10; refine (HB.out _ HK2.out).mono ?_; rintro e w3 ⟨rfl, hb3, hk3⟩; rw [HQ.out]; have HB3 := Lib.hid hb3; have HK3 := Lib.hid hk3; clear hb3 hk3)
          go_roundg (l'.length - j)
          case measure => omega
          case rel => exact ⟨j + 1, putWords ws x, by omega, by go_num, Play.turn HS.out HKW.out HI2.out (fun _ h => h) HK2.out HB3.out HK3.out, by have := HN2.out; omega, by omega⟩
        · have hqq : putTells ws x = false := by rw [hq]; exact decide_eq_false hlt2
          have hd : decide (N1 < N2) = false := decide_eq_false hlt2
          have HQ := Lib.hid hqq
          clear hq hqq
          go_wp2_with first
            | (go_at_call 9; refine HR.out.mono ?_; rintro e w2 ⟨v2, rfl, hi, hk2⟩; obtain ⟨A3, c3, rfl, hc5, -⟩ := hi.at_; rw [← HN2.out] at hi hc5 ⊢; have HI2 := Lib.hid hi; have HK2 := Lib.hid hk2; clear hi hk2)
            | (go_at_call 10; refine (HB.out _ HK2.out).mono ?_; rintro e w3 ⟨rfl, hb3, hk3⟩; rw [HQ.out]; have HB3 := Lib.hid hb3; have HK3 := Lib.hid hk3; clear hb3 hk3)
          go_roundg (l'.length - j)
          case measure => omega
          case rel => exact ⟨j + 1, putWords ws x, by omega, by go_num, Play.turn HS.out HKW.out HI2.out (fun _ h => h) HK2.out HB3.out HK3.out, by have := HN2.out; omega, by omega⟩
      · have hx' : x < 0 := by omega
        have hq : dropTells ws (-1 - x) = decide ((bl (dropWords ws (-1 - x))).length < (bl ws).length) := drop_tells hok (-1 - x)
        have hpl : (bl (dropWords ws (-1 - x))).length ≤ (bl ws).length := by rw [← bl_drop hok]; exact List.length_filter_le _ _
        have HR := Lib.hid (Tryd.r3drop_calls hu (by omega) (-1 - x))
        rw [bl_drop hok] at HR
        have HB := Lib.hid fun (w2 : World) (k : Kept wr w2) => Tryd.drop_calls (hbs.keep k) (-1 - x) (by omega) (by omega)
        obtain ⟨N1, hN1⟩ : ∃ N1, N1 = (bl ws).length := ⟨_, rfl⟩
        obtain ⟨N2, hN2⟩ : ∃ N2, N2 = (bl (dropWords ws (-1 - x))).length := ⟨_, rfl⟩
        rw [← hN1] at hu hq hpl hlen HR hc2 ⊢
        rw [← hN2] at hq hpl
        have HU := Lib.hid hu
        have HS := Lib.hid hS
        have HBS := Lib.hid hbs
        have HKW := Lib.hid hkw
        have HOK := Lib.hid hok
        have HN1 := Lib.hid hN1
        have HN2 := Lib.hid hN2
        clear hu hS hbs hkw hok hN1 hN2 hc hc3
        by_cases hlt2 : N2 < N1
        · have hqq : dropTells ws (-1 - x) = true := by rw [hq]; exact decide_eq_true hlt2
          have hd : decide (N2 < N1) = true := decide_eq_true hlt2
          have HQ := Lib.hid hqq
          clear hq hqq
          go_wp2_with first
            | (go_at_call 11; refine HR.out.mono ?_; rintro e w2 ⟨v2, rfl, hi, hk2⟩; obtain ⟨A3, c3, rfl, hc5, -⟩ := hi.at_; rw [← HN2.out] at hi hc5 ⊢; have HI2 := Lib.hid hi; have HK2 := Lib.hid hk2; clear hi hk2)
            | (go_at_call 12; refine (HB.out _ HK2.out).mono ?_; rintro e w3 ⟨rfl, hb3, hk3⟩; rw [HQ.out]; have HB3 := Lib.hid hb3; have HK3 := Lib.hid hk3; clear hb3 hk3)
          go_roundg (l'.length - j)
          case measure => omega
          case rel => exact ⟨j + 1, dropWords ws (-1 - x), by omega, by go_num, Play.turn HS.out HKW.out HI2.out (fun _ h => .inr h) HK2.out (HB3.out.mono fun _ _ h => .inl h) HK3.out, by have := HN2.out; omega, by omega⟩
        · have hqq : dropTells ws (-1 - x) = false := by rw [hq]; exact decide_eq_false hlt2
          have hd : decide (N2 < N1) = false := decide_eq_false hlt2
          have HQ := Lib.hid hqq
          clear hq hqq
          go_wp2_with first
            | (go_at_call 11; refine HR.out.mono ?_; rintro e w2 ⟨v2, rfl, hi, hk2⟩; obtain ⟨A3, c3, rfl, hc5, -⟩ := hi.at_; rw [← HN2.out] at hi hc5 ⊢; have HI2 := Lib.hid hi; have HK2 := Lib.hid hk2; clear hi hk2)
            | (go_at_call 12; refine (HB.out _ HK2.out).mono ?_; rintro e w3 ⟨rfl, hb3, hk3⟩; rw [HQ.out]; have HB3 := Lib.hid hb3; have HK3 := Lib.hid hk3; clear hb3 hk3)
          go_roundg (l'.length - j)
          case measure => omega
          case rel => exact ⟨j + 1, dropWords ws (-1 - x), by omega, by go_num, Play.turn HS.out HKW.out HI2.out (fun _ h => .inr h) HK2.out (HB3.out.mono fun _ _ h => .inl h) HK3.out, by have := HN2.out; omega, by omega⟩
    · obtain rfl : j = l'.length := by omega
      obtain ⟨q, hq⟩ : ∃ q, q = (bl ws).contains ask := ⟨_, rfl⟩
      have HA := Lib.hid (Tryd.all_calls hbs (HT.out.chg hkw id))
      have HSM : Hid (∀ (w2 : World) (v2 : Value), Kept wr w2 → Row (fun k => wr.heap.size ≤ k) w2 3 1 v2 (blist ws).length ((blist ws).map fun (n : Nat) => Value.int .i64 n) → Calls Tryd.prog 14 #[v2, .slice A2 (bl ws).length c2] w2 fun e w' => e = .returned (.bool true) ∧ ∃ n, w' = w2.drewN n) := Lib.hid fun w2 v2 k2 hr => by
        rw [← bl_len, ← bl_map] at hr
        refine (Tryd.r3same_calls (hr.ints (ok := fun _ => True) fun _ _ => trivial) (Rd.move (ok' := fun _ => True) (RInt.mov _) (k2.moves fun _ _ _ => ⟨id, trivial⟩) (by omega) hu)).mono ?_
        rintro e w' ⟨rfl, h⟩
        exact ⟨by rw [decide_eq_true rfl], h⟩
      have HLN : Hid (∀ (w2 : World), Kept wr w2 → Calls Tryd.prog 15 #[.pointer (some ⟨b, 0, none⟩)] w2 fun e w' => e = .returned (.int .i64 ((bl ws).length : Nat)) ∧ w2 = w') := Lib.hid fun w2 k => by
        rw [bl_len]
        exact Tryd.len_calls (hbs.keep k)
      have HHS : Hid (∀ (w2 : World), Kept wr w2 → Calls Tryd.prog 16 #[.pointer (some ⟨b, 0, none⟩), .int .i64 ask] w2 fun e w' => e = .returned (.bool q) ∧ w2 = w') := Lib.hid fun w2 k => by
        rw [hq, bl_has]
        exact Tryd.has_calls (hbs.keep k) ask ha.1 ha.2
      have HRH : Hid (∀ (w2 : World), Kept wr w2 → Calls Tryd.prog 17 #[.slice A2 (bl ws).length c2, .int .i64 ask] w2 fun e w' => e = .returned (.bool q) ∧ w2 = w') := Lib.hid fun w2 k => by
        rw [hq]
        exact Tryd.r3has_calls (Rd.move (ok' := fun _ => True) (RInt.mov _) (k.moves fun _ _ _ => ⟨id, trivial⟩) (by omega) hu) ask
      have HP1 : Hid (∀ (w2 : World) (T : Nat → Prop) (n : Int), BitsAt T w2 b ws → n = -1 ∨ n = 65536 → Calls Tryd.prog 10 #[.pointer (some ⟨b, 0, none⟩), .int .i64 n] w2 fun e w' => e = .returned (.bool false) ∧ BitsAt (fun k => T k ∨ w2.heap.size ≤ k) w' b ws ∧ Chg T w2 w') := Lib.hid fun w2 T n hb hn => by
        have e : putTells ws n = false := by rcases hn with rfl | rfl <;> simp [putTells]
        have e2 : putWords ws n = ws := by unfold putWords; rw [e]; rfl
        have h := Tryd.put_calls hb n (by omega) (by omega)
        rw [e, e2] at h
        exact h
      obtain ⟨N1, hN1⟩ : ∃ N1, N1 = (bl ws).length := ⟨_, rfl⟩
      rw [← hN1] at hu hlen HSM HLN HRH hc2 ⊢
      have HBS := Lib.hid hbs
      have HS := Lib.hid hS
      have HKW := Lib.hid hkw
      clear hu hbs hS hkw hN1 hq hok
      go_wp2_with first
        | (go_at_call 13; refine HA.out.mono ?_; rintro e w2 ⟨v2, rfl, hr, hk⟩; have HR2 := Lib.hid hr; have HK2 := Lib.hid hk; clear hr hk)
        | (go_at_call 14; refine (HSM.out _ _ HK2.out HR2.out).mono ?_; rintro e w' ⟨rfl, nd, rfl⟩; have HK3 := Lib.hid (HK2.out.drewN nd); generalize w2.drewN nd = w3 at HK3 ⊢)
        | (go_at_call 15; refine (HLN.out _ HK3.out).mono ?_; rintro e w' ⟨rfl, rfl⟩)
        | (go_at_call 16; refine (HHS.out _ HK3.out).mono ?_; rintro e w' ⟨rfl, rfl⟩)
        | (go_at_call 17; refine (HRH.out _ HK3.out).mono ?_; rintro e w' ⟨rfl, rfl⟩)
        | (go_at_call 10; refine (HP1.out _ _ _ HB5.out (.inr rfl)).mono ?_; rintro e w6 ⟨rfl, hb, hk⟩; have HK6 : Hid (Kept w w6) := Lib.hid (HK5.out.trans hk fun i hi h => h.elim (fun h => by have := (HS.out i h).1; omega) (fun h => by have := HKW.out.size; have := HK3.out.size; omega)); clear hb hk)
        | (go_at_call 10; refine (HP1.out _ _ _ (HBS.out.keep HK3.out) (.inl rfl)).mono ?_; rintro e w5 ⟨rfl, hb, hk⟩; have HB5 := Lib.hid hb; have HK5 : Hid (Kept w w5) := Lib.hid ((HKW.out.then HK3.out).trans hk fun i hi h => by have := (HS.out i h).1; omega); clear hb hk)
        | (go_at_call 18; refine (Tryd.lives_calls _).mono ?_; rintro e w7 ⟨rfl, hk⟩; have HK7 := Lib.hid (HK6.out.then hk); clear hk)
      go_ret
      exact ⟨rfl, HK7.out⟩
end Go.Proofs.YtaobleahcceffaaDoor
