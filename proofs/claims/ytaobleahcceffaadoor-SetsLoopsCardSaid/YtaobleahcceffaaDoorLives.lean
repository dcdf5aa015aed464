/-
  The walk of the sets' law's own example: it answers true, and leaves every block of the caller as it was. Conditions: none.
-/
import Derived.Test.YtaobleahcceffaaDoorQueue
import Derived.Test.YtaobleahcceffaaDoorDoor1
set_option linter.unusedVariables false
set_option linter.unusedSimpArgs false
namespace Go.Proofs.YtaobleahcceffaaDoor
open Go.RowKit

theorem ints_new (w : World) (l : List Int) (t : TypeId) (hl : l.length ≤ maxLen) (cs : Array Value) (hcs : cs = (l.map (Value.int .i64)).toArray) (n : Nat) (hn : n = l.length) (ok : Nat → Prop) (hok : ok w.heap.size) :
    Ints .i64 ok (w.alloc (.cells cs t)) (.slice (some ⟨w.heap.size, 0, none⟩) n n) l := by
  subst hn hcs
  refine ⟨_, _, rfl, Nat.le_refl _, hl, fun h => by simp at h, fun _ => ⟨_, _, rfl, hok, fun j p hj => ⟨[.int .i64 p], rfl, rfl, fun i u hi => ?_⟩⟩⟩
  obtain ⟨rfl, rfl⟩ : i = 0 ∧ u = .int .i64 p := by
    match i, hi with
    | 0, hi => exact ⟨rfl, by simpa using hi.symm⟩
    | i + 1, hi => simp at hi
  have hb := Blk.new w (l.map (Value.int .i64)).toArray t
  rw [hb.cell]
  simp [hj]

/-- A step of the queue leaves the set, and what was there. -/
theorem live_step {w0 w w' : World} {N1 q b : Nat} {ws : List Nat} (hb : BitsAt (fun k => w0.heap.size ≤ k ∧ k < N1) w b ws) (hk : Kept w0 w) (hN : N1 ≤ w.heap.size) (hq : N1 ≤ q) (h0 : w0.heap.size ≤ N1) (h : Chg (fun k => k = q ∨ N1 ≤ k) w w') :
    BitsAt (fun k => w0.heap.size ≤ k ∧ k < N1) w' b ws ∧ Kept w0 w' ∧ N1 ≤ w'.heap.size :=
  ⟨hb.chg h fun g _ hs e => by omega, hk.trans h fun i hi e => by omega, Nat.le_trans hN h.size⟩

set_option maxRecDepth 100000 in
set_option maxHeartbeats 2000000 in
theorem Tryd.lives_calls (w : World) :
    Calls Tryd.prog 18 #[] w fun e w' => e = .returned (.bool true) ∧ Kept w w' := by
  have HI0 := Lib.hid (ints_new w [3, 1, 3] 3 (by decide) #[.int .i64 3, .int .i64 1, .int .i64 3] rfl 3 rfl (fun _ => True) trivial)
  have hlen : (blist (bofs [] [3, 1, 3])).length = 2 := by decide
  have hh1 : (decide ((0 : Int) ≤ 1) && bhas (bofs [] [3, 1, 3]) (1 : Int).toNat) = true := by decide
  have hh3 : (decide ((0 : Int) ≤ 3) && bhas (bofs [] [3, 1, 3]) (3 : Int).toNat) = true := by decide
  have hjo : bjoined (bofs [] [3, 1, 3]) (bofs [] [1]) (bofs [] [1]).length = false := by decide
  have hn2 : ((2 : Nat) : Int) = 2 := rfl
  have HLEN := Lib.hid hlen
  have HH1 := Lib.hid hh1
  have HH3 := Lib.hid hh3
  have HJO := Lib.hid hjo
  clear hlen hh1 hh3 hjo
  go_enter Tryd.func18, Tryd.ntmps18
  go_wp2_with first
    | (go_at_call 7; refine (Tryd.of_calls HI0.out (by decide)).mono ?_; rintro e w1 ⟨b, rfl, hb, hk⟩; have hs := hk.size; have HS := (show w.heap.size + 1 ≤ w1.heap.size by simpa using hs); have HB1 : Hid (BitsAt (fun k => w.heap.size ≤ k ∧ k < w1.heap.size) w1 b (bofs [] [3, 1, 3])) := Lib.hid (hb.mono fun k h1 h2 => ⟨by simp only [World.size_alloc] at h2; omega, h1⟩); have HK1 : Hid (Kept w w1) := Lib.hid (((Chg.refl _ w).alloc _).then hk); clear hb hk hs HI0; have HQ0 := Lib.hid (Blk.new w1 #[.slice none 0 0, .map none] 59); have HSQ : w1.heap.size ≤ (w1.alloc (.cells #[.slice none 0 0, .map none] 59)).heap.size := (by simp))
    | (go_at_call 32; refine (Tryd.push_old HQ2.out 1 rfl).mono ?_; rintro e w4 ⟨rfl, rfl⟩)
    | (go_at_call 32; refine (Tryd.push_new HQ1.out (by decide) HS2 2 rfl).mono ?_; rintro e w3 ⟨rfl, hq, hk⟩; have hls := live_step HB2.out HK2.out HS2 (Nat.le_refl _) (by omega) hk; have HQ2 := Lib.hid hq; have HB3 := Lib.hid hls.1; have HK3 := Lib.hid hls.2.1; have HS3 := hls.2.2; clear hq hk hls HQ1 HS2)
    | (go_at_call 32; refine (Tryd.push_first (l := []) rfl (by decide) HQ0.out (Row.nil (fun k => w1.heap.size ≤ k) _ _ _) HSQ 1).mono ?_; rintro e w2 ⟨rfl, hq, hk⟩; have hls := live_step (HB1.out.keep ((Chg.refl _ w1).alloc _)) (HK1.out.then ((Chg.refl _ w1).alloc _)) HSQ (Nat.le_refl _) (by omega) hk; have HQ1 := Lib.hid hq; have HB2 := Lib.hid hls.1; have HK2 := Lib.hid hls.2.1; have HS2 := hls.2.2; clear hq hk hls HQ0 HSQ)
    | (go_at_call 33; refine (Tryd.pop_calls_q HQ2.out (by decide) (by decide) rfl).mono ?_; rintro e w5 ⟨rfl, hq, hk⟩; have hls := live_step HB3.out HK3.out HS3 (Nat.le_refl _) (by omega) hk; have HQ3 := Lib.hid hq; have HB5 := Lib.hid hls.1; have HK5 := Lib.hid hls.2.1; have HS5 := hls.2.2; clear hq hk hls HQ2 HS3; have HI := Lib.hid (ints_new w5 [1] 3 (by decide) #[.int .i64 1] rfl 1 rfl (fun _ => True) trivial))
    | (go_at_call 15; refine (Tryd.len_calls HB5.out).mono ?_; rintro e w' ⟨rfl, rfl⟩; rw [HLEN.out])
    | (go_at_call 16; refine (Tryd.has_calls HB5.out _ (by decide) (by decide)).mono ?_; rintro e w' ⟨rfl, rfl⟩; first | rw [HH1.out] | rw [HH3.out])
    | (go_at_call 22; refine (Tryd.join_calls HB7.out HD7.out (fun k _ h => by omega)).mono ?_; rintro e w8 ⟨rfl, hb, hk⟩; rw [HJO.out]; have HK8 := Lib.hid (HK7.out.trans hk fun i hi e => by omega); have HQ8 := Lib.hid (show ∃ A c m, Blk w8 w1.heap.size #[.slice A 1 c, m] 59 by obtain ⟨A, c, m, h⟩ := HQ7.out; exact ⟨A, c, m, h.chg hk (by omega)⟩); clear hb hk)
    | (go_at_call 7; refine (Tryd.of_calls HI.out (by decide)).mono ?_; rintro e w7 ⟨d, rfl, hb, hk⟩; have hk' := (Chg.refl (fun _ => False) w5).alloc (.cells #[.int .i64 1] 3); have hk2 := hk'.then hk; have HB7 := Lib.hid (HB5.out.keep hk2); have HD7 : Hid (BitsAt (fun k => w5.heap.size ≤ k) w7 d (bofs [] [1])) := Lib.hid (hb.mono fun k h1 h2 => by simp only [World.size_alloc] at h2; omega); have HK7 := Lib.hid (HK5.out.then hk2); have HQ7 := Lib.hid (show ∃ A c m, Blk w7 w1.heap.size #[.slice A 1 c, m] 59 by obtain ⟨A, c, m, h⟩ := HQ3.out; exact ⟨A, c, m, h.keep hk2⟩); clear hb hk hk' hk2)
    | (go_at_call 34; obtain ⟨A, c, m, hq⟩ := HQ8.out; refine (Tryd.qlen_calls hq).mono ?_; rintro e w' ⟨rfl, rfl⟩)
  go_ret
  exact ⟨rfl, HK8.out⟩
end Go.Proofs.YtaobleahcceffaaDoor
