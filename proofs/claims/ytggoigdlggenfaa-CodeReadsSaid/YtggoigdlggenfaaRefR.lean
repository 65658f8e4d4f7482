/- What the reference of package code does: its reader. -/
import Derived.Test.YtggoigdlggenfaaRefC
import Derived.Test.YtggoigdlggenfaaRdr2
namespace Go.Proofs.Ytggoigdlggenfaa
open Go.RowKit Go.Proofs.Ytggoigdlggenfaa.Plain

theorem or_s (q x : Int) (n : Nat) (hn : n ≤ 8) (hq0 : 0 ≤ q) (hq : q < 128 ^ n) (h0 : 0 ≤ x) (h1 : x < 256) :
    bits .or .u64 q (IntKind.u64.wrap (x % 128 * 2 ^ (7 * n))) = q + x % 128 * 128 ^ n := by
  have := or_shift q x n hn hq0 hq h0 h1
  rw [and127 x h0 h1, show IntKind.u64.wrap (x % 128) = x % 128 by rw [wrap_u64]; omega] at this
  exact this
theorem or_9 (q x : Int) (hq0 : 0 ≤ q) (hq : q < 128 ^ 9) (h0 : 0 ≤ x) (h1 : x ≤ 1) : bits .or .u64 q (x % 128 * 9223372036854775808) = q + x % 128 * 128 ^ 9 := by
  have := or_shift9 q x hq0 hq h0 h1
  rw [and127 x h0 (by omega), show IntKind.u64.wrap (x % 128) = x % 128 by rw [wrap_u64]; omega] at this
  rw [← this]
  congr 1
  rw [wrap_u64]
  have : x = 0 ∨ x = 1 := by omega
  rcases this with rfl | rfl <;> decide
theorem or_0 (q : Int) (n : Nat) (hq0 : 0 ≤ q) (hq : q < 18446744073709551616) : bits .or .u64 q (IntKind.u64.wrap 0) = q + 0 % 128 * 128 ^ n := by
  rw [show IntKind.u64.wrap 0 = 0 from rfl, u64_or q 0 hq0 hq (by omega) (by omega)]
  simp; omega

set_option maxHeartbeats 400000 in
set_option maxRecDepth 100000 in
theorem take_any (A : Option Addr) (c : Nat) (F : Nat → Prop) (bs : List Int) (w : World) (hr : Reads w F 1 A bs.length (u8s bs)) (hB : Byt bs) (hlen : bs.length < 140737488355328) :
    Calls Try.prog 63 #[.slice A bs.length c] w fun e w' =>
      e = .returned (.tuple #[.int .u64 (rlook bs 0).1, .int .i64 (rlook bs 0).2.1, .int .i64 (rlook bs 0).2.2]) ∧ ∃ n, w' = w.drewN n := by
  go_enter Try.func63, Try.ntmps63
  go_wp2_with fail
  go_loopw [2, 3, 4, 5, 6, 7] (fun _ _ _ v k _ wr => ∃ (n m : Nat) (q : Int), k = .int .i64 n ∧ v = .int .u64 q ∧ n ≤ 10 ∧ 0 ≤ q ∧ Hid (q < 128 ^ n) ∧ Hid (lk bs 0 (10 - n) n q = rlook bs 0) ∧ wr = w.drewN m) (fun _ _ _ _ k _ _ => 10 - (intOf k).toNat)
  case atStart => exact ⟨0, 0, 0, rfl, rfl, by omega, by omega, by unfold Hid; decide, rfl, rfl⟩
  case round =>
    obtain ⟨n, m, q, rfl, rfl, hn, hq0, hq, hl, rfl⟩ := hrel
    by_cases h10 : n < 10
    · obtain ⟨f, hf⟩ : ∃ f, 10 - n = f + 1 := ⟨9 - n, by omega⟩
      have Hl : Hid (lk bs 0 (f + 1) n q = rlook bs 0) := by rw [← hf]; exact hl
      have Hf := Lib.hid hf
      clear hl hf
      by_cases hlt : n < bs.length
      · obtain ⟨b, off, u, rfl, hF, hbl, hu, hcu⟩ := hr.at_ hlt
        obtain ⟨x, rfl, hx, hx0, hx1⟩ := u8_at hu hB
        have hcu' : w.cell? ⟨b, off + n, none⟩ = some (.int .u8 x) := hcu
        have Hx : Hid (bs.getD (0 + n) 0 = x) := by unfold Hid; rw [Nat.zero_add]; exact hx
        have hlt0 : Hid (0 + n < bs.length) := by unfold Hid; omega
        clear hx hu hcu
        by_cases h9 : n = 9 ∧ 1 < x
        · have hv := lk_big (f := f) (v := q) hlt0.out Hx.out h9
          have hfin : Hid (rlook bs 0 = (0, 0, 10)) := by unfold Hid; rw [← Hl.out]; exact hv
          obtain ⟨rfl, h92⟩ := h9
          clear hv
          go_wp2_with fail
          go_ret3
          rw [hfin.out]
          exact ⟨rfl, by first | exact drawn1 _ _ | exact drawn2 _ _ _⟩
        by_cases hx : x < 128
        · by_cases hz : x = 0 ∧ 0 < n
          · have hfin : Hid (rlook bs 0 = (0, 0, 10)) := by unfold Hid; rw [← Hl.out]; exact lk_zero hlt0.out Hx.out hz.1 hz.2
            have hz0 : (x == 0) = true := by simp; omega
            have hz1 : 0 < n := hz.2
            go_wp2_with fail
            all_goals (go_ret3; rw [hfin.out]; exact ⟨rfl, by first | exact drawn1 _ _ | exact drawn2 _ _ _⟩)
          · have hfin : Hid (rlook bs 0 = (q + x % 128 * 128 ^ n, ((0 + n + 1 : Nat) : Int), 0)) := by unfold Hid; rw [← Hl.out]; exact lk_done hlt0.out Hx.out h9 hx hz
            by_cases e0 : x = 0
            · subst e0
              have hz1 : ¬ 0 < n := by omega
              have h91 : ((n : Int) == 9) = false := by simp; omega
              have hor := Lib.hid (or_0 q n hq0 (by have := hq.out; have hn0 : n = 0 := by omega
                                                    subst hn0; simp at this; omega))
              go_wp2_with fail
              go_ret3
              rw [hfin.out]
              exact ⟨ret3 (vi hor.out) (vi (by dsimp only; omega)) rfl, by first | exact drawn1 _ _ | exact drawn2 _ _ _⟩
            · have hz0 : (x == 0) = false := by simp; omega
              by_cases e9 : n = 9
              · subst e9
                have h92 : ¬ 1 < x := by omega
                have hor9 := Lib.hid (or_9 q x hq0 hq.out hx0 (by omega))
                go_wp2_with fail
                go_ret3
                rw [hfin.out]
                exact ⟨ret3 (vi hor9.out) (vi (by dsimp only; omega)) rfl, by first | exact drawn1 _ _ | exact drawn2 _ _ _⟩
              · have h91 : ((n : Int) == 9) = false := by simp; omega
                have hor := Lib.hid (or_s q x n (by omega) hq0 hq.out hx0 hx1)
                go_wp2_with fail
                go_ret3
                rw [hfin.out]
                exact ⟨ret3 (vi hor.out) (vi (by dsimp only; omega)) rfl, by first | exact drawn1 _ _ | exact drawn2 _ _ _⟩
        · have h9' : decide (1 < x) = true := by simp; omega
          have h91 : ((n : Int) == 9) = false := by simp; omega
          have hor := Lib.hid (or_s q x n (by omega) hq0 hq.out hx0 hx1)
          have hnx := lk_next (f := f) (v := q) hlt0.out Hx.out h9 hx
          have hn1 := next_nonneg q x n hq0
          have hn2 : Hid (q + x % 128 * 128 ^ n < 128 ^ (n + 1)) := next_lt q x n hq.out
          have Hnx := Lib.hid hnx
          clear hnx
          go_wp2_with fail
          go_roundw
          case rel => exact ⟨n + 1, _, _, by go_num, by rw [hor.out], by omega, hn1, hn2, by have := Hnx.out; unfold Hid; rw [show 10 - (n + 1) = f from by have := Hf.out; omega, ← this]; exact Hl.out, rfl⟩
          case measure => simp [intOf]; omega
      · have hfin : Hid (rlook bs 0 = (0, 0, 9)) := by unfold Hid; rw [← Hl.out]; exact lk_short (by omega)
        go_wp2_with fail
        go_ret3
        rw [hfin.out]
        exact ⟨rfl, by first | exact drawn1 _ _ | exact drawn2 _ _ _⟩
    · have hfin : Hid (rlook bs 0 = (0, 0, 10)) := by
        unfold Hid; rw [← hl.out, show 10 - n = 0 from by omega]; rfl
      go_wp2_with fail
      go_ret3
      rw [hfin.out]
      exact ⟨rfl, by first | exact drawn1 _ _ | exact drawn2 _ _ _⟩
end Go.Proofs.Ytggoigdlggenfaa
