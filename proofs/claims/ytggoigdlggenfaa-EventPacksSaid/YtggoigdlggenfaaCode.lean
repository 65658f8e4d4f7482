/- What the functions of package code do: each call's answer and what becomes of memory. -/
import Derived.Test.YtggoigdlggenfaaRows
import Derived.Test.YtggoigdlggenfaaMem
import Derived.Test.YtggoigdlggenfaaRdr
namespace Go.Proofs.Ytggoigdlggenfaa
open Go.RowKit Go.Proofs.Ytggoigdlggenfaa.Plain

def u8s (xs : List Int) : List Value := xs.map (Value.int .u8)
theorem Try.elt_u8 : Elt Try.prog 24 5 1 1 := Elt.mk Try.underlying24 (z := .int .u8 0) (by kernel_rfl) rfl (by decide) (by decide)

theorem u8_at {bs : List Int} {j : Nat} {u : Value} (h : (u8s bs)[j]? = some u) (hb : Byt bs) : ∃ x : Int, u = .int .u8 x ∧ bs.getD j 0 = x ∧ 0 ≤ x ∧ x < 256 := by
  rw [u8s, List.getElem?_map] at h
  rw [List.getD_eq_getElem?_getD]
  cases hg : bs[j]? with
  | none => rw [hg] at h; simp at h
  | some y =>
    rw [hg] at h; simp only [Option.map_some, Option.some.injEq] at h
    have := hb y (List.mem_of_getElem? hg)
    exact ⟨y, h.symm, rfl, this.1, this.2⟩

set_option maxHeartbeats 400000 in
set_option maxRecDepth 100000 in
theorem look_any (p : Nat) (bs : List Int) (F : Nat → Prop) (A : Option Addr) (c : Nat) (at_ : Nat) (er : Int) (w : World)
    (hb : Blk w p 84 #[.slice A bs.length c, .int .i64 at_, .int .i64 er]) (hr : Reads w F 1 A bs.length (u8s bs)) (hB : Byt bs) (hlen : bs.length < 140737488355328) (hat : at_ ≤ bs.length) :
    Calls Try.prog 83 #[.pointer (some ⟨p, 0, none⟩)] w fun e w' =>
      e = .returned (.tuple #[.int .u64 (rlook bs at_).1, .int .i64 (rlook bs at_).2.1, .int .i64 (rlook bs at_).2.2]) ∧ ∃ n, w' = w.drewN n := by
  have hc0 : w.cell? ⟨p, 0, none⟩ = some (.slice A bs.length c) := hb.cell 0
  have hc1 : w.cell? ⟨p, 1, none⟩ = some (.int .i64 at_) := hb.cell 1
  go_enter Try.func83, Try.ntmps83
  go_wp2
  go_loopw [2, 3, 4, 5, 6, 7, 8] (fun _ _ _ v _ _ k wr => ∃ (n m : Nat) (q : Int), k = .int .i64 n ∧ v = .int .u64 q ∧ n ≤ 10 ∧ 0 ≤ q ∧ Hid (q < 128 ^ n) ∧ Hid (lk bs at_ (10 - n) n q = rlook bs at_) ∧ wr = w.drewN m) (fun _ _ _ _ _ _ k _ => 10 - (intOf k).toNat)
  case atStart => exact ⟨0, 0, 0, rfl, rfl, by omega, by omega, by unfold Hid; decide, rfl, rfl⟩
  case round =>
    obtain ⟨n, m, q, rfl, rfl, hn, hq0, hq, hl, rfl⟩ := hrel
    by_cases h10 : n < 10
    · obtain ⟨f, hf⟩ : ∃ f, 10 - n = f + 1 := ⟨9 - n, by omega⟩
      have Hl : Hid (lk bs at_ (f + 1) n q = rlook bs at_) := by rw [← hf]; exact hl
      have Hf := Lib.hid hf
      clear hl hf
      by_cases hlt : at_ + n < bs.length
      · obtain ⟨b, off, u, rfl, hF, hbl, hu, hcu⟩ := hr.at_ hlt
        obtain ⟨x, rfl, hx, hx0, hx1⟩ := u8_at hu hB
        have hcu' : w.cell? ⟨b, off + (at_ + n), none⟩ = some (.int .u8 x) := hcu
        have Hx := Lib.hid hx
        clear hx hu hcu
        go_wp2_with fail
        go_quiet (fail)
        go_wp2_with fail
        go_quiet (fail)
        by_cases h9 : n = 9 ∧ 1 < x
        · have h91 : ((n : Int) == 9) = true := by simp; omega
          have h92 : 1 < x := h9.2
          have hv := lk_big (f := f) (v := q) hlt Hx.out h9
          have hfin : Hid (rlook bs at_ = (0, 0, 10)) := by unfold Hid; rw [← Hl.out]; exact hv
          clear hv
          go_wp2_with fail
          go_ret3
          rw [hfin.out]
          exact ⟨rfl, by first | exact drawn1 _ _ | exact drawn2 _ _ _⟩
        by_cases hx : x < 128
        · have hor : Hid (bits .or .u64 q (IntKind.u64.wrap (IntKind.u64.wrap (bits .and .u8 x 127) * 2 ^ (7 * n))) = q + x % 128 * 128 ^ n) := by
            by_cases e : n = 9
            · subst e; exact or_shift9 q x hq0 hq.out hx0 (by omega)
            · exact or_shift q x n (by omega) hq0 hq.out hx0 hx1
          by_cases hz : x = 0 ∧ 0 < n
          · have hfin : Hid (rlook bs at_ = (0, 0, 10)) := by unfold Hid; rw [← Hl.out]; exact lk_zero hlt Hx.out hz.1 hz.2
            have hz0 : (x == 0) = true := by simp; omega
            have hz1 : 0 < n := hz.2
            go_wp2_with fail
            all_goals (go_ret3; rw [hfin.out]; exact ⟨rfl, by first | exact drawn1 _ _ | exact drawn2 _ _ _⟩)
          · have hfin : Hid (rlook bs at_ = (q + x % 128 * 128 ^ n, ((at_ + n + 1 : Nat) : Int), 0)) := by unfold Hid; rw [← Hl.out]; exact lk_done hlt Hx.out h9 hx hz
            by_cases e0 : x = 0
            · subst e0
              have hz1 : ¬ 0 < n := by omega
              have h91 : ((n : Int) == 9) = false := by simp; omega
              go_wp2_with fail
              go_quiet (fail)
              go_wp2_with fail
              go_ret3
              rw [hfin.out]
              exact ⟨ret3 (vi hor.out) (vi (by dsimp only; omega)) rfl, drawn2 _ _ _⟩
            · have hz0 : (x == 0) = false := by simp; omega
              by_cases e9 : n = 9
              · subst e9
                have h92 : ¬ 1 < x := by omega
                have hor9 : Hid (bits .or .u64 q (IntKind.u64.wrap (IntKind.u64.wrap (bits .and .u8 x 127) * 9223372036854775808)) = q + x % 128 * 128 ^ 9) := hor
                clear hor
                go_wp2_with fail
                go_quiet (fail)
                go_wp2_with fail
                go_ret3
                rw [hfin.out]
                exact ⟨ret3 (vi hor9.out) (vi (by dsimp only; omega)) rfl, drawn2 _ _ _⟩
              · have h91 : ((n : Int) == 9) = false := by simp; omega
                go_wp2_with fail
                go_quiet (fail)
                go_wp2_with fail
                go_ret3
                rw [hfin.out]
                exact ⟨ret3 (vi hor.out) (vi (by dsimp only; omega)) rfl, drawn2 _ _ _⟩
        · have h9' : decide (1 < x) = true := by simp; omega
          have h91 : ((n : Int) == 9) = false := by simp; omega
          have hor := Lib.hid (or_shift q x n (by omega) hq0 hq.out hx0 hx1)
          have hnx := lk_next (f := f) (v := q) hlt Hx.out h9 hx
          have hn1 := next_nonneg q x n hq0
          have hn2 : Hid (q + x % 128 * 128 ^ n < 128 ^ (n + 1)) := next_lt q x n hq.out
          have Hnx := Lib.hid hnx
          clear hnx
          go_wp2_with fail
          go_roundw
          case rel => exact ⟨n + 1, _, _, by go_num, by rw [hor.out], by omega, hn1, hn2, by have := Hnx.out; unfold Hid; rw [show 10 - (n + 1) = f from by have := Hf.out; omega, ← this]; exact Hl.out, rfl⟩
          case measure => simp [intOf]; omega
      · have hfin : Hid (rlook bs at_ = (0, 0, 9)) := by unfold Hid; rw [← Hl.out]; exact lk_short hlt
        go_wp2_with fail
        go_quiet (fail)
        go_wp2_with fail
        go_ret3
        rw [hfin.out]
        exact ⟨rfl, by first | exact drawn1 _ _ | exact drawn2 _ _ _⟩
    · have hfin : Hid (rlook bs at_ = (0, 0, 10)) := by
        unfold Hid; rw [← hl.out, show 10 - n = 0 from by omega]; rfl
      go_wp2_with fail
      go_ret3
      rw [hfin.out]
      exact ⟨rfl, by first | exact drawn1 _ _ | exact drawn2 _ _ _⟩
end Go.Proofs.Ytggoigdlggenfaa
