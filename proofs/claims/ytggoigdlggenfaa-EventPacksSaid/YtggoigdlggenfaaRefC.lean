/- What the reference of package code does: what it writes. -/
import Derived.Test.YtggoigdlggenfaaCodeW
namespace Go.Proofs.Ytggoigdlggenfaa
open Go.RowKit Go.Proofs.Ytggoigdlggenfaa.Plain

theorem mod256 {q : Int} : (q % 128 + 128) % 256 = q % 128 + 128 := by omega

set_option maxHeartbeats 400000 in
set_option maxRecDepth 100000 in
theorem rnum_any (x : Int) (h : U64 x) (w : World) :
    Calls Try.prog 19 #[.int .u64 x] w fun e w' => ∃ v, e = .returned v ∧ OwnB w' w.heap.size v (encI x) ∧ Below w.heap.size w w' := by
  have hx10 : Hid (([] : List Int).length + (encI x).length ≤ 10) := by
    unfold Hid; rw [encI_len]; have := enc_len10 (x := x.toNat) (by have := h.1; have := h.2; omega); simpa using this
  go_enter Try.func19, Try.ntmps19
  go_wp2
  go_loopw [0, 3] (fun y v wr => ∃ (q : Int) (l : List Int), y = .int .u64 q ∧ 0 ≤ q ∧ Hid (q < 18446744073709551616) ∧ Hid (l ++ encI q = encI x) ∧ Hid (l.length + (encI q).length ≤ 10) ∧ OwnB wr w.heap.size v l ∧ Below w.heap.size w wr) (fun y _ _ => (intOf y).toNat)
  case atStart => exact ⟨x, [], rfl, h.lo, h.2, rfl, hx10, World.ownsRow_nil _ _ _ _, Below.refl _ _⟩
  case round =>
    obtain ⟨q, l, rfl, hq0, hq1, hl, hm, hown, hb⟩ := hrel
    have hsz := hb.size
    have hn : l.length ≤ 10 := by have := hm.out; omega
    unfold OwnB at hown
    by_cases hlt : q < 128
    · go_wp2_with (at_builtin; refine wpList_push (us := [_]) Try.elt_u8 hown rfl rfl rfl rfl rfl (by simp [Value.oneCell']) (by omega) hsz ?_; intro v' w1 hown' hf hat)
      go_ret
      have e : l ++ [q] = encI x := by have := hl.out; rw [encI_lo hq0 hlt] at this; exact this
      rw [u8s_snoc, e, show l.length + 1 = (encI x).length by rw [← e]; simp] at hown'
      exact ⟨_, rfl, hown', below_frm hb hf (Nat.le_refl _) (fun b hb' e => by have := hown.lt b e; omega)⟩
    · have h128 : 128 ≤ q := by omega
      have e1 : q.tmod 128 = q % 128 := Int.tmod_eq_emod_of_nonneg hq0
      have e2 : q.tdiv 128 = q / 128 := Int.tdiv_eq_ediv_of_nonneg hq0
      have e3 : IntKind.u64.wrap (q % 128) = q % 128 := by rw [wrap_u64]; omega
      have e4 : IntKind.u64.wrap (q % 128 + 128) = q % 128 + 128 := by rw [wrap_u64]; omega
      have e6 : IntKind.u64.wrap (q / 128) = q / 128 := by have := hq1.out; rw [wrap_u64]; omega
      have e5 := mod256 (q := q)
      go_wp2_with (at_builtin; refine wpList_push (us := [_]) Try.elt_u8 hown rfl rfl rfl rfl rfl (by simp [Value.oneCell']) (by omega) hsz ?_; intro v' w1 hown' hf hat)
      go_roundw
      case rel =>
        refine ⟨q / 128, l ++ [q % 128 + 128], rfl, by omega, by have := hq1.out; unfold Hid; omega, encI_take l hq0 h128 hl.out, ?_, ?_, below_frm hb hf (Nat.le_refl _) (fun b hb' e => by have := hown.lt b e; omega)⟩
        · have := hm.out; rw [encI_hi hq0 h128] at this; unfold Hid; simp at this ⊢; omega
        · rw [u8s_snoc] at hown'
          unfold OwnB
          rw [List.length_append]
          exact hown'
      case measure => simp [intOf]; omega

theorem neg_zig {c : Int} (h : I64 c) (hc : c < 0) : IntKind.u64.wrap (IntKind.u64.wrap (IntKind.u64.wrap (wrap64 (-wrap64 (c + 1))) * 2) + 1) = zig c := by
  have := h.1
  have e1 : wrap64 (c + 1) = c + 1 := by unfold wrap64; omega
  have e2 : wrap64 (-(c + 1)) = -(c + 1) := by unfold wrap64; omega
  rw [e1, e2, wrap_u64, wrap_u64, wrap_u64]
  unfold zig
  rw [if_neg (by omega)]
  omega
theorem pos_zig {c : Int} (h : I64 c) (hc : 0 ≤ c) : IntKind.u64.wrap (IntKind.u64.wrap c * 2) = zig c := by
  have := h.2
  rw [wrap_u64, wrap_u64]
  unfold zig
  rw [if_pos hc]
  omega

set_option maxHeartbeats 400000 in
set_option maxRecDepth 100000 in
theorem rint_any (c : Int) (h : I64 c) (w : World) :
    Calls Try.prog 20 #[.int .i64 c] w fun e w' => ∃ v, e = .returned v ∧ OwnB w' w.heap.size v (encI (zig c)) ∧ Below w.heap.size w w' := by
  have HN := Lib.hid (rnum_any (zig c) (zig_bounds h.1 h.2) w)
  by_cases hc : c < 0
  · have e := Lib.hid (neg_zig h hc)
    go_enter Try.func20, Try.ntmps20
    go_wp2_with fail
    go_loud (rw [e.out])
    refine HN.out.mono ?_
    rintro e w1 ⟨v, rfl, h1, h2⟩
    go_wp2_with fail
    go_ret
    exact ⟨v, rfl, h1, h2⟩
  · have e := Lib.hid (pos_zig h (by omega))
    go_enter Try.func20, Try.ntmps20
    go_wp2_with fail
    go_loud (rw [e.out])
    refine HN.out.mono ?_
    rintro e w1 ⟨v, rfl, h1, h2⟩
    go_wp2_with fail
    go_ret
    exact ⟨v, rfl, h1, h2⟩

set_option maxHeartbeats 400000 in
theorem rtext_any (A : Option Addr) (c : Nat) (F : Nat → Prop) (bs : List Int) (w : World) (hr : Reads w F 1 A bs.length (u8s bs)) (hlen : bs.length ≤ 140737488355300) :
    Calls Try.prog 21 #[.slice A bs.length c] w fun e w' => ∃ v, e = .returned v ∧ OwnB w' w.heap.size v (encI bs.length ++ bs) ∧ Below w.heap.size w w' := by
  have HN := Lib.hid (rnum_any bs.length ⟨by omega, by omega⟩ w)
  have hl10 : (encI (bs.length : Int)).length ≤ 10 := by rw [encI_len]; exact enc_len10 (by omega)
  go_enter Try.func21, Try.ntmps21
  go_wp2_with fail
  refine HN.out.mono ?_
  rintro e w1 ⟨v, rfl, h1, h2⟩
  have hr1 := hr.below h2
  unfold OwnB at h1
  go_wp2_with (at_builtin; refine wpList_append_any Try.elt_u8 h1 hr1 (u8s_one _) rfl rfl rfl rfl (by omega) h2.size ?_; intro v' w2 hown' hf hat)
  go_ret
  rw [u8s_app, ← List.length_append] at hown'
  exact ⟨v', rfl, hown', below_frm h2 hf (Nat.le_refl _) (fun b hb e => by have := World.ownsRow.lt h1 b e; omega)⟩
end Go.Proofs.Ytggoigdlggenfaa
