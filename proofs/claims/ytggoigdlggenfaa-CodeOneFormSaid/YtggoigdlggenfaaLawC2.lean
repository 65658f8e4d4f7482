/- The walks of the laws of package code: how long numbers are. -/
import Derived.Test.YtggoigdlggenfaaLawC1
namespace Go.Proofs.Ytggoigdlggenfaa
open Go.RowKit Go.Proofs.Ytggoigdlggenfaa.Plain

theorem encI_pos (x : Int) : 1 ≤ (encI x).length := by rw [encI_len]; exact enc_pos _
theorem encI_len10 {x : Int} (h1 : x < 18446744073709551616) : (encI x).length ≤ 10 := by rw [encI_len]; exact enc_len10 (by omega)
theorem encI_mono {x y : Int} (h : y ≤ x) : (encI y).length ≤ (encI x).length := by
  rw [encI_len, encI_len]; exact enc_mono x.toNat _ _ (Nat.le_refl _) (by omega)
theorem negone {c : Int} (h : I64 c) : wrap64 (wrap64 (-c) - 1) = -c - 1 := by have := h.1; have := h.2; unfold wrap64; omega
theorem negone_i64 {c : Int} (h : I64 c) : I64 (-c - 1) := by have := h.1; have := h.2; exact ⟨by omega, by omega⟩

set_option maxHeartbeats 400000 in
set_option maxRecDepth 100000 in
theorem CodeLonger_walk (a b c : Int) (w : World) (ha : (Lit.int .u64 a).wf = true) (hb : (Lit.int .u64 b).wf = true) (hc : (Lit.int .i64 c).wf = true) :
    Calls Try.prog 3 #[.int .u64 a, .int .u64 b, .int .i64 c] w fun e w' => e = .returned (.bool true) ∧ Below w.heap.size w w' := by
  have Ha := Lib.hid (u64_wf ha)
  have Hb := Lib.hid (u64_wf hb)
  have Hc := Lib.hid (i64_wf hc)
  have hn := Lib.hid (negone Hc.out)
  have hz := enc_len_zig c
  have hp := encI_pos a
  have hq := encI_len10 (x := a) (by have := Ha.out.2; omega)
  have hmono : ¬ a > b → (encI a).length ≤ (encI b).length := fun h => encI_mono (by omega)
  generalize hla : (encI a).length = la at hp hq hmono
  generalize hlb : (encI b).length = lb at hmono
  generalize hl1 : (encI (zig c)).length = l1 at hz
  generalize hl2 : (encI (zig (-c - 1))).length = l2 at hz
  subst hz
  have Hla := Lib.hid hla
  have Hlb := Lib.hid hlb
  have Hl1 := Lib.hid hl1
  have Hl2 := Lib.hid hl2
  have Hm := Lib.hid hmono
  clear ha hb hc hla hlb hl1 hl2 hmono
  by_cases hab : a > b
  · go_enter Try.func3, Try.ntmps3
    go_wp2_with fail
    refine (awake3_any _).mono ?_
    rintro e w1 ⟨rfl, b1⟩
    go_wp2_with fail
    refine (int_any _ Hc.out _).mono ?_
    rintro e w2 ⟨x2, rfl, o2, b2⟩
    obtain ⟨X2, k2, rfl, _, n2⟩ := o2.reads
    rw [Hl1.out]
    go_wp2_with fail
    rw [hn.out]
    refine (int_any _ (negone_i64 Hc.out) _).mono ?_
    rintro e w3 ⟨x3, rfl, o3, b3⟩
    obtain ⟨X3, k3, rfl, _, n3⟩ := o3.reads
    rw [Hl2.out]
    go_wp2_with fail
    refine (num_any _ Ha.out _).mono ?_
    rintro e w4 ⟨x4, rfl, o4, b4⟩
    obtain ⟨X4, k4, rfl, _, n4⟩ := o4.reads
    rw [Hla.out]
    go_wp2_with fail
    refine (num_any _ Ha.out _).mono ?_
    rintro e w5 ⟨x5, rfl, o5, b5⟩
    obtain ⟨X5, k5, rfl, _, n5⟩ := o5.reads
    rw [Hla.out]
    go_wp2_with fail
    go_ret
    exact ⟨ret1 (congrArg Value.bool (decide_eq_true (by omega))), bt (bt (bt (bt b1 b2) b3) b4) b5⟩
  · have hle := Hm.out hab
    go_enter Try.func3, Try.ntmps3
    go_wp2_with fail
    refine (awake3_any _).mono ?_
    rintro e w1 ⟨rfl, b1⟩
    go_wp2_with fail
    refine (num_any _ Ha.out _).mono ?_
    rintro e w6 ⟨x6, rfl, o6, b6⟩
    obtain ⟨X6, k6, rfl, _, n6⟩ := o6.reads
    rw [Hla.out]
    go_wp2_with fail
    refine (num_any _ Hb.out _).mono ?_
    rintro e w7 ⟨x7, rfl, o7, b7⟩
    obtain ⟨X7, k7, rfl, _, n7⟩ := o7.reads
    rw [Hlb.out]
    go_wp2_with fail
    refine (int_any _ Hc.out _).mono ?_
    rintro e w2 ⟨x2, rfl, o2, b2⟩
    obtain ⟨X2, k2, rfl, _, n2⟩ := o2.reads
    rw [Hl1.out]
    go_wp2_with fail
    rw [hn.out]
    refine (int_any _ (negone_i64 Hc.out) _).mono ?_
    rintro e w3 ⟨x3, rfl, o3, b3⟩
    obtain ⟨X3, k3, rfl, _, n3⟩ := o3.reads
    rw [Hl2.out]
    go_wp2_with fail
    refine (num_any _ Ha.out _).mono ?_
    rintro e w4 ⟨x4, rfl, o4, b4⟩
    obtain ⟨X4, k4, rfl, _, n4⟩ := o4.reads
    rw [Hla.out]
    go_wp2_with fail
    refine (num_any _ Ha.out _).mono ?_
    rintro e w5 ⟨x5, rfl, o5, b5⟩
    obtain ⟨X5, k5, rfl, _, n5⟩ := o5.reads
    rw [Hla.out]
    go_wp2_with fail
    go_ret
    exact ⟨ret1 (congrArg Value.bool (decide_eq_true (by omega))), bt (bt (bt (bt (bt (bt b1 b6) b7) b2) b3) b4) b5⟩
end Go.Proofs.Ytggoigdlggenfaa
