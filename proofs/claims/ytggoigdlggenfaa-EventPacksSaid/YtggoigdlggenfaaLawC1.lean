/- The walks of the laws of package code: what is written. -/
import Derived.Test.YtggoigdlggenfaaHelp
import Derived.Test.YtggoigdlggenfaaRefC
namespace Go.Proofs.Ytggoigdlggenfaa
open Go.RowKit Go.Proofs.Ytggoigdlggenfaa.Plain

theorem u64_wf {x : Int} (h : (Lit.int .u64 x).wf = true) : U64 x := by
  have : 0 ≤ x ∧ x ≤ 18446744073709551615 := by simpa [Lit.wf, IntKind.min, IntKind.max, IntKind.bits, IntKind.signed] using h
  exact ⟨this.1, by omega⟩
theorem i64_wf {x : Int} (h : (Lit.int .i64 x).wf = true) : I64 x := by
  have : -9223372036854775808 ≤ x ∧ x ≤ 9223372036854775807 := by simpa [Lit.wf, IntKind.min, IntKind.max, IntKind.bits, IntKind.signed] using h
  exact this
theorem byt_wf {bs : List Int} (h : ∀ n ∈ bs, (Lit.int .u8 n).wf = true) : Byt bs := by
  intro x hx
  have := h x hx
  have : 0 ≤ x ∧ x ≤ 255 := by simpa [Lit.wf, IntKind.min, IntKind.max, IntKind.bits, IntKind.signed] using this
  exact ⟨this.1, by omega⟩
theorem byt_enc (n : Nat) : ∀ x : Nat, x ≤ n → ∀ y ∈ enc x, y < 256 := by
  induction n with
  | zero => intro x hx y hy; rw [enc_lo (by omega)] at hy; simp at hy; omega
  | succ n ih =>
    intro x hx y hy
    by_cases h : x < 128
    · rw [enc_lo h] at hy; simp at hy; omega
    · rw [enc_hi h] at hy
      rcases List.mem_cons.1 hy with rfl | hy
      · omega
      · exact ih (x / 128) (by omega) y hy
theorem byt_encI (x : Int) : Byt (encI x) := by
  intro y hy
  unfold encI at hy
  rw [List.mem_map] at hy
  obtain ⟨n, hn, rfl⟩ := hy
  have := byt_enc _ _ (Nat.le_refl _) n hn
  omega
theorem byt_app {a b : List Int} (ha : Byt a) (hb : Byt b) : Byt (a ++ b) := by
  intro x hx
  rcases List.mem_append.1 hx with h | h
  · exact ha x h
  · exact hb x h

theorem enc300 : encI 300 = [172, 2] := by
  rw [encI_hi (by omega) (by omega), encI_lo (by omega) (by omega)]; rfl

set_option maxHeartbeats 400000 in
theorem awake3_any (w : World) : Calls Try.prog 13 #[] w fun e w' => e = .returned (.bool true) ∧ Below w.heap.size w w' := by
  have HN := Lib.hid (num_any 300 ⟨by omega, by omega⟩ w)
  rw [enc300] at HN
  go_enter Try.func13, Try.ntmps13
  go_wp2_with fail
  refine HN.out.mono ?_
  rintro e w1 ⟨v, rfl, h1, h2⟩
  obtain ⟨A, c, rfl, hc, hr⟩ := h1.reads
  obtain ⟨b, off, rfl, hb0⟩ := same_cell (k := 0) hr (by decide)
  have hb1 : w1.cell? ⟨b, off + 1, none⟩ = some (.int .u8 2) := by
    obtain ⟨b', off', hA, hb1⟩ := same_cell (k := 1) hr (by decide)
    injection hA with hA
    injection hA with h1 h2
    subst h1; subst h2
    exact hb1
  have hb0' : w1.cell? ⟨b, off, none⟩ = some (.int .u8 172) := hb0
  clear hb0
  go_wp2_with fail
  go_ret
  exact ⟨rfl, h2⟩

set_option maxHeartbeats 400000 in
set_option maxRecDepth 100000 in
theorem CodeWrites_walk (v i : Int) (A : Option Addr) (c : Nat) (bs : List Int) (w : World) (hv : (Lit.int .u64 v).wf = true) (hi : (Lit.int .i64 i).wf = true) (hb : ∀ n ∈ bs, (Lit.int .u8 n).wf = true)
    (hr : Reads w (fun b => b < w.heap.size) 1 A bs.length (bs.map (Value.int .u8))) (hl : bs.length * 1 ≤ 140737488351232) :
    Calls Try.prog 4 #[.int .u64 v, .int .i64 i, .slice A bs.length c] w fun e w' => e = .returned (.bool true) ∧ Below w.heap.size w w' := by
  have hB := byt_wf hb
  have hr0 : Reads w (fun b => b < w.heap.size) 1 A bs.length (u8s bs) := hr
  have hl0 : bs.length < 140737488355300 := by omega
  have HO := Lib.hid (own_any A c _ bs 71 w hr0 hl0)
  have Hv := Lib.hid (u64_wf hv)
  have Hi := Lib.hid (i64_wf hi)
  clear hr hb hv hi hl
  go_enter Try.func4, Try.ntmps4
  go_wp2_with fail
  refine HO.out.mono ?_
  rintro e w1 ⟨g, rfl, hg, hO, b1⟩
  have hr1 := hr0.below b1
  have hOr := (hO.own hg hl0).reads
  obtain ⟨A', c', hAc, _, hOr⟩ := hOr
  injection hAc with hA1 _ hA3
  subst hA1; subst hA3
  go_wp2_with fail
  refine (text_any _ _ _ bs w1 hOr (by omega)).mono ?_
  have hBt := byt_app (byt_encI bs.length) hB
  generalize htl : encI (bs.length : Int) ++ bs = tl at hBt
  have Htl := Lib.hid htl
  clear htl
  rintro e w2 ⟨t, rfl, ht, b2⟩
  obtain ⟨At, ct, rfl, _, htr⟩ := ht.reads
  go_wp2_with fail
  refine (awake3_any _).mono ?_
  rintro e w3 ⟨rfl, b3⟩
  go_wp2_with fail
  refine (num_any _ Hv.out _).mono ?_
  rintro e w4 ⟨x1, rfl, o1, b4⟩
  obtain ⟨X1, k1, rfl, _, n1⟩ := o1.reads
  go_wp2_with fail
  refine (rnum_any _ Hv.out _).mono ?_
  rintro e w5 ⟨x2, rfl, o2, b5⟩
  obtain ⟨X2, k2, rfl, _, n2⟩ := o2.reads
  have n1' := n1.below b5
  go_wp2_with fail
  refine (bytes_any _ _ _ _ _ _ _ _ _ n1' n2 (byt_encI _) (byt_encI _)).mono ?_
  rintro e w6 ⟨rfl, rfl⟩
  rw [decide_eq_true rfl]
  go_wp2_with fail
  refine (int_any _ Hi.out _).mono ?_
  rintro e w7 ⟨x3, rfl, o3, b7⟩
  obtain ⟨X3, k3, rfl, _, n3⟩ := o3.reads
  go_wp2_with fail
  refine (rint_any _ Hi.out _).mono ?_
  rintro e w8 ⟨x4, rfl, o4, b8⟩
  obtain ⟨X4, k4, rfl, _, n4⟩ := o4.reads
  have n3' := n3.below b8
  go_wp2_with fail
  refine (bytes_any _ _ _ _ _ _ _ _ _ n3' n4 (byt_encI _) (byt_encI _)).mono ?_
  rintro e w9 ⟨rfl, rfl⟩
  rw [decide_eq_true rfl]
  have b29 := bt (bt (bt (bt (bt b3 b4) b5) b7) b8) (Below.refl _ _)
  have b19 := bt b2 b29
  have htr9 := htr.below b29
  have hr9 := hr1.below b19
  go_wp2_with fail
  refine (rtext_any _ _ _ bs _ hr9 (by omega)).mono ?_
  rintro e w10 ⟨x5, rfl, o5, b10⟩
  rw [Htl.out] at o5
  obtain ⟨X5, k5, rfl, _, n5⟩ := o5.reads
  go_wp2_with fail
  refine (bytes_any _ _ _ _ _ _ _ _ _ (htr9.below b10) n5 hBt hBt).mono ?_
  rintro e w11 ⟨rfl, rfl⟩
  rw [decide_eq_true rfl]
  have b1x := bt b19 b10
  go_wp2_with fail
  refine (kept_any g _ c _ bs 71 _ (Blk.below hO b1x hO.lt) (hr1.below b1x) hl0).mono ?_
  rintro e w12 ⟨rfl, n, rfl⟩
  go_wp2_with fail
  go_ret
  exact ⟨rfl, below_drewN (bt b1 b1x) n⟩
end Go.Proofs.Ytggoigdlggenfaa
