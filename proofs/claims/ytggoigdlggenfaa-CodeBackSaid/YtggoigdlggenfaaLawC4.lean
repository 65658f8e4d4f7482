/- The walk of the law of package code: what is written, one behind the other, is read. -/
import Derived.Test.YtggoigdlggenfaaLawC2
import Derived.Test.YtggoigdlggenfaaRdr2
namespace Go.Proofs.Ytggoigdlggenfaa
open Go.RowKit Go.Proofs.Ytggoigdlggenfaa.Plain

theorem back_num (v i : Int) (bs : List Int) (hv : U64 v) :
    rnum ((encI v ++ encI (zig i)) ++ (encI bs.length ++ bs)) 0 0 18446744073709551615 = (v, (encI v).length, 0) := by
  rw [rnum_reads _ (encI (zig i) ++ (encI bs.length ++ bs)) 0 v _ hv.1 hv.2 (by have := hv.2; omega) (by simp), Nat.zero_add]
theorem back_int (v i : Int) (bs : List Int) (hi : I64 i) :
    rnum ((encI v ++ encI (zig i)) ++ (encI bs.length ++ bs)) (encI v).length 0 18446744073709551615 = (zig i, (encI v).length + (encI (zig i)).length, 0) := by
  have hz := zig_bounds hi.1 hi.2
  rw [rnum_reads _ (encI bs.length ++ bs) _ (zig i) _ hz.1 hz.2 (by omega) (by rw [List.append_assoc, List.drop_left])]
theorem back_text (v i : Int) (bs : List Int) (hl : bs.length ≤ 1048576) :
    rtext ((encI v ++ encI (zig i)) ++ (encI bs.length ++ bs)) ((encI v).length + (encI (zig i)).length) 0 1048576 = (bs, ((encI v ++ encI (zig i)) ++ (encI bs.length ++ bs)).length, 0) := by
  rw [rtext_reads _ bs [] _ _ (by omega) (by omega) (by rw [← List.length_append, List.drop_left]; simp)]
  simp; omega

set_option maxHeartbeats 400000 in
set_option maxRecDepth 100000 in
theorem CodeBack_walk (v i : Int) (A : Option Addr) (c : Nat) (bs : List Int) (w : World) (hv : (Lit.int .u64 v).wf = true) (hi : (Lit.int .i64 i).wf = true) (hb : ∀ n ∈ bs, (Lit.int .u8 n).wf = true)
    (hr : Reads w (fun b => b < w.heap.size) 1 A bs.length (bs.map (Value.int .u8))) (hl : bs.length * 1 ≤ 140737488351232) :
    Calls Try.prog 10 #[.int .u64 v, .int .i64 i, .slice A bs.length c] w fun e w' => e = .returned (.bool true) ∧ Below w.heap.size w w' := by
  have hB := byt_wf hb
  have hr0 : Reads w (fun b => b < w.heap.size) 1 A bs.length (u8s bs) := hr
  have Hv := Lib.hid (u64_wf hv)
  have Hi := Lib.hid (i64_wf hi)
  have hz := zig_bounds Hi.out.1 Hi.out.2
  have l1 : (encI v).length ≤ 10 := encI_len10 (by have := Hv.out.2; omega)
  have l2 : (encI (zig i)).length ≤ 10 := encI_len10 (by omega)
  have l3 : (encI (bs.length : Int)).length ≤ 10 := encI_len10 (by omega)
  have l4 : bs.length ≤ 140737488351232 := by omega
  have BN := back_num v i bs Hv.out
  have BI := back_int v i bs Hi.out
  have BT : bs.length ≤ 1048576 → _ := back_text v i bs
  have hLB : Byt ((encI v ++ encI (zig i)) ++ (encI bs.length ++ bs)) := byt_app (byt_app (byt_encI _) (byt_encI _)) (byt_app (byt_encI _) hB)
  have hLl : ((encI v ++ encI (zig i)) ++ (encI bs.length ++ bs)).length ≤ 140737488351262 := by simp only [List.length_append]; omega
  have hu := unzig_zig i
  generalize hL : (encI v ++ encI (zig i)) ++ (encI bs.length ++ bs) = L at BN BI BT hLB hLl
  have hT : ∃ tl, tl = encI (bs.length : Int) ++ bs := ⟨_, rfl⟩
  obtain ⟨tl, hT⟩ := hT
  have hTl : tl.length = (encI (bs.length : Int)).length + bs.length := by rw [hT]; simp
  have HTl := Lib.hid hTl
  have HT := Lib.hid hT
  have HL := Lib.hid hL
  have HBN := Lib.hid BN
  have HBI := Lib.hid BI
  have HBT := Lib.hid BT
  have Hu := Lib.hid hu
  have Hz := Lib.hid hz
  clear hr hb hv hi hl hL hT hTl BN BI BT hu hz
  go_enter Try.func10, Try.ntmps10
  go_wp2_with fail
  refine (num_any _ Hv.out _).mono ?_
  rintro e w1 ⟨x1, rfl, o1, b1⟩
  go_wp2_with fail
  refine (int_any _ Hi.out _).mono ?_
  rintro e w2 ⟨x2, rfl, o2, b2⟩
  obtain ⟨X2, k2, rfl, _, n2⟩ := o2.reads
  have o1' := o1.below b2
  have b02 := bt b1 b2
  unfold OwnB at o1'
  go_wp2_with (at_builtin; refine wpList_append_any Try.elt_u8 o1' n2 (u8s_one _) rfl rfl rfl rfl (by omega) b02.size ?_; intro x3 w3 o3 f3 _)
  rw [u8s_app, ← List.length_append] at o3
  have b03 := below_frm b02 f3 (Nat.le_refl _) (fun b hb e => by have := o1'.lt b e; omega)
  refine (text_any _ _ _ bs w3 (hr0.below b03) (by omega)).mono ?_
  rintro e w4 ⟨x4, rfl, o4, b4⟩
  rw [← HT.out] at o4
  obtain ⟨X4, k4, rfl, _, n4⟩ := o4.reads
  have o3' := own_below o3 b4
  have b04 := bt b03 b4
  have hs34 : (encI v ++ encI (zig i)).length + tl.length ≤ 140737488351262 := by have := HTl.out; simp only [List.length_append]; omega
  have Hs34 := Lib.hid hs34
  clear hs34
  go_wp2_with (at_builtin; refine wpList_append_any Try.elt_u8 o3' n4 (u8s_one _) rfl rfl rfl rfl (by have := Hs34.out; omega) b04.size ?_; intro x5 w5 o5 f5 _)
  rw [u8s_app, ← List.length_append, HT.out, HL.out] at o5
  have b05 := below_frm b04 f5 (Nat.le_refl _) (fun b hb e => by have := o3'.lt b e; omega)
  have o5' : OwnB w5 w.heap.size x5 L := o5
  obtain ⟨X5, k5, rfl, _, n5⟩ := o5'.reads
  go_wp2_with fail
  refine (new_any _ _ _ L w5 n5 (by omega)).mono ?_
  rintro e w6 ⟨p, rfl, hp, hR, b6⟩
  go_wp2_with fail
  refine (awake3_any _).mono ?_
  rintro e w7 ⟨rfl, b7⟩
  have hR7 := hR.below b7
  have b07 := bt (bt b05 b6) b7
  have ok0 : RdrOk L 0 := ⟨hLB, by omega, Nat.zero_le _⟩
  have hp0 : w.heap.size ≤ p := by have := b05.size; omega
  by_cases hbig : bs.length ≤ 1048576
  · have bt3 := HBT.out hbig
    have Bt3 := Lib.hid bt3
    clear bt3
    go_wp2_with fail
    refine (Num_m_any p L _ 0 0 w7 hR7 ok0).mono ?_
    rintro e w8 ⟨rfl, hR8, f8⟩
    have ok8 := rnum_ok 0 18446744073709551615 ok0
    rw [HBN.out] at hR8 ok8
    rw [HBN.out]
    go_wp2_with fail
    refine (Int_m_any p L _ _ 0 w8 hR8 ok8).mono ?_
    rintro e w9 ⟨rfl, hR9, f9⟩
    have ok9 := rnum_ok 0 18446744073709551615 ok8
    rw [HBI.out] at hR9 ok9
    rw [HBI.out, Hu.out]
    go_wp2_with fail
    refine (Text_m_any p L _ _ 0 1048576 w9 hR9 ok9 ⟨by omega, by omega⟩).mono ?_
    rintro e wa ⟨x, rfl, hx, hRa, fa⟩
    have oka := rtext_ok 0 1048576 ok9
    rw [Bt3.out] at hx hRa oka
    obtain ⟨XA, ka, rfl, _, na⟩ := hx.reads
    have b0a : Below w.heap.size w wa := below_frm (below_frm (below_frm b07 f8 (Nat.le_refl _) (fun b hb e => by omega)) f9 (Nat.le_refl _) (fun b hb e => by omega)) fa (Nat.le_refl _) (fun b hb e => by omega)
    go_wp2_with fail
    refine (bytes_any _ _ _ _ _ _ _ _ _ na (hr0.below b0a) hB hB).mono ?_
    rintro e wb ⟨rfl, rfl⟩
    rw [decide_eq_true rfl]
    go_wp2_with fail
    refine (End_m_any p L _ _ 0 _ hRa oka).mono ?_
    rintro e wb ⟨rfl, n1, rfl⟩
    have he : rend L L.length 0 = 0 := by unfold rend; rw [if_neg (by omega), if_neg (by omega)]
    rw [he]
    clear he
    go_wp2_with fail
    refine (Left_m_any p L _ _ 0 _ (hRa.drewN n1) oka).mono ?_
    rintro e wb ⟨rfl, n2, rfl⟩
    have he : (L.length : Int) - (L.length : Int) = 0 := by omega
    rw [he]
    clear he
    go_wp2_with fail
    go_ret
    exact ⟨rfl, by first | exact below_drewN b0a _ | exact below_drewN (below_drewN b0a _) _⟩
  · have hgt : (1048576 : Int) < (bs.length : Int) := by omega
    go_wp2_with fail
    refine (awake3_any _).mono ?_
    rintro e w8 ⟨rfl, b8⟩
    go_wp2_with fail
    go_ret
    exact ⟨rfl, bt b07 b8⟩
end Go.Proofs.Ytggoigdlggenfaa
