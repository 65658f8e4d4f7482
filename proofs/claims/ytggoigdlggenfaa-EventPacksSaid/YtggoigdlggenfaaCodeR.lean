/- What the functions of package code do, the second part: the reader's methods. -/
import Derived.Test.YtggoigdlggenfaaCode
namespace Go.Proofs.Ytggoigdlggenfaa
open Go.RowKit Go.Proofs.Ytggoigdlggenfaa.Plain

/-- A reader at block p, over bytes in blocks that F tells. -/
def Rdr (w : World) (F : Nat → Prop) (p : Nat) (bs : List Int) (at_ : Nat) (er : Int) : Prop :=
  ¬ F p ∧ ∃ A c, bs.length ≤ c ∧ Blk w p 84 #[.slice A bs.length c, .int .i64 at_, .int .i64 er] ∧ Reads w F 1 A bs.length (u8s bs)
/-- What is right of a reader's bytes and place. -/
def RdrOk (bs : List Int) (at_ : Nat) : Prop := Byt bs ∧ bs.length < 140737488355328 ∧ at_ ≤ bs.length

theorem Rdr.set_err {w : World} {F : Nat → Prop} {p : Nat} {bs : List Int} {at_ : Nat} {er : Int} (h : Rdr w F p bs at_ er) (e : Int) : Rdr (w.setCell ⟨p, 2, none⟩ (.int .i64 e)) F p bs at_ e := by
  obtain ⟨hF, A, c, hcap, hb, hr⟩ := h
  exact ⟨hF, A, c, hcap, hb.set_ 2 _, hr.far (fun b hb' e => hF (by simp at e; exact e ▸ hb')) _⟩
theorem Rdr.set_at {w : World} {F : Nat → Prop} {p : Nat} {bs : List Int} {at_ : Nat} {er : Int} (h : Rdr w F p bs at_ er) (a : Nat) : Rdr (w.setCell ⟨p, 1, none⟩ (.int .i64 a)) F p bs a er := by
  obtain ⟨hF, A, c, hcap, hb, hr⟩ := h
  exact ⟨hF, A, c, hcap, hb.set_ 1 _, hr.far (fun b hb' e => hF (by simp at e; exact e ▸ hb')) _⟩
theorem Rdr.drewN {w : World} {F : Nat → Prop} {p : Nat} {bs : List Int} {at_ : Nat} {er : Int} (h : Rdr w F p bs at_ er) (n : Nat) : Rdr (w.drewN n) F p bs at_ er := h

set_option maxHeartbeats 400000 in
set_option maxRecDepth 100000 in
theorem num_m_any (p : Nat) (bs : List Int) (F : Nat → Prop) (at_ : Nat) (er most : Int) (w : World) (h : Rdr w F p bs at_ er) (ho : RdrOk bs at_) :
    Calls Try.prog 55 #[.pointer (some ⟨p, 0, none⟩), .int .u64 most] w fun e w' =>
      e = .returned (.int .u64 (rnum bs at_ er most).1) ∧ Rdr w' F p bs (rnum bs at_ er most).2.1 (rnum bs at_ er most).2.2 ∧ Frm (· = p) w w' := by
  have H := Lib.hid h
  obtain ⟨hF, A, c, hcap, hb, hr⟩ := h
  obtain ⟨hB, hlen, hat⟩ := ho
  have hc0 : w.cell? ⟨p, 0, none⟩ = some (.slice A bs.length c) := hb.cell 0
  have hc1 : w.cell? ⟨p, 1, none⟩ = some (.int .i64 at_) := hb.cell 1
  have hc2 : w.cell? ⟨p, 2, none⟩ = some (.int .i64 er) := hb.cell 2
  have hf1 := hb.frozen 1
  have hf2 := hb.frozen 2
  by_cases he : er = 0
  · subst he
    have hf := rlook_facts bs hB at_
    have hl := look_any p bs F A c at_ 0 w hb hr hB hlen hat
    generalize hv : (rlook bs at_).1 = v at hl hf
    generalize ha : (rlook bs at_).2.1 = a at hl hf
    generalize hee : (rlook bs at_).2.2 = ee at hl hf
    obtain ⟨f1, f2, f3, f4, f5, f6⟩ := hf
    have Hv := Lib.hid hv
    have Ha := Lib.hid ha
    have He := Lib.hid hee
    have HL := Lib.hid hl
    have F5 := Lib.hid f5
    have F6 := Lib.hid f6
    obtain ⟨a, rfl⟩ := Int.eq_ofNat_of_zero_le f3
    clear hv ha hee hl f2 f5 f6
    by_cases e0 : ee = 0
    · by_cases hm : v > most
      · have e1 : (ee == 0) = true := by simp; omega
        have hfin : Hid (rnum bs at_ 0 most = (0, at_, 10)) := by unfold Hid rnum; rw [if_neg (by omega), if_neg (by rw [He.out]; omega), if_pos (by rw [Hv.out]; exact hm)]
        go_enter Try.func55, Try.ntmps55
        go_wp2_with fail
        refine HL.out.mono ?_
        rintro e w1 ⟨rfl, n1, rfl⟩
        go_wp2_with fail
        go_ret
        rw [hfin.out]
        exact ⟨rfl, (H.out.drewN n1).set_err 10, ((Frm.refl (· = p) w).drewN n1).set (p := ⟨p, _, none⟩) (fun _ => rfl) _⟩
      · have e1 : (ee == 0) = true := by simp; omega
        have e2 : (ee != 0) = false := by simp; omega
        have hfin : Hid (rnum bs at_ 0 most = (v, a, 0)) := by unfold Hid rnum; rw [if_neg (by omega), if_neg (by rw [He.out]; omega), if_neg (by rw [Hv.out]; exact hm), Hv.out, Ha.out]; rfl
        go_enter Try.func55, Try.ntmps55
        go_wp2_with fail
        refine HL.out.mono ?_
        rintro e w1 ⟨rfl, n1, rfl⟩
        go_wp2_with fail
        go_ret
        rw [hfin.out]
        exact ⟨rfl, (H.out.drewN n1).set_at a, ((Frm.refl (· = p) w).drewN n1).set (p := ⟨p, _, none⟩) (fun _ => rfl) _⟩
    · have e1 : (ee == 0) = false := by simp; omega
      have e2 : (ee != 0) = true := by simp; omega
      have hfin : Hid (rnum bs at_ 0 most = (0, at_, ee)) := by unfold Hid rnum; rw [if_neg (by omega), if_pos (by rw [He.out]; omega), He.out]
      go_enter Try.func55, Try.ntmps55
      go_wp2_with fail
      refine HL.out.mono ?_
      rintro e w1 ⟨rfl, n1, rfl⟩
      go_wp2_with fail
      go_ret
      rw [hfin.out]
      exact ⟨rfl, (H.out.drewN n1).set_err ee, ((Frm.refl (· = p) w).drewN n1).set (p := ⟨p, _, none⟩) (fun _ => rfl) _⟩
  · have he1 : (er != 0) = true := by rw [bne_iff_ne]; exact he
    go_enter Try.func55, Try.ntmps55
    go_wp2_with fail
    go_ret
    have hfin : rnum bs at_ er most = (0, at_, er) := by unfold rnum; rw [if_pos he]
    rw [hfin]
    exact ⟨rfl, H.out, Frm.refl _ _⟩

theorem rnum_ok {bs : List Int} {at_ : Nat} (er most : Int) (h : RdrOk bs at_) : RdrOk bs (rnum bs at_ er most).2.1 := by
  obtain ⟨hB, hl, ha⟩ := h
  have := rlook_facts bs hB at_
  refine ⟨hB, hl, ?_⟩
  unfold rnum
  split
  · exact ha
  · split
    · exact ha
    · split
      · exact ha
      · dsimp only; omega

set_option maxHeartbeats 400000 in
theorem Num_m_any (p : Nat) (bs : List Int) (F : Nat → Prop) (at_ : Nat) (er : Int) (w : World) (h : Rdr w F p bs at_ er) (ho : RdrOk bs at_) :
    Calls Try.prog 24 #[.pointer (some ⟨p, 0, none⟩)] w fun e w' =>
      e = .returned (.int .u64 (rnum bs at_ er 18446744073709551615).1) ∧ Rdr w' F p bs (rnum bs at_ er 18446744073709551615).2.1 (rnum bs at_ er 18446744073709551615).2.2 ∧ Frm (· = p) w w' := by
  have HL := Lib.hid (num_m_any p bs F at_ er 18446744073709551615 w h ho)
  go_enter Try.func24, Try.ntmps24
  go_wp2_with fail
  refine HL.out.mono ?_
  rintro e w1 ⟨rfl, h1, h2⟩
  go_wp2_with fail
  go_ret
  exact ⟨rfl, h1, h2⟩

theorem rnum_rng {bs : List Int} {at_ : Nat} (er most : Int) (h : RdrOk bs at_) (hm : 0 ≤ most) : 0 ≤ (rnum bs at_ er most).1 ∧ (rnum bs at_ er most).1 < 18446744073709551616 ∧ (rnum bs at_ er most).1 ≤ most := by
  have := rnum_facts bs h.1 at_ h.2.2 er most hm
  exact ⟨this.1, this.2.1, this.2.2.1⟩

set_option maxHeartbeats 400000 in
theorem Int_m_any (p : Nat) (bs : List Int) (F : Nat → Prop) (at_ : Nat) (er : Int) (w : World) (h : Rdr w F p bs at_ er) (ho : RdrOk bs at_) :
    Calls Try.prog 36 #[.pointer (some ⟨p, 0, none⟩)] w fun e w' =>
      e = .returned (.int .i64 (unzig (rnum bs at_ er 18446744073709551615).1)) ∧ Rdr w' F p bs (rnum bs at_ er 18446744073709551615).2.1 (rnum bs at_ er 18446744073709551615).2.2 ∧ Frm (· = p) w w' := by
  have HL := Lib.hid (Num_m_any p bs F at_ er w h ho)
  go_enter Try.func36, Try.ntmps36
  go_wp2_with fail
  refine HL.out.mono ?_
  rintro e w1 ⟨rfl, h1, h2⟩
  go_wp2_with fail
  go_ret
  have hr := rnum_rng er 18446744073709551615 ho (by omega)
  exact ⟨ret1 (vi (unzig_bits _ hr.1 hr.2.1)), h1, h2⟩

theorem u64_id {x : Int} (h : 0 ≤ x) (h' : x ≤ 9223372036854775807) : IntKind.u64.wrap x = x := by rw [wrap_u64]; omega
theorem w64_id {x : Int} (h : 0 ≤ x) (h' : x ≤ 9223372036854775807) : wrap64 x = x := by unfold wrap64; omega

set_option maxHeartbeats 400000 in
theorem Small_m_any (p : Nat) (bs : List Int) (F : Nat → Prop) (at_ : Nat) (er most : Int) (w : World) (h : Rdr w F p bs at_ er) (ho : RdrOk bs at_) (hm : I64 most) :
    Calls Try.prog 28 #[.pointer (some ⟨p, 0, none⟩), .int .i64 most] w fun e w' =>
      e = .returned (.int .i64 (rnum bs at_ er (max most 0)).1) ∧ Rdr w' F p bs (rnum bs at_ er (max most 0)).2.1 (rnum bs at_ er (max most 0)).2.2 ∧ Frm (· = p) w w' := by
  have HL := Lib.hid (num_m_any p bs F at_ er (max most 0) w h ho)
  by_cases h0 : 0 ≤ most
  · have e1 := Lib.hid (u64_id h0 hm.2)
    rw [show max most 0 = most by omega] at HL ⊢
    go_enter Try.func28, Try.ntmps28
    go_wp2_with fail
    rw [e1.out]
    refine HL.out.mono ?_
    rintro e w1 ⟨rfl, h1, h2⟩
    go_wp2_with fail
    go_ret
    have hr := rnum_rng er most ho h0
    exact ⟨ret1 (vi (w64_id hr.1 (by have := hm.2; omega))), h1, h2⟩
  · rw [show max most 0 = 0 by omega] at HL ⊢
    have hlt : most < 0 := by omega
    go_enter Try.func28, Try.ntmps28
    go_wp2_with fail
    refine HL.out.mono ?_
    rintro e w1 ⟨rfl, h1, h2⟩
    go_wp2_with fail
    go_ret
    have hr := rnum_rng er 0 ho (by omega)
    exact ⟨ret1 (vi (w64_id hr.1 (by omega))), h1, h2⟩

set_option maxHeartbeats 400000 in
theorem Left_m_any (p : Nat) (bs : List Int) (F : Nat → Prop) (at_ : Nat) (er : Int) (w : World) (h : Rdr w F p bs at_ er) (ho : RdrOk bs at_) :
    Calls Try.prog 25 #[.pointer (some ⟨p, 0, none⟩)] w fun e w' => e = .returned (.int .i64 ((bs.length : Int) - at_)) ∧ ∃ n, w' = w.drewN n := by
  obtain ⟨hF, A, c, hcap, hb, hr⟩ := h
  obtain ⟨hB, hlen, hat⟩ := ho
  have hc0 : w.cell? ⟨p, 0, none⟩ = some (.slice A bs.length c) := hb.cell 0
  have hc1 : w.cell? ⟨p, 1, none⟩ = some (.int .i64 at_) := hb.cell 1
  go_enter Try.func25, Try.ntmps25
  go_wp2_with fail
  go_quiet (fail)
  go_wp2_with fail
  go_ret
  exact ⟨rfl, drawn1 _ _⟩

set_option maxHeartbeats 400000 in
theorem Err_m_any (p : Nat) (bs : List Int) (F : Nat → Prop) (at_ : Nat) (er : Int) (w : World) (h : Rdr w F p bs at_ er) :
    Calls Try.prog 26 #[.pointer (some ⟨p, 0, none⟩)] w fun e w' => e = .returned (.int .i64 er) ∧ ∃ n, w' = w.drewN n := by
  obtain ⟨hF, A, c, hcap, hb, hr⟩ := h
  have hc2 : w.cell? ⟨p, 2, none⟩ = some (.int .i64 er) := hb.cell 2
  go_enter Try.func26, Try.ntmps26
  go_wp2_with fail
  go_ret
  exact ⟨rfl, drawn0 _⟩

/-- The first fault, or that bytes are left. -/
def rend (bs : List Int) (at_ : Nat) (er : Int) : Int := if er ≠ 0 then er else if at_ < bs.length then 10 else 0

set_option maxHeartbeats 400000 in
theorem End_m_any (p : Nat) (bs : List Int) (F : Nat → Prop) (at_ : Nat) (er : Int) (w : World) (h : Rdr w F p bs at_ er) (ho : RdrOk bs at_) :
    Calls Try.prog 27 #[.pointer (some ⟨p, 0, none⟩)] w fun e w' => e = .returned (.int .i64 (rend bs at_ er)) ∧ ∃ n, w' = w.drewN n := by
  have HE := Lib.hid (Err_m_any p bs F at_ er w h)
  have HL := fun k => Lib.hid (Left_m_any p bs F at_ er (w.drewN k) (h.drewN k) ho)
  by_cases he : er = 0
  · have he1 : (er != 0) = false := by simp; omega
    by_cases hlt : at_ < bs.length
    · have hf : rend bs at_ er = 10 := by unfold rend; rw [if_neg (by omega), if_pos hlt]
      rw [hf]
      clear hf he
      go_enter Try.func27, Try.ntmps27
      go_wp2_with fail
      refine HE.out.mono ?_
      rintro e w1 ⟨rfl, n1, rfl⟩
      go_wp2_with fail
      refine (HL _).out.mono ?_
      rintro e w1 ⟨rfl, n2, rfl⟩
      have : (0 : Int) < (bs.length : Int) - at_ := by omega
      go_wp2_with fail
      go_ret
      exact ⟨rfl, by first | exact drawn1 _ _ | exact drawn2 _ _ _⟩
    · have hf : rend bs at_ er = 0 := by unfold rend; rw [if_neg (by omega), if_neg hlt]
      rw [hf]
      clear hf he
      go_enter Try.func27, Try.ntmps27
      go_wp2_with fail
      refine HE.out.mono ?_
      rintro e w1 ⟨rfl, n1, rfl⟩
      go_wp2_with fail
      refine (HL _).out.mono ?_
      rintro e w1 ⟨rfl, n2, rfl⟩
      have : ¬ (0 : Int) < (bs.length : Int) - at_ := by omega
      go_wp2_with fail
      go_ret
      exact ⟨rfl, by first | exact drawn1 _ _ | exact drawn2 _ _ _⟩
  · have he1 : (er != 0) = true := by rw [bne_iff_ne]; exact he
    have hf : rend bs at_ er = er := by unfold rend; rw [if_pos he]
    rw [hf]
    clear hf he
    go_enter Try.func27, Try.ntmps27
    go_wp2_with fail
    refine HE.out.mono ?_
    rintro e w1 ⟨rfl, n1, rfl⟩
    go_wp2_with fail
    go_ret
    exact ⟨rfl, drawn1 _ _⟩
end Go.Proofs.Ytggoigdlggenfaa
