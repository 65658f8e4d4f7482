/- What the reference of package code does: its reader's methods. -/
import Derived.Test.YtggoigdlggenfaaRefR
namespace Go.Proofs.Ytggoigdlggenfaa
open Go.RowKit Go.Proofs.Ytggoigdlggenfaa.Plain

/-- The reference's reader at block p, over bytes in blocks that F tells. -/
def RRdr (w : World) (F : Nat → Prop) (p : Nat) (bs : List Int) (at_ : Nat) (er : Int) : Prop :=
  ¬ F p ∧ ∃ A c, bs.length ≤ c ∧ Blk w p 62 #[.slice A bs.length c, .int .i64 at_, .int .i64 er] ∧ Reads w F 1 A bs.length (u8s bs)
theorem RRdr.set_err {w : World} {F : Nat → Prop} {p : Nat} {bs : List Int} {at_ : Nat} {er : Int} (h : RRdr w F p bs at_ er) (e : Int) : RRdr (w.setCell ⟨p, 2, none⟩ (.int .i64 e)) F p bs at_ e := by
  obtain ⟨hF, A, c, hc, hb, hr⟩ := h
  exact ⟨hF, A, c, hc, hb.set_ 2 _, hr.far (fun b hb' e => hF (by simp at e; exact e ▸ hb')) _⟩
theorem RRdr.set_at {w : World} {F : Nat → Prop} {p : Nat} {bs : List Int} {at_ : Nat} {er : Int} (h : RRdr w F p bs at_ er) (a : Nat) : RRdr (w.setCell ⟨p, 1, none⟩ (.int .i64 a)) F p bs a er := by
  obtain ⟨hF, A, c, hc, hb, hr⟩ := h
  exact ⟨hF, A, c, hc, hb.set_ 1 _, hr.far (fun b hb' e => hF (by simp at e; exact e ▸ hb')) _⟩
theorem RRdr.drewN {w : World} {F : Nat → Prop} {p : Nat} {bs : List Int} {at_ : Nat} {er : Int} (h : RRdr w F p bs at_ er) (n : Nat) : RRdr (w.drewN n) F p bs at_ er := h
theorem RRdr.below {w w' : World} {F : Nat → Prop} {p : Nat} {bs : List Int} {at_ : Nat} {er : Int} (h : RRdr w F p bs at_ er) (k : Below w.heap.size w w') : RRdr w' F p bs at_ er := by
  obtain ⟨hF, A, c, hc, hb, hr⟩ := h
  exact ⟨hF, A, c, hc, hb.below k hb.lt, hr.below k⟩
theorem RRdr.frm {M : Nat → Prop} {w w' : World} {F : Nat → Prop} {p : Nat} {bs : List Int} {at_ : Nat} {er : Int} (h : RRdr w F p bs at_ er) (k : Frm M w w') (hp : ¬ M p) (hF : ∀ b, F b → ¬ M b) : RRdr w' F p bs at_ er := by
  obtain ⟨hF', A, c, hc, hb, hr⟩ := h
  exact ⟨hF', A, c, hc, hb.frm k hp, hr.frm k hF⟩

theorem take_len (A : Option Addr) (n c : Nat) (F : Nat → Prop) (bs : List Int) (w : World) (hn : n = bs.length) (hr : Reads w F 1 A n (u8s bs)) (hB : Byt bs) (hlen : bs.length < 140737488355328) (v : Int) (a : Int) (e : Int) (hL : rlook bs 0 = (v, a, e)) :
    Calls Try.prog 63 #[.slice A n c] w fun e' w' => e' = .returned (.tuple #[.int .u64 v, .int .i64 a, .int .i64 e]) ∧ ∃ n, w' = w.drewN n := by
  subst hn
  have := take_any A c F bs w hr hB hlen
  rw [hL] at this
  exact this
theorem quiet_s {P : Program} {f : FuncId} {args : Array Value} {w : World} {n : Nat} {v : Value}
    (h : Calls P f args (w.drewN n) fun e w' => e = .returned v ∧ ∃ k, w' = (w.drewN n).drewN k) : Calls P f args (w.drewN n) fun e w'' => e = .returned v ∧ ∃ m, w'' = w.drewN m :=
  quiet_same fun W hW => by subst hW; exact h

set_option maxHeartbeats 400000 in
set_option maxRecDepth 100000 in
theorem rNum_m_any (p : Nat) (bs : List Int) (F : Nat → Prop) (at_ : Nat) (er : Int) (w : World) (h : RRdr w F p bs at_ er) (ho : RdrOk bs at_) :
    Calls Try.prog 42 #[.pointer (some ⟨p, 0, none⟩)] w fun e w' =>
      e = .returned (.int .u64 (rnum bs at_ er 18446744073709551615).1) ∧ RRdr w' F p bs (rnum bs at_ er 18446744073709551615).2.1 (rnum bs at_ er 18446744073709551615).2.2 ∧ Frm (· = p) w w' := by
  have H := Lib.hid h
  obtain ⟨hF, A, c, hcap, hb, hr⟩ := h
  obtain ⟨hB, hlen, hat⟩ := ho
  have hc0 : w.cell? ⟨p, 0, none⟩ = some (.slice A bs.length c) := hb.cell 0
  have hc1 : w.cell? ⟨p, 1, none⟩ = some (.int .i64 at_) := hb.cell 1
  have hc2 : w.cell? ⟨p, 2, none⟩ = some (.int .i64 er) := hb.cell 2
  have hf1 := hb.frozen 1
  have hf2 := hb.frozen 2
  by_cases he : er = 0
  · subst he
    have hfull := Lib.hid (rnum_full bs hB at_)
    have hdB : Byt (bs.drop at_) := fun x hx => hB x (List.mem_of_mem_drop hx)
    have hdl : (bs.drop at_).length = bs.length - at_ := List.length_drop
    have hcut := hr.cut (cap := c) hat hcap
    rw [Nat.mul_one] at hcut
    have hu : (u8s bs).drop at_ = u8s (bs.drop at_) := by simp [u8s]
    rw [hu] at hcut
    have hf := rlook_facts (bs.drop at_) hdB 0
    generalize hD : bs.drop at_ = D at *
    generalize hL : rlook D 0 = R at *
    obtain ⟨v, a, ee⟩ := R
    obtain ⟨a, rfl⟩ := Int.eq_ofNat_of_zero_le hf.2.2.1
    have f4 : (a : Int) ≤ D.length := hf.2.2.2.1
    have hatD : (at_ : Int) ≤ (bs.length : Int) := by omega
    have Hdl := Lib.hid hdl
    have HL := Lib.hid hL
    have Hcut := Lib.hid hcut
    have hac : (at_ : Int) ≤ (c : Int) := by omega
    have hab : at_ + a ≤ bs.length := by omega
    clear hu hf hdl hD hL hcut
    go_enter Try.func42, Try.ntmps42
    go_wp2_with fail
    have hD3 : D.length < 140737488355328 := by have := Hdl.out; omega
    go_quiet ((go_at_call 63; exact quiet_s (take_len _ _ _ _ D _ Hdl.out.symm (Hcut.out.drewN _) hdB hD3 v a ee HL.out)))
    go_wp2_with fail
    all_goals go_ret
    all_goals rw [hfull.out]
    all_goals exact ⟨rfl, ((H.out.drewN _).set_err ee).set_at _, ((((Frm.refl (· = p) w).drewN _).set (p := ⟨p, _, none⟩) (fun _ => rfl) _).set (p := ⟨p, _, none⟩) (fun _ => rfl) _)⟩
  · have he1 : (er != 0) = true := by rw [bne_iff_ne]; exact he
    go_enter Try.func42, Try.ntmps42
    go_wp2_with fail
    go_ret
    have hfin : rnum bs at_ er 18446744073709551615 = (0, at_, er) := by unfold rnum; rw [if_pos he]
    rw [hfin]
    exact ⟨rfl, H.out, Frm.refl _ _⟩

theorem unzig_even {v : Int} (h : v % 2 = 0) : unzig v = v / 2 := by unfold unzig; rw [if_pos h]
theorem unzig_odd {v : Int} (h : v % 2 = 1) : unzig v = -(v / 2) - 1 := by unfold unzig; rw [if_neg (by omega)]

theorem half64 {v : Int} (h0 : 0 ≤ v) (h1 : v < 18446744073709551616) : wrap64 (IntKind.u64.wrap (v.tdiv 2)) = v / 2 := by
  rw [Int.tdiv_eq_ediv_of_nonneg h0, wrap_u64]; unfold wrap64; omega
theorem neghalf64 {v : Int} (h0 : 0 ≤ v) (h1 : v < 18446744073709551616) : wrap64 (wrap64 (-wrap64 (IntKind.u64.wrap (v.tdiv 2))) - 1) = -(v / 2) - 1 := by
  rw [half64 h0 h1]; unfold wrap64; omega

set_option maxHeartbeats 400000 in
set_option maxRecDepth 100000 in
theorem rInt_m_any (p : Nat) (bs : List Int) (F : Nat → Prop) (at_ : Nat) (er : Int) (w : World) (h : RRdr w F p bs at_ er) (ho : RdrOk bs at_) :
    Calls Try.prog 39 #[.pointer (some ⟨p, 0, none⟩)] w fun e w' =>
      e = .returned (.int .i64 (unzig (rnum bs at_ er 18446744073709551615).1)) ∧ RRdr w' F p bs (rnum bs at_ er 18446744073709551615).2.1 (rnum bs at_ er 18446744073709551615).2.2 ∧ Frm (· = p) w w' := by
  have HL := Lib.hid (rNum_m_any p bs F at_ er w h ho)
  have hr := rnum_rng er 18446744073709551615 ho (by omega)
  generalize (rnum bs at_ er 18446744073709551615).1 = v at *
  have hv0 := hr.1
  have Hr := Lib.hid hr
  clear hr
  by_cases hv : v % 2 = 1
  · have hb : (v % 2 == 1) = true := by simp [hv]
    rw [unzig_odd hv]
    clear hv
    go_enter Try.func39, Try.ntmps39
    go_wp2_with fail
    refine HL.out.mono ?_
    rintro e w1 ⟨rfl, h1, h2⟩
    go_wp2_with fail
    go_ret
    exact ⟨ret1 (vi (neghalf64 Hr.out.1 Hr.out.2.1)), h1, h2⟩
  · have hb : (v % 2 == 1) = false := by simp [hv]
    rw [unzig_even (by omega)]
    clear hv
    go_enter Try.func39, Try.ntmps39
    go_wp2_with fail
    refine HL.out.mono ?_
    rintro e w1 ⟨rfl, h1, h2⟩
    go_wp2_with fail
    go_ret
    exact ⟨ret1 (vi (half64 Hr.out.1 Hr.out.2.1)), h1, h2⟩

theorem rnum_least (bs : List Int) (at_ : Nat) (most : Int) (hm : most ≤ 18446744073709551615) :
    rnum bs at_ 0 most = if (rnum bs at_ 0 18446744073709551615).2.2 = 0 ∧ (rnum bs at_ 0 18446744073709551615).1 > most then (0, at_, 10) else rnum bs at_ 0 18446744073709551615 := by
  unfold rnum
  simp only [ne_eq, not_true_eq_false, if_false]
  generalize rlook bs at_ = r
  obtain ⟨v, a, e⟩ := r
  dsimp only
  by_cases h : e = 0
  · subst h
    simp only [not_true_eq_false, if_false]
    by_cases h1 : v > most
    · rw [if_pos h1]
      by_cases h2 : v > 18446744073709551615
      · rw [if_pos h2, if_neg (by simp)]
      · rw [if_neg h2, if_pos ⟨rfl, h1⟩]
    · have h2 : ¬ v > 18446744073709551615 := by omega
      rw [if_neg h1, if_neg h2, if_neg (fun h => h1 h.2)]
  · simp only [h, not_false_eq_true, if_true]
    rw [if_neg]
    rintro ⟨h1, _⟩
    exact h1

set_option maxHeartbeats 400000 in
set_option maxRecDepth 100000 in
theorem rsmall_pos (p : Nat) (bs : List Int) (F : Nat → Prop) (at_ : Nat) (er most : Int) (w : World) (h : RRdr w F p bs at_ er) (ho : RdrOk bs at_) (hm : I64 most) (hs : 0 ≤ most) :
    Calls Try.prog 62 #[.pointer (some ⟨p, 0, none⟩), .int .i64 most] w fun e w' =>
      e = .returned (.tuple #[.int .i64 (rnum bs at_ er most).1, .int .i64 at_]) ∧ RRdr w' F p bs (rnum bs at_ er most).2.1 (rnum bs at_ er most).2.2 ∧ Frm (· = p) w w' := by
  have HN := Lib.hid (rNum_m_any p bs F at_ er w h ho)
  obtain ⟨hF, A, c, hcap, hb, hr⟩ := h
  have hc1 : w.cell? ⟨p, 1, none⟩ = some (.int .i64 at_) := hb.cell 1
  have hrng := rnum_rng er 18446744073709551615 ho (by omega)
  have hle := rnum_least bs at_ most (by have := hm.2; omega)
  have hkeep : er ≠ 0 → rnum bs at_ er most = rnum bs at_ er 18446744073709551615 := fun he => by unfold rnum; rw [if_pos he, if_pos he]
  have hfail := rnum_facts bs ho.1 at_ ho.2.2 er 18446744073709551615 (by omega)
  have hu := Lib.hid (u64_id (x := most) (by omega) (by have := hm.2; omega))
  have hm2 := Lib.hid hm.2
  generalize hX : rnum bs at_ er 18446744073709551615 = X at *
  obtain ⟨v, a, ee⟩ := X
  have hv0 : 0 ≤ v := hrng.1
  have W1 : Hid (v ≤ most → wrap64 v = v) := fun h => by have := hm2.out; unfold wrap64; omega
  have W2 : Hid (ee ≠ 0 → v = 0) := fun h => (hfail.2.2.2.2.2.1 h).1
  have W3 : Hid (er ≠ 0 → ee = er) := hfail.2.2.2.2.2.2
  by_cases he0 : ee = 0
  · subst he0
    have he : er = 0 := by
      apply Decidable.byContradiction; intro hne
      exact hne (W3.out hne).symm
    subst he
    by_cases hvm : v > most
    · have hfin : Hid (rnum bs at_ 0 most = (0, at_, 10)) := by unfold Hid; rw [hle, hX, if_pos ⟨rfl, hvm⟩]
      clear hle hkeep hfail hX hrng hm
      go_enter Try.func62, Try.ntmps62
      go_wp2_with fail
      refine HN.out.mono ?_
      rintro e w1 ⟨rfl, h1, h2⟩
      have hc := h1
      obtain ⟨hF1, A1, c1, hcap1, hb1, hr1⟩ := hc
      have hd1 : w1.cell? ⟨p, 1, none⟩ = some (.int .i64 a) := hb1.cell 1
      have hd2 : w1.cell? ⟨p, 2, none⟩ = some (.int .i64 0) := hb1.cell 2
      have hf1 := hb1.frozen 1
      have hf2 := hb1.frozen 2
      have hut := hu.out
      go_wp2_with fail
      go_ret2
      rw [hfin.out]
      exact ⟨rfl, (h1.set_err 10).set_at at_, (h2.set (p := ⟨p, _, none⟩) (fun _ => rfl) _).set (p := ⟨p, _, none⟩) (fun _ => rfl) _⟩
    · have hfin : Hid (rnum bs at_ 0 most = (v, a, 0)) := by unfold Hid; rw [hle, hX, if_neg (fun h => hvm h.2)]
      clear hle hkeep hfail hX hrng hm
      go_enter Try.func62, Try.ntmps62
      go_wp2_with fail
      refine HN.out.mono ?_
      rintro e w1 ⟨rfl, h1, h2⟩
      have hc := h1
      obtain ⟨hF1, A1, c1, hcap1, hb1, hr1⟩ := hc
      have hd2 : w1.cell? ⟨p, 2, none⟩ = some (.int .i64 0) := hb1.cell 2
      have hut := hu.out
      go_wp2_with fail
      go_ret2
      rw [hfin.out]
      exact ⟨ret2 (vi (by first | exact W1.out (by omega) | rfl)) rfl, h1, h2⟩
  · have hfin : Hid (rnum bs at_ er most = (v, a, ee)) := by
      unfold Hid
      by_cases he : er = 0
      · subst he; rw [hle, hX, if_neg (fun h => he0 h.1)]
      · rw [hkeep he]
    have hv : v = 0 := W2.out he0
    subst hv
    have he1 : (ee == 0) = false := by simp; omega
    clear hle hkeep hfail hX hrng hm
    go_enter Try.func62, Try.ntmps62
    go_wp2_with fail
    refine HN.out.mono ?_
    rintro e w1 ⟨rfl, h1, h2⟩
    have hc := h1
    obtain ⟨hF1, A1, c1, hcap1, hb1, hr1⟩ := hc
    have hd2 : w1.cell? ⟨p, 2, none⟩ = some (.int .i64 ee) := hb1.cell 2
    go_wp2_with fail
    go_ret2
    rw [hfin.out]
    exact ⟨ret2 (vi (by first | rfl | (unfold wrap64; rfl))) rfl, h1, h2⟩

set_option maxHeartbeats 400000 in
set_option maxRecDepth 100000 in
theorem rsmall_neg (p : Nat) (bs : List Int) (F : Nat → Prop) (at_ : Nat) (er most : Int) (w : World) (h : RRdr w F p bs at_ er) (ho : RdrOk bs at_) (hm : I64 most) (hs : most < 0) :
    Calls Try.prog 62 #[.pointer (some ⟨p, 0, none⟩), .int .i64 most] w fun e w' =>
      e = .returned (.tuple #[.int .i64 (rnum bs at_ er 0).1, .int .i64 at_]) ∧ RRdr w' F p bs (rnum bs at_ er 0).2.1 (rnum bs at_ er 0).2.2 ∧ Frm (· = p) w w' := by
  have HN := Lib.hid (rNum_m_any p bs F at_ er w h ho)
  obtain ⟨hF, A, c, hcap, hb, hr⟩ := h
  have hc1 : w.cell? ⟨p, 1, none⟩ = some (.int .i64 at_) := hb.cell 1
  have hrng := rnum_rng er 18446744073709551615 ho (by omega)
  have hle := rnum_least bs at_ 0 (by have := hm.2; omega)
  have hkeep : er ≠ 0 → rnum bs at_ er 0 = rnum bs at_ er 18446744073709551615 := fun he => by unfold rnum; rw [if_pos he, if_pos he]
  have hfail := rnum_facts bs ho.1 at_ ho.2.2 er 18446744073709551615 (by omega)
  have hu := Lib.hid (u64_id (x := 0) (by omega) (by have := hm.2; omega))
  have hm2 := Lib.hid hm.2
  generalize hX : rnum bs at_ er 18446744073709551615 = X at *
  obtain ⟨v, a, ee⟩ := X
  have hv0 : 0 ≤ v := hrng.1
  have W1 : Hid (v ≤ 0 → wrap64 v = v) := fun h => by have := hm2.out; unfold wrap64; omega
  have W2 : Hid (ee ≠ 0 → v = 0) := fun h => (hfail.2.2.2.2.2.1 h).1
  have W3 : Hid (er ≠ 0 → ee = er) := hfail.2.2.2.2.2.2
  by_cases he0 : ee = 0
  · subst he0
    have he : er = 0 := by
      apply Decidable.byContradiction; intro hne
      exact hne (W3.out hne).symm
    subst he
    by_cases hvm : v > 0
    · have hfin : Hid (rnum bs at_ 0 0 = (0, at_, 10)) := by unfold Hid; rw [hle, hX, if_pos ⟨rfl, hvm⟩]
      clear hle hkeep hfail hX hrng hm
      go_enter Try.func62, Try.ntmps62
      go_wp2_with fail
      refine HN.out.mono ?_
      rintro e w1 ⟨rfl, h1, h2⟩
      have hc := h1
      obtain ⟨hF1, A1, c1, hcap1, hb1, hr1⟩ := hc
      have hd1 : w1.cell? ⟨p, 1, none⟩ = some (.int .i64 a) := hb1.cell 1
      have hd2 : w1.cell? ⟨p, 2, none⟩ = some (.int .i64 0) := hb1.cell 2
      have hf1 := hb1.frozen 1
      have hf2 := hb1.frozen 2
      have hut := hu.out
      go_wp2_with fail
      go_ret2
      rw [hfin.out]
      exact ⟨rfl, (h1.set_err 10).set_at at_, (h2.set (p := ⟨p, _, none⟩) (fun _ => rfl) _).set (p := ⟨p, _, none⟩) (fun _ => rfl) _⟩
    · have hfin : Hid (rnum bs at_ 0 0 = (v, a, 0)) := by unfold Hid; rw [hle, hX, if_neg (fun h => hvm h.2)]
      clear hle hkeep hfail hX hrng hm
      go_enter Try.func62, Try.ntmps62
      go_wp2_with fail
      refine HN.out.mono ?_
      rintro e w1 ⟨rfl, h1, h2⟩
      have hc := h1
      obtain ⟨hF1, A1, c1, hcap1, hb1, hr1⟩ := hc
      have hd2 : w1.cell? ⟨p, 2, none⟩ = some (.int .i64 0) := hb1.cell 2
      have hut := hu.out
      go_wp2_with fail
      go_ret2
      rw [hfin.out]
      exact ⟨ret2 (vi (by first | exact W1.out (by omega) | rfl)) rfl, h1, h2⟩
  · have hfin : Hid (rnum bs at_ er 0 = (v, a, ee)) := by
      unfold Hid
      by_cases he : er = 0
      · subst he; rw [hle, hX, if_neg (fun h => he0 h.1)]
      · rw [hkeep he]
    have hv : v = 0 := W2.out he0
    subst hv
    have he1 : (ee == 0) = false := by simp; omega
    clear hle hkeep hfail hX hrng hm
    go_enter Try.func62, Try.ntmps62
    go_wp2_with fail
    refine HN.out.mono ?_
    rintro e w1 ⟨rfl, h1, h2⟩
    have hc := h1
    obtain ⟨hF1, A1, c1, hcap1, hb1, hr1⟩ := hc
    have hd2 : w1.cell? ⟨p, 2, none⟩ = some (.int .i64 ee) := hb1.cell 2
    go_wp2_with fail
    go_ret2
    rw [hfin.out]
    exact ⟨ret2 (vi (by first | rfl | (unfold wrap64; rfl))) rfl, h1, h2⟩

theorem rsmall_m_any (p : Nat) (bs : List Int) (F : Nat → Prop) (at_ : Nat) (er most : Int) (w : World) (h : RRdr w F p bs at_ er) (ho : RdrOk bs at_) (hm : I64 most) :
    Calls Try.prog 62 #[.pointer (some ⟨p, 0, none⟩), .int .i64 most] w fun e w' =>
      e = .returned (.tuple #[.int .i64 (rnum bs at_ er (max most 0)).1, .int .i64 at_]) ∧ RRdr w' F p bs (rnum bs at_ er (max most 0)).2.1 (rnum bs at_ er (max most 0)).2.2 ∧ Frm (· = p) w w' := by
  by_cases h0 : 0 ≤ most
  · rw [show max most 0 = most by omega]; exact rsmall_pos p bs F at_ er most w h ho hm h0
  · rw [show max most 0 = 0 by omega]; exact rsmall_neg p bs F at_ er most w h ho hm (by omega)
end Go.Proofs.Ytggoigdlggenfaa
