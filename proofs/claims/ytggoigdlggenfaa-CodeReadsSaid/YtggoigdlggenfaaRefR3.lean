/- What the reference of package code does: its reader's methods, the second part. -/
import Derived.Test.YtggoigdlggenfaaRefR2
import Derived.StillTailTactics
namespace Go.Proofs.Ytggoigdlggenfaa
open Go.RowKit Go.Proofs.Ytggoigdlggenfaa.Plain

set_option maxHeartbeats 400000 in
theorem rSmall_m_any (p : Nat) (bs : List Int) (F : Nat → Prop) (at_ : Nat) (er most : Int) (w : World) (h : RRdr w F p bs at_ er) (ho : RdrOk bs at_) (hm : I64 most) :
    Calls Try.prog 40 #[.pointer (some ⟨p, 0, none⟩), .int .i64 most] w fun e w' =>
      e = .returned (.int .i64 (rnum bs at_ er (max most 0)).1) ∧ RRdr w' F p bs (rnum bs at_ er (max most 0)).2.1 (rnum bs at_ er (max most 0)).2.2 ∧ Frm (· = p) w w' := by
  have HS := Lib.hid (rsmall_m_any p bs F at_ er most w h ho hm)
  generalize rnum bs at_ er (max most 0) = X at *
  go_enter Try.func40, Try.ntmps40
  go_wp2_with fail
  refine HS.out.mono ?_
  rintro e w1 ⟨rfl, h1, h2⟩
  go_wp2_with fail
  go_ret
  exact ⟨rfl, h1, h2⟩

set_option maxHeartbeats 400000 in
theorem rEnd_m_any (p : Nat) (bs : List Int) (F : Nat → Prop) (at_ : Nat) (er : Int) (w : World) (h : RRdr w F p bs at_ er) (ho : RdrOk bs at_) :
    Calls Try.prog 43 #[.pointer (some ⟨p, 0, none⟩)] w fun e w' => e = .returned (.int .i64 (rend bs at_ er)) ∧ ∃ n, w' = w.drewN n := by
  obtain ⟨hF, A, c, hcap, hb, hr⟩ := h
  obtain ⟨hB, hlen, hat⟩ := ho
  have hc0 : w.cell? ⟨p, 0, none⟩ = some (.slice A bs.length c) := hb.cell 0
  have hc1 : w.cell? ⟨p, 1, none⟩ = some (.int .i64 at_) := hb.cell 1
  have hc2 : w.cell? ⟨p, 2, none⟩ = some (.int .i64 er) := hb.cell 2
  by_cases he : er = 0
  · subst he
    by_cases hlt : at_ < bs.length
    · have hf : rend bs at_ 0 = 10 := by unfold rend; rw [if_neg (by omega), if_pos hlt]
      rw [hf]
      clear hf
      have hlt' : (at_ : Int) < (bs.length : Int) := by omega
      go_enter Try.func43, Try.ntmps43
      go_wp2_with fail
      go_quiet (fail)
      go_wp2_with fail
      go_ret
      exact ⟨rfl, drawn1 _ _⟩
    · have hf : rend bs at_ 0 = 0 := by unfold rend; rw [if_neg (by omega), if_neg hlt]
      rw [hf]
      clear hf
      have hlt' : ¬ (at_ : Int) < (bs.length : Int) := by omega
      go_enter Try.func43, Try.ntmps43
      go_wp2_with fail
      go_quiet (fail)
      go_wp2_with fail
      go_ret
      exact ⟨rfl, drawn1 _ _⟩
  · have he1 : (er == 0) = false := by simp; omega
    have hf : rend bs at_ er = er := by unfold rend; rw [if_pos he]
    rw [hf]
    clear hf he
    go_enter Try.func43, Try.ntmps43
    go_wp2_with fail
    go_quiet (fail)
    go_wp2_with fail
    go_ret
    exact ⟨rfl, drawn1 _ _⟩

set_option maxHeartbeats 400000 in
set_option maxRecDepth 100000 in
theorem rText_m_any (p : Nat) (bs : List Int) (F : Nat → Prop) (at_ : Nat) (er most : Int) (w : World) (h : RRdr w F p bs at_ er) (ho : RdrOk bs at_) (hm : I64 most) :
    Calls Try.prog 41 #[.pointer (some ⟨p, 0, none⟩), .int .i64 most] w fun e w' => ∃ v,
      e = .returned v ∧ OwnB w' w.heap.size v (rtext bs at_ er most).1 ∧ RRdr w' F p bs (rtext bs at_ er most).2.1 (rtext bs at_ er most).2.2 ∧ Frm (· = p) w w' := by
  have HS := Lib.hid (rsmall_m_any p bs F at_ er most w h ho hm)
  have hkeep : er ≠ 0 → rnum bs at_ er (max most 0) = (0, at_, er) := fun he => by unfold rnum; rw [if_pos he]
  have htk : er ≠ 0 → rtext bs at_ er most = ([], at_, er) := fun he => by unfold rtext; rw [if_pos he]
  have hf := rnum_facts bs ho.1 at_ ho.2.2 er (max most 0) (by omega)
  have ht0 : er = 0 → rtext bs at_ er most = if (rnum bs at_ er (max most 0)).2.2 ≠ 0 then ([], at_, (rnum bs at_ er (max most 0)).2.2) else if (rnum bs at_ er (max most 0)).1 > (bs.length : Int) - (rnum bs at_ er (max most 0)).2.1 then ([], at_, 9)
      else ((bs.drop (rnum bs at_ er (max most 0)).2.1).take (rnum bs at_ er (max most 0)).1.toNat, (rnum bs at_ er (max most 0)).2.1 + (rnum bs at_ er (max most 0)).1.toNat, 0) := fun he => by subst he; unfold rtext; rw [if_neg (by omega)]
  generalize hX : rnum bs at_ er (max most 0) = X at *
  obtain ⟨v, a, ee⟩ := X
  obtain ⟨f0, f1, f2, f3, f4, f5, f6⟩ := hf
  dsimp only at f0 f1 f2 f3 f4 f5 f6 ht0
  have F5 := Lib.hid f5
  obtain ⟨n, rfl⟩ := Int.eq_ofNat_of_zero_le f0
  obtain ⟨hB, hlen, hat⟩ := ho
  by_cases e0 : ee = 0
  · subst e0
    have he : er = 0 := by
      apply Decidable.byContradiction; intro hne
      have := hkeep hne
      simp only [Prod.mk.injEq] at this
      exact hne this.2.2.symm
    have ht := ht0 he
    rw [if_neg (by omega)] at ht
    by_cases hlt : (n : Int) > (bs.length : Int) - a
    · rw [if_pos hlt] at ht
      have hfin := Lib.hid ht
      clear ht ht0 htk hkeep f5 f6 f1 f2 he hX
      go_enter Try.func41, Try.ntmps41
      go_wp2_with fail
      refine HS.out.mono ?_
      rintro e w1 ⟨rfl, h1, h2⟩
      have H1 := Lib.hid h1
      obtain ⟨hF1, A1, c1, hcap1, hb1, hr1⟩ := h1
      have hd0 : w1.cell? ⟨p, 0, none⟩ = some (.slice A1 bs.length c1) := hb1.cell 0
      have hd1 : w1.cell? ⟨p, 1, none⟩ = some (.int .i64 a) := hb1.cell 1
      have hd2 : w1.cell? ⟨p, 2, none⟩ = some (.int .i64 0) := hb1.cell 2
      have hf1 := hb1.frozen 1
      have hf2 := hb1.frozen 2
      go_wp2_with fail
      go_quiet (fail)
      go_wp2_with fail
      go_ret
      rw [hfin.out]
      exact ⟨_, rfl, World.ownsRow_nil _ _ _ _, ((H1.out.drewN _).set_err 9).set_at at_, ((h2.drewN _).set (p := ⟨p, _, none⟩) (fun _ => rfl) _).set (p := ⟨p, _, none⟩) (fun _ => rfl) _⟩
    · rw [if_neg hlt] at ht
      have hfin := Lib.hid ht
      clear ht ht0 htk hkeep f5 f6 f1 f2 he hX
      go_enter Try.func41, Try.ntmps41
      go_wp2_with fail
      refine HS.out.mono ?_
      rintro e w1 ⟨rfl, h1, h2⟩
      have H1 := Lib.hid h1
      obtain ⟨hF1, A1, c1, hcap1, hb1, hr1⟩ := h1
      have hd0 : w1.cell? ⟨p, 0, none⟩ = some (.slice A1 bs.length c1) := hb1.cell 0
      have hd1 : w1.cell? ⟨p, 1, none⟩ = some (.int .i64 a) := hb1.cell 1
      have hd2 : w1.cell? ⟨p, 2, none⟩ = some (.int .i64 0) := hb1.cell 2
      go_wp2_with fail
      go_quiet (fail)
      go_wp2_with fail
      generalize hw2 : World.drewN _ _ = w2
      have hb2 : Blk w2 p 62 #[.slice A1 bs.length c1, .int .i64 a, .int .i64 0] := by rw [← hw2]; exact hb1.drewN _
      have hr2 : Reads w2 F 1 A1 bs.length (u8s bs) := by rw [← hw2]; exact hr1.drewN _
      have hm2 : Frm (· = p) w w2 := by rw [← hw2]; exact h2.drewN _
      clear hw2 hd0 hd1 hd2
      have he0 : w2.cell? ⟨p, 0, none⟩ = some (.slice A1 bs.length c1) := hb2.cell 0
      have he1 : w2.cell? ⟨p, 1, none⟩ = some (.int .i64 a) := hb2.cell 1
      have q1 : (a : Int) + n ≤ bs.length := by omega
      have q2 : (a : Int) + n ≤ c1 := by omega
      have q5 : IntKind.i64.wrap ((a : Int) + n) = a + n := IntWalk.i64_in _ (by omega)
      have q6 : (0 : Int) ≤ (a : Int) + n := by omega
      have q7 : ((a : Int) + n).toNat = a + n := by omega
      have q8 : (a : Int) ≤ (a : Int) + n := by omega
      go_still_tail 15, (by kernel_rfl)
      change wpList _ _ _ _ _ (w2.drewN 1)
      have hr3 := (hr2.drewN 1).slice1 (l := a) (k := a + n) (cap := c1) (by omega) (by omega) hcap1
      rw [Nat.add_sub_cancel_left] at hr3
      have hn3 := World.ownsRow_nil (w2.drewN 1) w2.heap.size 5 1
      have hl3 : ∀ u ∈ ((u8s bs).drop a).take n, u.oneCell' = true := fun u hu => u8s_one bs u (List.mem_of_mem_drop (List.mem_of_mem_take hu))
      go_wp2_with (at_builtin; refine wpList_append_any Try.elt_u8 hn3 hr3 hl3 rfl rfl rfl rfl (by omega) (Nat.le_refl _) ?_; intro v' w3 hown' hf3 hat3; have hM3 : Frm (fun _ => False) w2 w3 := ((Frm.refl (fun _ => False) w2).drewN 1).trans hf3 (fun b _ h => by simp [Value.ownBlock] at h); have hb3 := hb2.frm hM3 (fun h => h); have hg1 : w3.cell? ⟨p, 1, none⟩ = some (.int .i64 a) := hb3.cell 1; have hf31 := hb3.frozen 1)
      all_goals
        go_ret
        rw [hfin.out]
        have e4 : [] ++ ((u8s bs).drop a).take n = u8s ((bs.drop a).take n) := by simp [u8s]
        have e5 : 0 + n = ((bs.drop a).take n).length := by rw [List.length_take, List.length_drop]; omega
        rw [e4, e5] at hown'
        have hne := own_blk_ne hown' hb3 (by decide)
        have hS : Frm (· = p) w3 (w3.setCell ⟨p, 1, none⟩ (.int .i64 ((a : Int) + n))) := (Frm.refl (· = p) w3).set (p := ⟨p, _, none⟩) (fun _ => rfl) _
        have hR3 : RRdr w3 F p bs a 0 := ⟨hF1, A1, c1, hcap1, hb3, hr2.frm hM3 (fun _ _ h => h)⟩
        refine ⟨v', rfl, own_lower (own_frm hown' hS (fun b hb e => by subst e; exact hne hb)) hm2.size, ?_, (hm2.trans hM3 (fun _ _ h => h.elim)).trans hS (fun _ _ h => h)⟩
        have := hR3.set_at (a + n)
        rw [Int.natCast_add] at this
        exact this
  · have he2 : (ee == 0) = false := by simp; omega
    have he3 : (ee != 0) = true := by simp; omega
    have f8 : a = at_ ∧ n = 0 := by have := F5.out e0; omega
    obtain ⟨rfl, rfl⟩ := f8
    have hfin : Hid (rtext bs a er most = ([], a, ee)) := by
      unfold Hid
      by_cases he : er = 0
      · rw [ht0 he, if_pos e0]
      · have := hkeep he
        simp only [Prod.mk.injEq] at this
        rw [htk he, this.2.2]
    clear ht0 htk hkeep f5 f6 f1 f2 hX
    go_enter Try.func41, Try.ntmps41
    go_wp2_with fail
    refine HS.out.mono ?_
    rintro e w1 ⟨rfl, h1, h2⟩
    have H1 := Lib.hid h1
    obtain ⟨hF1, A1, c1, hcap1, hb1, hr1⟩ := h1
    have hd2 : w1.cell? ⟨p, 2, none⟩ = some (.int .i64 ee) := hb1.cell 2
    go_wp2_with fail
    go_ret
    rw [hfin.out]
    exact ⟨_, rfl, World.ownsRow_nil _ _ _ _, H1.out, h2⟩
end Go.Proofs.Ytggoigdlggenfaa
