/- What the functions of package code do, the third part: what is written, a new reader, and the next text. -/
import Derived.Test.YtggoigdlggenfaaCodeR
import Derived.StillTailTactics
namespace Go.Proofs.Ytggoigdlggenfaa
open Go.RowKit Go.Proofs.Ytggoigdlggenfaa.Plain

theorem u8s_snoc (l : List Int) (x : Int) : u8s l ++ [Value.int .u8 x] = u8s (l ++ [x]) := by simp [u8s]
theorem u8s_len (l : List Int) : (u8s l).length = l.length := by simp [u8s]
theorem u8s_app (l m : List Int) : u8s l ++ u8s m = u8s (l ++ m) := by simp [u8s]
theorem u8s_one (l : List Int) : ∀ u ∈ u8s l, u.oneCell' = true := by
  intro u hu
  rw [u8s, List.mem_map] at hu
  obtain ⟨x, _, rfl⟩ := hu
  rfl
theorem encI_len (q : Int) : (encI q).length = (enc q.toNat).length := by simp [encI]
theorem encI_take {q x : Int} (l : List Int) (h0 : 0 ≤ q) (h : 128 ≤ q) (hl : l ++ encI q = encI x) : (l ++ [q % 128 + 128]) ++ encI (q / 128) = encI x := by
  rw [← hl, encI_hi h0 h]; simp

/-- A row of bytes of the call's own. -/
def OwnB (w : World) (base : Nat) (v : Value) (l : List Int) : Prop := w.ownsRow base 5 1 v l.length (u8s l)

theorem OwnB.lower {w : World} {base base' : Nat} {v : Value} {l : List Int} (h : OwnB w base v l) (hb : base' ≤ base) : OwnB w base' v l := own_lower h hb
theorem OwnB.drewN {w : World} {base : Nat} {v : Value} {l : List Int} (h : OwnB w base v l) (n : Nat) : OwnB (w.drewN n) base v l := h
theorem OwnB.frm {M : Nat → Prop} {w w' : World} {base : Nat} {v : Value} {l : List Int} (h : OwnB w base v l) (k : Frm M w w') (hd : ∀ b, v.ownBlock = some b → ¬ M b) : OwnB w' base v l := own_frm h k hd
theorem OwnB.below {w w' : World} {base : Nat} {v : Value} {l : List Int} (h : OwnB w base v l) (k : Below w.heap.size w w') : OwnB w' base v l := own_below h k
/-- What is owned reads. -/
theorem OwnB.reads {w : World} {base : Nat} {v : Value} {l : List Int} (h : OwnB w base v l) : ∃ A c, v = .slice A l.length c ∧ l.length ≤ c ∧ Reads w (fun b => v.ownBlock = some b) 1 A l.length (u8s l) := by
  rcases h.2 with ⟨rfl, hn⟩ | ⟨g, cap, cur, rfl, hb, hgg, hn, _⟩
  · have hl : l = [] := List.eq_nil_of_length_eq_zero hn
    subst hl
    exact ⟨none, 0, rfl, Nat.le_refl _, Reads.none_⟩
  · exact ⟨_, cap, rfl, hn, Reads.of_own h (fun b hb => hb)⟩
theorem OwnB.lt {w : World} {base : Nat} {v : Value} {l : List Int} (h : OwnB w base v l) : ∀ b, v.ownBlock = some b → base ≤ b ∧ b < w.heap.size := World.ownsRow.lt h

theorem Rdr.below {w w' : World} {F : Nat → Prop} {p : Nat} {bs : List Int} {at_ : Nat} {er : Int} (h : Rdr w F p bs at_ er) (k : Below w.heap.size w w') : Rdr w' F p bs at_ er := by
  obtain ⟨hF, A, c, hc, hb, hr⟩ := h
  exact ⟨hF, A, c, hc, hb.below k hb.lt, hr.below k⟩
theorem Rdr.frm {M : Nat → Prop} {w w' : World} {F : Nat → Prop} {p : Nat} {bs : List Int} {at_ : Nat} {er : Int} (h : Rdr w F p bs at_ er) (k : Frm M w w') (hp : ¬ M p) (hF : ∀ b, F b → ¬ M b) : Rdr w' F p bs at_ er := by
  obtain ⟨hF', A, c, hc, hb, hr⟩ := h
  exact ⟨hF', A, c, hc, hb.frm k hp, hr.frm k hF⟩

set_option maxHeartbeats 400000 in
set_option maxRecDepth 100000 in
theorem num_any (x : Int) (h : U64 x) (w : World) :
    Calls Try.prog 14 #[.int .u64 x] w fun e w' => ∃ v, e = .returned v ∧ OwnB w' w.heap.size v (encI x) ∧ Below w.heap.size w w' := by
  have hx10 : Hid (([] : List Int).length + (encI x).length ≤ 10) := by
    unfold Hid; rw [encI_len]; have := enc_len10 (x := x.toNat) (by have := h.1; have := h.2; omega); simpa using this
  go_enter Try.func14, Try.ntmps14
  go_wp2
  go_loopw [0, 3] (fun y v wr => ∃ (q : Int) (l : List Int), y = .int .u64 q ∧ 0 ≤ q ∧ Hid (l ++ encI q = encI x) ∧ Hid (l.length + (encI q).length ≤ 10) ∧ OwnB wr w.heap.size v l ∧ Below w.heap.size w wr) (fun y _ _ => (intOf y).toNat)
  case atStart => exact ⟨x, [], rfl, h.lo, rfl, hx10, World.ownsRow_nil _ _ _ _, Below.refl _ _⟩
  case round =>
    obtain ⟨q, l, rfl, hq0, hl, hm, hown, hb⟩ := hrel
    have hsz := hb.size
    have hn : l.length ≤ 10 := by have := hm.out; omega
    unfold OwnB at hown
    by_cases hlt : q < 128
    · go_wp2_with (at_builtin; refine wpList_push (us := [_]) Try.elt_u8 hown rfl rfl rfl rfl rfl (by simp [Value.oneCell']) (by omega) hsz ?_; intro v' w1 hown' hf hat)
      go_ret
      have e : l ++ [q] = encI x := by have := hl.out; rw [encI_lo hq0 hlt] at this; exact this
      rw [u8s_snoc, e, show l.length + 1 = (encI x).length by rw [← e]; simp] at hown'
      exact ⟨_, rfl, hown', below_frm hb hf (Nat.le_refl _) (fun b hb' e => by have := hown.lt b e; omega)⟩
    · have h128 : 128 ≤ q := by omega
      have hor := Lib.hid (bits_or128 q)
      go_wp2_with (at_builtin; refine wpList_push (us := [_]) Try.elt_u8 hown rfl rfl rfl rfl rfl (by simp [Value.oneCell']) (by omega) hsz ?_; intro v' w1 hown' hf hat)
      go_roundw
      case rel =>
        refine ⟨q / 128, l ++ [q % 128 + 128], rfl, by omega, encI_take l hq0 h128 hl.out, ?_, ?_, below_frm hb hf (Nat.le_refl _) (fun b hb' e => by have := hown.lt b e; omega)⟩
        · have := hm.out; rw [encI_hi hq0 h128] at this; unfold Hid; simp at this ⊢; omega
        · rw [hor.out, u8s_snoc] at hown'
          unfold OwnB
          rw [List.length_append]
          exact hown'
      case measure => simp [intOf]; omega

theorem i64_asr63 (c : Int) (h : I64 c) : c / 9223372036854775808 = if 0 ≤ c then 0 else -1 := by
  have := h.1; have := h.2; split <;> omega

set_option maxHeartbeats 400000 in
set_option maxRecDepth 100000 in
theorem int_any (c : Int) (h : I64 c) (w : World) :
    Calls Try.prog 15 #[.int .i64 c] w fun e w' => ∃ v, e = .returned v ∧ OwnB w' w.heap.size v (encI (zig c)) ∧ Below w.heap.size w w' := by
  have hz := Lib.hid (zig_bits c h.1 h.2)
  have HN := Lib.hid (num_any (zig c) (zig_bounds h.1 h.2) w)
  go_enter Try.func15, Try.ntmps15
  go_wp2_with fail
  rw [hz.out]
  refine HN.out.mono ?_
  rintro e w1 ⟨v, rfl, h1, h2⟩
  go_wp2_with fail
  go_ret
  exact ⟨v, rfl, h1, h2⟩

set_option maxHeartbeats 400000 in
theorem text_any (A : Option Addr) (c : Nat) (F : Nat → Prop) (bs : List Int) (w : World) (hr : Reads w F 1 A bs.length (u8s bs)) (hlen : bs.length ≤ 140737488355300) :
    Calls Try.prog 17 #[.slice A bs.length c] w fun e w' => ∃ v, e = .returned v ∧ OwnB w' w.heap.size v (encI bs.length ++ bs) ∧ Below w.heap.size w w' := by
  have HN := Lib.hid (num_any bs.length ⟨by omega, by omega⟩ w)
  have hl10 : (encI (bs.length : Int)).length ≤ 10 := by rw [encI_len]; exact enc_len10 (by omega)
  go_enter Try.func17, Try.ntmps17
  go_wp2_with fail
  refine HN.out.mono ?_
  rintro e w1 ⟨v, rfl, h1, h2⟩
  have hr1 := hr.below h2
  unfold OwnB at h1
  go_wp2_with (at_builtin; refine wpList_append_any Try.elt_u8 h1 hr1 (u8s_one _) rfl rfl rfl rfl (by omega) h2.size ?_; intro v' w2 hown' hf hat)
  go_ret
  rw [u8s_app, ← List.length_append] at hown'
  exact ⟨v', rfl, hown', below_frm h2 hf (Nat.le_refl _) (fun b hb e => by have := World.ownsRow.lt h1 b e; omega)⟩

set_option maxHeartbeats 400000 in
theorem new_any (A : Option Addr) (c : Nat) (F : Nat → Prop) (bs : List Int) (w : World) (hr : Reads w F 1 A bs.length (u8s bs)) (hlen : bs.length ≤ 140737488355300) :
    Calls Try.prog 23 #[.slice A bs.length c] w fun e w' => ∃ p, e = .returned (.pointer (some ⟨p, 0, none⟩)) ∧ w.heap.size ≤ p ∧ Rdr w' (fun b => w.heap.size ≤ b ∧ b ≠ p) p bs 0 0 ∧ Below w.heap.size w w' := by
  have hn := World.ownsRow_nil w w.heap.size 5 1
  go_enter Try.func23, Try.ntmps23
  go_wp2_with (at_builtin; refine wpList_append_any Try.elt_u8 hn hr (u8s_one _) rfl rfl rfl rfl (by omega) (Nat.le_refl _) ?_; intro v' w2 hown' hf hat; rw [Nat.zero_add, List.nil_append] at hown'; have hlt := World.ownsRow.lt hown'; obtain ⟨A', c', rfl, hlc, hr'⟩ := OwnB.reads hown')
  go_ret
  have hs := hf.size
  refine ⟨w2.heap.size, rfl, hs, ⟨fun h => h.2 rfl, A', c', hlc, Blk.new _ _ _, (hr'.alloc _).more fun b hb _ => ?_⟩, ?_⟩
  · have := hlt b hb
    exact ⟨this.1, by omega⟩
  · exact below_frm (Below.refl w.heap.size w) (hf.alloc _) (Nat.le_refl _) (fun b _ h => by simp [Value.ownBlock] at h)

theorem rtext_ok {bs : List Int} {at_ : Nat} (er most : Int) (h : RdrOk bs at_) : RdrOk bs (rtext bs at_ er most).2.1 := by
  obtain ⟨hB, hl, ha⟩ := h
  have hf := rnum_facts bs hB at_ ha 0 (max most 0) (by omega)
  refine ⟨hB, hl, ?_⟩
  unfold rtext
  split
  · exact ha
  · split
    · exact ha
    · split
      · exact ha
      · dsimp only; omega

set_option maxHeartbeats 400000 in
set_option maxRecDepth 100000 in
theorem Text_m_any (p : Nat) (bs : List Int) (F : Nat → Prop) (at_ : Nat) (er most : Int) (w : World) (h : Rdr w F p bs at_ er) (ho : RdrOk bs at_) (hm : I64 most) :
    Calls Try.prog 37 #[.pointer (some ⟨p, 0, none⟩), .int .i64 most] w fun e w' => ∃ v,
      e = .returned v ∧ OwnB w' w.heap.size v (rtext bs at_ er most).1 ∧ Rdr w' F p bs (rtext bs at_ er most).2.1 (rtext bs at_ er most).2.2 ∧ Frm (· = p) w w' := by
  have H := Lib.hid h
  obtain ⟨hF, A, c, hcap, hb, hr⟩ := h
  have hc1 : w.cell? ⟨p, 1, none⟩ = some (.int .i64 at_) := hb.cell 1
  have hc2 : w.cell? ⟨p, 2, none⟩ = some (.int .i64 er) := hb.cell 2
  by_cases he : er = 0
  · subst he
    have HS := Lib.hid (Small_m_any p bs F at_ 0 most w H.out ho hm)
    have hf := rnum_facts bs ho.1 at_ ho.2.2 0 (max most 0) (by omega)
    have ho1 := rnum_ok 0 (max most 0) ho
    generalize hv : (rnum bs at_ 0 (max most 0)).1 = v at hf HS
    generalize ha : (rnum bs at_ 0 (max most 0)).2.1 = a at hf HS ho1
    generalize hee : (rnum bs at_ 0 (max most 0)).2.2 = ee at hf HS
    obtain ⟨f0, f1, f2, f3, f4, f5, f6⟩ := hf
    have F5 := Lib.hid f5
    have Hv := Lib.hid hv
    have Ha := Lib.hid ha
    have He := Lib.hid hee
    have f7 : v ≤ 9223372036854775807 := by have := hm.2; omega
    have F7 := Lib.hid f7
    obtain ⟨n, rfl⟩ := Int.eq_ofNat_of_zero_le f0
    obtain ⟨hB, hlen, hat⟩ := ho
    clear f7 f1 f2 f5 f6 hv ha hee
    by_cases e0 : ee = 0
    · subst e0
      by_cases hlt : (n : Int) > (bs.length : Int) - a
      · have hfin : Hid (rtext bs at_ 0 most = ([], at_, 9)) := by unfold Hid rtext; rw [if_neg (by omega), if_neg (by rw [He.out]; omega), if_pos (by rw [Hv.out, Ha.out]; exact hlt)]
        go_enter Try.func37, Try.ntmps37
        go_wp2_with fail
        refine HS.out.mono ?_
        rintro e w1 ⟨rfl, h1, h2⟩
        have H1 := Lib.hid h1
        obtain ⟨hF1, A1, c1, hcap1, hb1, hr1⟩ := h1
        have hd0 : w1.cell? ⟨p, 0, none⟩ = some (.slice A1 bs.length c1) := hb1.cell 0
        have hd1 : w1.cell? ⟨p, 1, none⟩ = some (.int .i64 a) := hb1.cell 1
        have hd2 : w1.cell? ⟨p, 2, none⟩ = some (.int .i64 0) := hb1.cell 2
        have hf1 := hb1.frozen 1
        have hf2 := hb1.frozen 2
        go_wp2_with fail
        go_quiet (fail)
        go_wp2_with fail
        go_ret
        rw [hfin.out]
        exact ⟨_, rfl, World.ownsRow_nil _ _ _ _, ((H1.out.drewN _).set_at at_).set_err 9, ((h2.drewN _).set (p := ⟨p, _, none⟩) (fun _ => rfl) _).set (p := ⟨p, _, none⟩) (fun _ => rfl) _⟩
      · have hfin : Hid (rtext bs at_ 0 most = ((bs.drop a).take n, a + n, 0)) := by unfold Hid rtext; rw [if_neg (by omega), if_neg (by rw [He.out]; omega), if_neg (by rw [Hv.out, Ha.out]; exact hlt), Hv.out, Ha.out]; rfl
        go_enter Try.func37, Try.ntmps37
        go_wp2_with fail
        refine HS.out.mono ?_
        rintro e w1 ⟨rfl, h1, h2⟩
        have H1 := Lib.hid h1
        obtain ⟨hF1, A1, c1, hcap1, hb1, hr1⟩ := h1
        have hd0 : w1.cell? ⟨p, 0, none⟩ = some (.slice A1 bs.length c1) := hb1.cell 0
        have hd1 : w1.cell? ⟨p, 1, none⟩ = some (.int .i64 a) := hb1.cell 1
        have hd2 : w1.cell? ⟨p, 2, none⟩ = some (.int .i64 0) := hb1.cell 2
        have hf1 := hb1.frozen 1
        have hf2 := hb1.frozen 2
        go_wp2_with fail
        go_quiet (fail)
        go_wp2_with fail
        generalize hw2 : World.setCell _ _ _ = w2
        have HW2 := Lib.hid hw2
        have hb2 : Blk w2 p 84 #[.slice A1 bs.length c1, .int .i64 (a + n), .int .i64 0] := by rw [← hw2]; exact (hb1.drewN _).set_ 1 _
        have hr2 : Reads w2 F 1 A1 bs.length (u8s bs) := by rw [← hw2]; exact (hr1.drewN _).far (fun b hb' e => hF (by simp at e; exact e ▸ hb')) _
        have hm2 : Frm (· = p) w w2 := by rw [← hw2]; exact (h2.drewN _).set (p := ⟨p, _, none⟩) (fun _ => rfl) _
        clear hw2
        have he0 : w2.cell? ⟨p, 0, none⟩ = some (.slice A1 bs.length c1) := hb2.cell 0
        have he1 : w2.cell? ⟨p, 1, none⟩ = some (.int .i64 (a + n)) := hb2.cell 1
        have q1 : (a : Int) + n ≤ bs.length := by omega
        have q3 : bs.length ≤ c1 := hcap1
        have q2 : (a : Int) + n ≤ c1 := by omega
        have q4 : (a : Int) + n - n = a := by omega
        have q5 : IntKind.i64.wrap (a : Int) = a := IntWalk.i64_in _ (by omega)
        have q6 : (0 : Int) ≤ (a : Int) + n := by omega
        have q7 : ((a : Int) + n).toNat = a + n := by omega
        have q8 : (a : Int) ≤ (a : Int) + n := by omega
        go_still_tail 15, (by kernel_rfl)
        change wpList _ _ _ _ _ (w2.drewN 1)
        have hr3 := (hr2.drewN 1).slice1 (l := a) (k := a + n) (cap := c1) (by omega) (by omega) q3
        rw [Nat.add_sub_cancel_left] at hr3
        have hn3 := World.ownsRow_nil (w2.drewN 1) w2.heap.size 5 1
        have hl3 : ∀ u ∈ ((u8s bs).drop a).take n, u.oneCell' = true := fun u hu => u8s_one bs u (List.mem_of_mem_drop (List.mem_of_mem_take hu))
        go_wp2_with (at_builtin; refine wpList_append_any Try.elt_u8 hn3 hr3 hl3 rfl rfl rfl rfl (by omega) (Nat.le_refl _) ?_; intro v' w3 hown' hf3 hat3)
        all_goals
          go_ret
          rw [hfin.out]
          have e4 : [] ++ ((u8s bs).drop a).take n = u8s ((bs.drop a).take n) := by simp [u8s]
          have e5 : 0 + n = ((bs.drop a).take n).length := by rw [List.length_take, List.length_drop]; omega
          rw [e4, e5] at hown'
          have hM3 : Frm (fun _ => False) w2 w3 := ((Frm.refl (fun _ => False) w2).drewN 1).trans hf3 (fun b _ h => by simp [Value.ownBlock] at h)
          exact ⟨_, rfl, own_lower hown' hm2.size, ⟨hF, A1, c1, q3, by rw [Int.natCast_add]; exact hb2.frm hM3 (fun h => h), hr2.frm hM3 (fun _ _ h => h)⟩, hm2.trans hM3 (fun _ _ h => h.elim)⟩
    · have he2 : (ee == 0) = false := by simp; omega
      have he3 : (ee != 0) = true := by simp; omega
      have f8 : a = at_ ∧ n = 0 := by have := F5.out e0; omega
      obtain ⟨rfl, rfl⟩ := f8
      have hfin : Hid (rtext bs a 0 most = ([], a, ee)) := by unfold Hid rtext; rw [if_neg (by omega), if_pos (by rw [He.out]; omega), He.out]
      go_enter Try.func37, Try.ntmps37
      go_wp2_with fail
      refine HS.out.mono ?_
      rintro e w1 ⟨rfl, h1, h2⟩
      have H1 := Lib.hid h1
      obtain ⟨hF1, A1, c1, hcap1, hb1, hr1⟩ := h1
      have hd2 : w1.cell? ⟨p, 2, none⟩ = some (.int .i64 ee) := hb1.cell 2
      go_wp2_with fail
      go_quiet (fail)
      go_wp2_with fail
      go_ret
      rw [hfin.out]
      exact ⟨_, rfl, World.ownsRow_nil _ _ _ _, H1.out.drewN _, h2.drewN _⟩
  · have he1 : (er != 0) = true := by rw [bne_iff_ne]; exact he
    have hfin : rtext bs at_ er most = ([], at_, er) := by unfold rtext; rw [if_pos he]
    rw [hfin]
    clear hfin
    go_enter Try.func37, Try.ntmps37
    go_wp2_with fail
    go_ret
    exact ⟨_, rfl, World.ownsRow_nil _ _ _ _, H.out, Frm.refl _ _⟩
end Go.Proofs.Ytggoigdlggenfaa
