/- The walk of the law of package code: many numbers, one behind the other. -/
import Derived.Test.YtggoigdlggenfaaLawC5
namespace Go.Proofs.Ytggoigdlggenfaa
open Go.RowKit Go.Proofs.Ytggoigdlggenfaa.Plain

def encAll (l : List Int) : List Int := l.flatMap encI
theorem encAll_snoc (l : List Int) (x : Int) : encAll (l ++ [x]) = encAll l ++ encI x := by simp [encAll]
theorem encAll_app (a b : List Int) : encAll (a ++ b) = encAll a ++ encAll b := by simp [encAll]
theorem encAll_byt (l : List Int) : Byt (encAll l) := by
  intro y hy
  unfold encAll at hy
  rw [List.mem_flatMap] at hy
  obtain ⟨x, _, hx⟩ := hy
  exact byt_encI x y hx
theorem encAll_len (l : List Int) (h : ∀ x ∈ l, U64 x) : (encAll l).length ≤ 10 * l.length := by
  induction l with
  | nil => simp [encAll]
  | cons x l ih =>
    have h1 := ih (fun y hy => h y (by simp [hy]))
    have h2 := encI_len10 (x := x) (by have := (h x (by simp)).2; omega)
    have e : encAll (x :: l) = encI x ++ encAll l := by simp [encAll]
    rw [e, List.length_append, List.length_cons]
    omega
theorem take_snoc (l : List Int) (i : Nat) (x : Int) (h : l[i]? = some x) : l.take (i + 1) = l.take i ++ [x] := by
  rw [List.take_add_one, h]; rfl
theorem encAll_at (l : List Int) (i : Nat) (x : Int) (h : l[i]? = some x) : (encAll l).drop (encAll (l.take i)).length = encI x ++ encAll (l.drop (i + 1)) := by
  have hi : i < l.length := (List.getElem?_eq_some_iff.1 h).1
  have e : l = l.take i ++ (x :: l.drop (i + 1)) := by
    have h1 := (List.take_append_drop i l).symm
    rw [List.drop_eq_getElem_cons hi] at h1
    have h2 := (List.getElem?_eq_some_iff.1 h).2
    rw [h2] at h1
    exact h1
  have e2 : encAll l = encAll (l.take i) ++ encAll (x :: l.drop (i + 1)) := by rw [← encAll_app, ← e]
  rw [e2, List.drop_left]
  simp [encAll]

theorem u64_at {zs : List Int} {w : World} {F : Nat → Prop} {A : Option Addr} (hr : Reads w F 1 A zs.length (zs.map (Value.int .u64))) {i : Nat} (h : i < zs.length) :
    ∃ b off x, A = some ⟨b, off, none⟩ ∧ F b ∧ b < w.heap.size ∧ zs[i]? = some x ∧ w.cell? ⟨b, off + i, none⟩ = some (.int .u64 x) := by
  obtain ⟨b, off, u, hA, hF, hb, hu, hc⟩ := hr.at_ h
  rw [List.getElem?_map, List.getElem?_eq_getElem h] at hu
  injection hu with hu
  subst hu
  exact ⟨b, off, zs[i], hA, hF, hb, List.getElem?_eq_getElem h, hc⟩

set_option maxHeartbeats 1000000 in
set_option maxRecDepth 100000 in
theorem CodeMany_walk (A : Option Addr) (c : Nat) (zs : List Int) (most : Int) (w : World) (hz : ∀ n ∈ zs, (Lit.int .u64 n).wf = true)
    (hr : Reads w (fun b => b < w.heap.size) 1 A zs.length (zs.map (Value.int .u64))) (hl : zs.length * 8 ≤ 140737488351232) (hm : (Lit.int .i64 most).wf = true) :
    Calls Try.prog 6 #[.slice A zs.length c, .int .i64 most] w fun e w' => e = .returned (.bool true) ∧ Below w.heap.size w w' := by
  have hU : Hid (∀ x ∈ zs, U64 x) := fun x hx => u64_wf (hz x hx)
  have Hm := Lib.hid (i64_wf hm)
  have hl' : zs.length ≤ 140737488351232 := by omega
  clear hz hm hl
  go_enter Try.func6, Try.ntmps6
  go_wp2_with fail
  go_loopw [5, 6] (fun v iv wr => ∃ (i : Nat), iv = .int .i64 i ∧ i ≤ zs.length ∧ i ≤ 100 ∧ OwnB wr w.heap.size v (encAll (zs.take i)) ∧ Below w.heap.size w wr) (fun _ iv _ => 100 - (intOf iv).toNat)
  case atStart => exact ⟨0, rfl, Nat.zero_le _, Nat.zero_le _, by simp only [List.take_zero]; exact World.ownsRow_nil _ _ _ _, Below.refl _ _⟩
  case round =>
    obtain ⟨i, rfl, hi, hi100, hown, hb⟩ := hrel
    by_cases hlt : i < zs.length ∧ i < 100
    · obtain ⟨h1, h2⟩ := hlt
      have hrr := hr.below hb
      obtain ⟨b, off, x, rfl, hF, hbl, hx, hcell⟩ := u64_at hrr h1
      have Hx := Lib.hid hx
      have Ux := hU.out x (List.mem_of_getElem? hx)
      have Hux := Lib.hid Ux
      have hlen := encAll_len (zs.take i) (fun y hy => hU.out y (List.mem_of_mem_take hy))
      rw [List.length_take] at hlen
      have l10 := encI_len10 (x := x) (by have := Ux.2; omega)
      have hlen2 : (encAll (zs.take i)).length ≤ 1000 := by omega
      generalize hL : encAll (zs.take i) = L at hown hlen2
      have HL := Lib.hid hL
      clear hx Ux hlen hL
      go_wp2_with fail
      refine (num_any x Hux.out _).mono ?_
      rintro e w2 ⟨y, rfl, oy, b2⟩
      obtain ⟨Y, ky, rfl, _, ny⟩ := oy.reads
      have hown2 := hown.below b2
      have hb2 := bt hb b2
      unfold OwnB at hown2
      go_wp2_with (at_builtin; refine wpList_append_any Try.elt_u8 hown2 ny (u8s_one _) rfl rfl rfl rfl (by omega) hb2.size ?_; intro v' w3 hown3 f3 _)
      rw [u8s_app, ← List.length_append] at hown3
      go_roundw
      case rel => exact ⟨i + 1, by go_num, by omega, by omega, by rw [take_snoc zs i x Hx.out, encAll_snoc, HL.out]; exact hown3, below_frm hb2 f3 (Nat.le_refl _) (fun b hb e => by have := hown2.lt b e; omega)⟩
      case measure => simp [intOf]; omega
    · have hstop : ∀ j, j < i ↔ (j < zs.length ∧ j < 100) := fun j => by constructor <;> intro h <;> omega
      have Hstop := Lib.hid hstop
      have hZl : (zs.take i).length = i := by rw [List.length_take]; omega
      have hZu : ∀ x ∈ zs.take i, U64 x := fun y hy => hU.out y (List.mem_of_mem_take hy)
      have hZg : ∀ j x, j < i → zs[j]? = some x → (zs.take i)[j]? = some x := fun j x hj h => by rw [List.getElem?_take_of_lt hj]; exact h
      have hlen := encAll_len (zs.take i) hZu
      generalize hZ : zs.take i = Z at hown hZl hZu hZg hlen
      have hBy := encAll_byt Z
      have hat : ∀ j x, Z[j]? = some x → (encAll Z).drop (encAll (Z.take j)).length = encI x ++ encAll (Z.drop (j + 1)) := fun j x h => encAll_at Z j x h
      generalize hL : encAll Z = L at hown hlen hBy hat
      have hlL : L.length ≤ 1000 := by omega
      have HZl := Lib.hid hZl
      have HZu := Lib.hid hZu
      have HZg := Lib.hid hZg
      have Hat := Lib.hid hat
      have HL := Lib.hid hL
      have ok : ∀ a, a ≤ L.length → RdrOk L a := fun a h => ⟨hBy, by omega, h⟩
      have Hok := Lib.hid ok
      obtain ⟨VA, vc, rfl, hvc, nv⟩ := hown.reads
      have hcase : (i < zs.length ∧ ¬ i < 100) ∨ ¬ i < zs.length := by omega
      clear hstop hZl hZu hZg hlen hZ hL hat hlt ok
      rcases hcase with ⟨c1, c2⟩ | c1
      all_goals
        go_wp2_with fail
        refine (new_any _ _ _ L _ nv (by omega)).mono ?_
        rintro e w1 ⟨p, rfl, hp, hR, b1⟩
        go_wp2_with fail
        refine (awake3_any _).mono ?_
        rintro e w2 ⟨rfl, b2⟩
        have hR2 := hR.below b2
        have hb2 := bt (bt hb b1) b2
        have hp0 : w.heap.size ≤ p := by have := hb.size; omega
        obtain ⟨F, hF, hR0⟩ : ∃ F : Nat → Prop, (∀ b, F b → w.heap.size ≤ b ∧ b ≠ p) ∧ Rdr w2 F p L 0 0 := ⟨_, fun b h => ⟨by have := hb.size; have := h.1; omega, h.2⟩, hR2⟩
        have HF := Lib.hid hF
        clear hR hp hR2 hF b1 b2
        go_wp2_with fail
        go_loopw [8, 9] (fun lv iv wr => ∃ (j a : Nat), iv = .int .i64 j ∧ j ≤ i ∧ Hid (a = (encAll (Z.take j)).length) ∧ a ≤ L.length ∧ lv = .int .i64 ((L.length : Int) - a) ∧ Rdr wr F p L a 0 ∧ Below w.heap.size w wr) (fun _ iv _ => i - (intOf iv).toNat)
        case atStart => exact ⟨0, 0, rfl, Nat.zero_le _, by unfold Hid; rfl, Nat.zero_le _, by simp, hR0, hb2⟩
        case round =>
          obtain ⟨j, a, rfl, hj, ha, hal, rfl, hRr, hbr⟩ := hrel
          by_cases hji : j < i
          · have h1 := (Hstop.out j).1 hji
            have g1 : j < zs.length := h1.1
            have g2 : j < 100 := h1.2
            have hrr := hr.below hbr
            obtain ⟨b, off, x, rfl, hFb, hbl, hx, hcell⟩ := u64_at hrr g1
            have Hx := Lib.hid (HZg.out j x hji hx)
            have Ux := HZu.out x (List.mem_of_getElem? Hx.out)
            have Hux := Lib.hid Ux
            have l10 := encI_len10 (x := x) (by have := Ux.2; omega)
            have hread := rnum_reads L _ a x 18446744073709551615 Ux.1 Ux.2 (by have := Ux.2; omega) (by rw [ha.out]; exact Hat.out j x Hx.out)
            have hnext : (encAll (Z.take (j + 1))).length = a + (encI x).length := by rw [take_snoc Z j x Hx.out, encAll_snoc, List.length_append, ha.out]
            have hnl : a + (encI x).length ≤ L.length := by
              have := congrArg List.length (Hat.out j x Hx.out)
              rw [List.length_drop, List.length_append, ← ha.out] at this
              have h10 := encI_pos x
              omega
            generalize hel : (encI x).length = k at hread hnext hnl l10
            have Hread := Lib.hid hread
            have Hnext := Lib.hid hnext
            have Hel := Lib.hid hel
            have hb0 : b < w.heap.size := hFb
            clear hx Ux hread hnext hel h1
            go_wp2_with fail
            go_region_held3 (fun W => W.cell? ⟨b, off + j, none⟩ = some (.int .u64 x)) (first | exact hcell | assumption) (first
              | (go_at_call 24; refine (Num_m_any p L F a 0 _ (hRr.drewN 1) (Hok.out a hal)).mono ?_; rintro e w5 ⟨rfl, hR5, f5⟩; rw [Hread.out] at hR5; rw [Hread.out]; have hc5 : w5.cell? ⟨b, off + j, none⟩ = some (.int .u64 x) := (World.cell?_of_block (w := wr) (f5.block b (by have := hbr.size; show b < wr.heap.size; omega) (by omega))).trans hcell))
            have hbr5 : Below w.heap.size w w5 := below_frm (below_drewN hbr 1) f5 (Nat.le_refl _) (fun b hb e => by omega)
            go_wp2_with fail
            refine (num_any x Hux.out _).mono ?_
            rintro e w6 ⟨y, rfl, oy, b6⟩
            obtain ⟨Y, ky, rfl, _, ny⟩ := oy.reads
            rw [Hel.out]
            have hR6 := hR5.below b6
            have hb6 := bt hbr5 b6
            go_wp2_with fail
            refine (Left_m_any p L F _ 0 _ hR6 (Hok.out _ hnl)).mono ?_
            rintro e w7 ⟨rfl, n7, rfl⟩
            have hsub : (L.length : Int) - ((a + k : Nat) : Int) = (L.length : Int) - a - k := by omega
            rw [hsub]
            clear hsub
            go_wp2_with fail
            refine (Err_m_any p L F _ 0 _ (hR6.drewN n7)).mono ?_
            rintro e w8 ⟨rfl, n8, rfl⟩
            go_wp2_with fail
            go_roundw
            case rel => exact ⟨j + 1, a + k, by go_num, by omega, Hnext.out.symm, hnl, by rw [show (L.length : Int) - ((a + k : Nat) : Int) = (L.length : Int) - a - k by omega], by first | exact hR6.drewN _ | exact (hR6.drewN n7).drewN n8, by first | exact below_drewN hb6 _ | exact below_drewN (below_drewN hb6 n7) n8⟩
            case measure => simp [intOf]; omega
          · obtain rfl : j = i := by omega
            have haL : a = L.length := by rw [ha.out, List.take_of_length_le (by have := HZl.out; omega), HL.out]
            subst haL
            have hE : rend L L.length 0 = 0 := by unfold rend; rw [if_neg (by omega), if_neg (by omega)]
            have hS := rnum_short L L.length (max most 0) (Nat.le_refl _)
            have hE9 : rend L L.length 9 = 9 := by unfold rend; rw [if_pos (by omega)]
            have HE := Lib.hid hE
            have HS := Lib.hid hS
            have HE9 := Lib.hid hE9
            clear hE hS hE9
            go_wp2_with fail
            refine (End_m_any p L F _ 0 _ hRr (Hok.out _ (Nat.le_refl _))).mono ?_
            rintro e w3 ⟨rfl, n3, rfl⟩
            rw [HE.out]
            go_wp2_with fail
            refine (Small_m_any p L F _ 0 most _ (hRr.drewN n3) (Hok.out _ (Nat.le_refl _)) Hm.out).mono ?_
            rintro e w4 ⟨rfl, hR4, f4⟩
            rw [HS.out] at hR4
            rw [HS.out]
            have hb4 : Below w.heap.size w w4 := below_frm (below_drewN hbr n3) f4 (Nat.le_refl _) (fun b hb e => by omega)
            go_wp2_with fail
            refine (Err_m_any p L F _ 9 _ hR4).mono ?_
            rintro e w5 ⟨rfl, n5, rfl⟩
            go_wp2_with fail
            refine (End_m_any p L F _ 9 _ (hR4.drewN n5) (Hok.out _ (Nat.le_refl _))).mono ?_
            rintro e w6 ⟨rfl, n6, rfl⟩
            rw [HE9.out]
            go_wp2_with fail
            go_ret
            exact ⟨rfl, by first | exact below_drewN hb4 _ | exact below_drewN (below_drewN hb4 _) _⟩
end Go.Proofs.Ytggoigdlggenfaa
