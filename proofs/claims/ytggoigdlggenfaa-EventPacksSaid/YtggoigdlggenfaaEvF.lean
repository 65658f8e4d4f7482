/- What the reference of package event does: numbers that fit, and numbers behind bytes. -/
import Derived.Test.YtggoigdlggenfaaEvA
import Derived.Test.YtggoigdlggenfaaRefC
namespace Go.Proofs.Ytggoigdlggenfaa
open Go.RowKit Go.Proofs.Ytggoigdlggenfaa.Plain

set_option maxHeartbeats 400000 in
theorem reffits_any (g : Int) (A : Option Addr) (c : Nat) (F : Nat → Prop) (xs : List Int) (w : World) (hr : Reads w F 1 A xs.length (i64s xs)) (hl : xs.length < 140737488355300) :
    Calls Try.prog 60 #[.int .i64 g, .slice A xs.length c] w fun e w' => e = .returned (.bool (fitsB g xs)) ∧ w' = w := by
  go_enter Try.func60, Try.ntmps60
  go_wp2_with fail
  go_loop [5] (fun iv => ∃ i : Nat, iv = .int .i64 i ∧ i ≤ xs.length ∧ Hid (fitsB g (xs.take i) = true)) (fun iv => xs.length - (intOf iv).toNat)
  case atStart => exact ⟨0, rfl, Nat.zero_le _, rfl⟩
  case round =>
    obtain ⟨i, rfl, hi, hf⟩ := hrel
    by_cases hlt : i < xs.length
    · obtain ⟨b, off, x, rfl, _, _, hx, hcell⟩ := i64_at hr hlt
      have hs := Lib.hid (fitsB_take hx hf.out)
      clear hx
      by_cases h0 : x < 0
      · have hfin : Hid (fitsB g xs = false) := fitsB_part (i := i + 1) (by rw [hs.out]; simp; omega)
        go_wp2_with fail
        go_ret
        rw [hfin.out]
        exact ⟨rfl, rfl⟩
      · by_cases h1 : g < x
        · have hfin : Hid (fitsB g xs = false) := fitsB_part (i := i + 1) (by rw [hs.out]; simp; omega)
          go_wp2_with fail
          go_ret
          rw [hfin.out]
          exact ⟨rfl, rfl⟩
        · go_wp2_with fail
          go_round
          case rel => exact ⟨i + 1, by go_num, by omega, by unfold Hid; rw [hs.out]; simp; omega⟩
          case measure => simp [intOf]; omega
    · have hfin : Hid (fitsB g xs = true) := by
        have := hf.out
        rw [List.take_of_length_le (by omega)] at this
        exact this
      go_wp2_with fail
      go_ret
      rw [hfin.out]
      exact ⟨rfl, rfl⟩

set_option maxHeartbeats 400000 in
set_option maxRecDepth 100000 in
theorem refnums_any (v : Value) (base : Nat) (l : List Int) (A : Option Addr) (c : Nat) (F : Nat → Prop) (xs : List Int) (w : World) (ho : OwnB w base v l) (hbase : base ≤ w.heap.size) (hr : Reads w F 1 A xs.length (i64s xs))
    (hF : ∀ b, F b → v.ownBlock ≠ some b) (hl : l.length + 10 * xs.length < 140737488355300) :
    Calls Try.prog 58 #[v, .slice A xs.length c] w fun e w' => ∃ v', e = .returned v' ∧ OwnB w' base v' (l ++ encs xs) ∧ Frm (fun b => v.ownBlock = some b) w w' ∧ (∀ b, v'.ownBlock = some b → v.ownBlock = some b ∨ w.heap.size ≤ b) := by
  go_enter Try.func58, Try.ntmps58
  go_wp2_with fail
  go_loopw [0, 5] (fun y iv wr => ∃ i : Nat, iv = .int .i64 i ∧ i ≤ xs.length ∧ OwnB wr base y (l ++ encs (xs.take i)) ∧ Frm (fun b => v.ownBlock = some b) w wr ∧ Hid (∀ b, y.ownBlock = some b → v.ownBlock = some b ∨ w.heap.size ≤ b)) (fun _ iv _ => xs.length - (intOf iv).toNat)
  case atStart => exact ⟨0, rfl, Nat.zero_le _, by simpa [encs] using ho, Frm.refl _ _, fun b hb => .inl hb⟩
  case round =>
    obtain ⟨i, rfl, hi, hown, hf, hat⟩ := hrel
    have hr' := hr.frm hf (fun b hb e => hF b hb e)
    by_cases hlt : i < xs.length
    · obtain ⟨b, off, x, rfl, _, _, hx, hcell⟩ := i64_at hr' hlt
      have Hx := Lib.hid hx
      have hlen := encs_len (xs.take i)
      rw [List.length_take] at hlen
      have hw := Lib.hid (wrap_u64 x)
      have hsz := hf.size
      have hL2 : (l ++ encs (xs.take i)).length ≤ 140737488355300 := by rw [List.length_append]; omega
      generalize hL : l ++ encs (xs.take i) = L at hown hL2
      have HL := Lib.hid hL
      have h10 : (encI (x % 18446744073709551616)).length ≤ 10 := by rw [encI_len]; exact enc_len10 (by omega)
      clear hx hlen hL
      go_wp2_with fail
      rw [hw.out]
      refine (rnum_any _ (mod64 x) _).mono ?_
      rintro e w2 ⟨y, rfl, oy, b2⟩
      obtain ⟨Y, ky, rfl, _, ny⟩ := oy.reads
      have hown2 := hown.below b2
      have hf2 := hf.trans (Frm.of_below b2 (fun _ => False)) (fun _ _ h => h.elim)
      unfold OwnB at hown2
      go_wp2_with (at_builtin; refine wpList_append_any Try.elt_u8 hown2 ny (u8s_one _) rfl rfl rfl rfl (by omega) (by have := hf2.size; omega) ?_; intro v' w3 hown3 f3 hat3)
      rw [u8s_app, ← List.length_append] at hown3
      go_roundw
      case rel =>
        refine ⟨i + 1, by go_num, by omega, ?_, ?_, ?_⟩
        · rw [List.take_add_one, Hx.out, Option.toList_some, encs_snoc, ← List.append_assoc, HL.out]; exact hown3
        · refine hf2.trans f3 (fun b hb e => ?_)
          rcases hat.out b e with h | h
          · exact h
          · omega
        · intro b hb
          rcases hat3 with h | h
          · exact hat.out b (by rw [← h]; exact hb)
          · rw [h] at hb; injection hb with hb; right; have := hf2.size; omega
      case measure => simp [intOf]; omega
    · have hall : xs.take i = xs := List.take_of_length_le (by omega)
      rw [hall] at hown
      clear hall
      go_wp2_with fail
      go_ret
      exact ⟨_, rfl, hown, hf, hat⟩
theorem reffits_b (g : Int) (xs : List Int) (w : World) (t : TypeId) (c b n : Nat) (hb : b = w.heap.size) (hn : n = xs.length) (hx : xs.length ≤ 100000) :
    Calls Try.prog 60 #[.int .i64 g, .slice (some ⟨b, 0, none⟩) n c] (w.alloc (.cells (i64s xs).toArray t)) fun e w' => e = .returned (.bool (fitsB g xs)) ∧ w' = w.alloc (.cells (i64s xs).toArray t) := by
  subst hb; subst hn
  have hr := reads_new w (i64s xs) t
  rw [show (i64s xs).length = xs.length by simp [i64s]] at hr
  exact reffits_any g _ c _ xs _ hr (by omega)
theorem refnums_b (v : Value) (base : Nat) (l xs : List Int) (w : World) (t : TypeId) (c b n : Nat) (hb : b = w.heap.size) (hn : n = xs.length) (ho : OwnB w base v l) (hbase : base ≤ w.heap.size) (hl : l.length ≤ 100000) (hx : xs.length ≤ 100000) :
    Calls Try.prog 58 #[v, .slice (some ⟨b, 0, none⟩) n c] (w.alloc (.cells (i64s xs).toArray t)) fun e w' => ∃ v', e = .returned v' ∧ OwnB w' base v' (l ++ encs xs) ∧ Below base w w' := by
  subst hb; subst hn
  have hr := reads_new w (i64s xs) t
  rw [show (i64s xs).length = xs.length by simp [i64s]] at hr
  have := refnums_any v base l _ c _ xs (w.alloc (.cells (i64s xs).toArray t)) (World.ownsRow.alloc ho _) (by simp; omega) hr (fun b hb e => by have := ho.lt b e; omega) (by omega)
  refine this.mono ?_
  rintro e w' ⟨v', he, h1, h2, _⟩
  refine ⟨v', he, h1, ?_⟩
  exact below_frm ((Below.refl base w).alloc hbase _) h2 hbase (fun b hb e => by have := ho.lt b e; omega)

end Go.Proofs.Ytggoigdlggenfaa
