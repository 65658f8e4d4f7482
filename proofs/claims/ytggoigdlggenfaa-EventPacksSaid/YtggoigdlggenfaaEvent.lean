/- What package event does: numbers that fit, and numbers behind bytes. -/
import Derived.Test.YtggoigdlggenfaaCodeW
namespace Go.Proofs.Ytggoigdlggenfaa
open Go.RowKit Go.Proofs.Ytggoigdlggenfaa.Plain

def i64s (xs : List Int) : List Value := xs.map (Value.int .i64)
theorem i64s_one (l : List Int) : ∀ u ∈ i64s l, u.oneCell' = true := by
  intro u hu
  rw [i64s, List.mem_map] at hu
  obtain ⟨x, _, rfl⟩ := hu
  rfl
theorem i64_at {zs : List Int} {w : World} {F : Nat → Prop} {A : Option Addr} (hr : Reads w F 1 A zs.length (i64s zs)) {i : Nat} (h : i < zs.length) :
    ∃ b off x, A = some ⟨b, off, none⟩ ∧ F b ∧ b < w.heap.size ∧ zs[i]? = some x ∧ w.cell? ⟨b, off + i, none⟩ = some (.int .i64 x) := by
  obtain ⟨b, off, u, hA, hF, hb, hu, hc⟩ := hr.at_ h
  rw [i64s, List.getElem?_map, List.getElem?_eq_getElem h] at hu
  injection hu with hu
  subst hu
  exact ⟨b, off, zs[i], hA, hF, hb, List.getElem?_eq_getElem h, hc⟩

/-- Are all from 0 to the greatest? -/
def fitsB (g : Int) (l : List Int) : Bool := l.all fun v => decide (0 ≤ v ∧ v ≤ g)
theorem fitsB_take {g : Int} {l : List Int} {i : Nat} {x : Int} (h : l[i]? = some x) (h0 : fitsB g (l.take i) = true) : fitsB g (l.take (i + 1)) = decide (0 ≤ x ∧ x ≤ g) := by
  have e : l.take (i + 1) = l.take i ++ [x] := by rw [List.take_add_one, h]; rfl
  unfold fitsB at *
  rw [e, List.all_append, h0]
  simp
theorem fitsB_part {g : Int} {l : List Int} {i : Nat} (h : fitsB g (l.take i) = false) : fitsB g l = false := by
  unfold fitsB at *
  rw [← List.take_append_drop i l, List.all_append, h]
  rfl

set_option maxHeartbeats 400000 in
theorem fits_any (g : Int) (A : Option Addr) (c : Nat) (F : Nat → Prop) (xs : List Int) (w : World) (hr : Reads w F 1 A xs.length (i64s xs)) (hl : xs.length < 140737488355300) :
    Calls Try.prog 61 #[.int .i64 g, .slice A xs.length c] w fun e w' => e = .returned (.bool (fitsB g xs)) ∧ w' = w := by
  go_enter Try.func61, Try.ntmps61
  go_wp2_with fail
  go_loop [4, 6, 9] (fun _ _ iv => ∃ i : Nat, iv = .int .i64 i ∧ i ≤ xs.length ∧ Hid (fitsB g (xs.take i) = true)) (fun _ _ iv => xs.length - (intOf iv).toNat)
  case atStart => exact ⟨0, rfl, Nat.zero_le _, rfl⟩
  case round =>
    obtain ⟨i, rfl, hi, hf⟩ := hrel
    by_cases hlt : i < xs.length
    · obtain ⟨b, off, x, rfl, _, _, hx, hcell⟩ := i64_at hr hlt
      have hs := Lib.hid (fitsB_take hx hf.out)
      clear hx
      by_cases h0 : x < 0
      · have hfin : Hid (fitsB g xs = false) := fitsB_part (i := i + 1) (by rw [hs.out]; simp; omega)
        go_wp2_with fail
        go_ret
        rw [hfin.out]
        exact ⟨rfl, rfl⟩
      · by_cases h1 : g < x
        · have hfin : Hid (fitsB g xs = false) := fitsB_part (i := i + 1) (by rw [hs.out]; simp; omega)
          go_wp2_with fail
          go_ret
          rw [hfin.out]
          exact ⟨rfl, rfl⟩
        · go_wp2_with fail
          go_round
          case rel => exact ⟨i + 1, by go_num, by omega, by unfold Hid; rw [hs.out]; simp; omega⟩
          case measure => simp [intOf]; omega
    · have hfin : Hid (fitsB g xs = true) := by
        have := hf.out
        rw [List.take_of_length_le (by omega)] at this
        exact this
      go_wp2_with fail
      go_ret
      rw [hfin.out]
      exact ⟨rfl, rfl⟩

/-- Numbers as bytes, one behind the other. -/
def encs (xs : List Int) : List Int := xs.flatMap fun x => encI (x % 18446744073709551616)
theorem encs_snoc (l : List Int) (x : Int) : encs (l ++ [x]) = encs l ++ encI (x % 18446744073709551616) := by simp [encs]
theorem encs_len (l : List Int) : (encs l).length ≤ 10 * l.length := by
  induction l with
  | nil => simp [encs]
  | cons x l ih =>
    have h2 : (encI (x % 18446744073709551616)).length ≤ 10 := by rw [encI_len]; exact enc_len10 (by omega)
    have e : encs (x :: l) = encI (x % 18446744073709551616) ++ encs l := by simp [encs]
    rw [e, List.length_append, List.length_cons]
    omega
theorem mod64 (x : Int) : U64 (x % 18446744073709551616) := ⟨by omega, by omega⟩

set_option maxHeartbeats 400000 in
set_option maxRecDepth 100000 in
theorem nums_any (v : Value) (base : Nat) (l : List Int) (A : Option Addr) (c : Nat) (F : Nat → Prop) (xs : List Int) (w : World) (ho : OwnB w base v l) (hbase : base ≤ w.heap.size) (hr : Reads w F 1 A xs.length (i64s xs))
    (hF : ∀ b, F b → v.ownBlock ≠ some b) (hl : l.length + 10 * xs.length < 140737488355300) :
    Calls Try.prog 57 #[v, .slice A xs.length c] w fun e w' => ∃ v', e = .returned v' ∧ OwnB w' base v' (l ++ encs xs) ∧ Frm (fun b => v.ownBlock = some b) w w' ∧ (∀ b, v'.ownBlock = some b → v.ownBlock = some b ∨ w.heap.size ≤ b) := by
  go_enter Try.func57, Try.ntmps57
  go_wp2_with fail
  go_loopw [0, 6, 9] (fun y _ iv wr => ∃ i : Nat, iv = .int .i64 i ∧ i ≤ xs.length ∧ OwnB wr base y (l ++ encs (xs.take i)) ∧ Frm (fun b => v.ownBlock = some b) w wr ∧ Hid (∀ b, y.ownBlock = some b → v.ownBlock = some b ∨ w.heap.size ≤ b)) (fun _ _ iv _ => xs.length - (intOf iv).toNat)
  case atStart => exact ⟨0, rfl, Nat.zero_le _, by simpa [encs] using ho, Frm.refl _ _, fun b hb => .inl hb⟩
  case round =>
    obtain ⟨i, rfl, hi, hown, hf, hat⟩ := hrel
    have hr' := hr.frm hf (fun b hb e => hF b hb e)
    by_cases hlt : i < xs.length
    · obtain ⟨b, off, x, rfl, _, _, hx, hcell⟩ := i64_at hr' hlt
      have Hx := Lib.hid hx
      have hlen := encs_len (xs.take i)
      rw [List.length_take] at hlen
      have hw := Lib.hid (wrap_u64 x)
      have hsz := hf.size
      have hL2 : (l ++ encs (xs.take i)).length ≤ 140737488355300 := by rw [List.length_append]; omega
      generalize hL : l ++ encs (xs.take i) = L at hown hL2
      have HL := Lib.hid hL
      have h10 : (encI (x % 18446744073709551616)).length ≤ 10 := by rw [encI_len]; exact enc_len10 (by omega)
      clear hx hlen hL
      go_wp2_with fail
      rw [hw.out]
      refine (num_any _ (mod64 x) _).mono ?_
      rintro e w2 ⟨y, rfl, oy, b2⟩
      obtain ⟨Y, ky, rfl, _, ny⟩ := oy.reads
      have hown2 := hown.below b2
      have hf2 := hf.trans (Frm.of_below b2 (fun _ => False)) (fun _ _ h => h.elim)
      unfold OwnB at hown2
      go_wp2_with (at_builtin; refine wpList_append_any Try.elt_u8 hown2 ny (u8s_one _) rfl rfl rfl rfl (by omega) (by have := hf2.size; omega) ?_; intro v' w3 hown3 f3 hat3)
      rw [u8s_app, ← List.length_append] at hown3
      go_roundw
      case rel =>
        refine ⟨i + 1, by go_num, by omega, ?_, ?_, ?_⟩
        · rw [List.take_add_one, Hx.out, Option.toList_some, encs_snoc, ← List.append_assoc, HL.out]; exact hown3
        · refine hf2.trans f3 (fun b hb e => ?_)
          rcases hat.out b e with h | h
          · exact h
          · omega
        · intro b hb
          rcases hat3 with h | h
          · exact hat.out b (by rw [← h]; exact hb)
          · rw [h] at hb; injection hb with hb; right; have := hf2.size; omega
      case measure => simp [intOf]; omega
    · have hall : xs.take i = xs := List.take_of_length_le (by omega)
      rw [hall] at hown
      clear hall
      go_wp2_with fail
      go_ret
      exact ⟨_, rfl, hown, hf, hat⟩
end Go.Proofs.Ytggoigdlggenfaa
