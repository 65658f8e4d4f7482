/- What package event does: an event as bytes. -/
import Derived.Test.YtggoigdlggenfaaEvR3
namespace Go.Proofs.Ytggoigdlggenfaa
open Go.RowKit Go.Proofs.Ytggoigdlggenfaa.Plain

theorem valsAt_succ {l : List Int} {idx : List Nat} {k i : Nat} (h : idx[k]? = some i) : valsAt l (idx.take (k + 1)) = valsAt l (idx.take k) ++ [l.getD i 0] := by
  have e : idx.take (k + 1) = idx.take k ++ [i] := by rw [List.take_add_one, h]; rfl
  unfold valsAt
  rw [e, List.map_append]
  rfl
theorem nums_one (v : Value) (base : Nat) (l : List Int) (x : Int) (w : World) (t : TypeId) (c : Nat) (ho : OwnB w base v l) (hbase : base ≤ w.heap.size) (hl : l.length ≤ 100000) :
    Calls Try.prog 57 #[v, .slice (some ⟨w.heap.size, 0, none⟩) 1 c] (w.alloc (.cells #[.int .i64 x] t)) fun e w' => ∃ v', e = .returned v' ∧ OwnB w' base v' (l ++ encI (x % 18446744073709551616)) ∧ Below base w w' := by
  have hr : Reads (w.alloc (.cells #[.int .i64 x] t)) (fun b => b = w.heap.size) 1 (some ⟨w.heap.size, 0, none⟩) 1 [.int .i64 x] := by
    obtain ⟨h1, h2⟩ := reads_one w (.int .i64 x) t
    refine ⟨h1, fun h => ?_⟩
    obtain ⟨b, off, e, _, hb, hc⟩ := h2 h
    injection e with e
    injection e with e1 e2
    subst e1; subst e2
    exact ⟨_, _, rfl, rfl, hb, hc⟩
  have := nums_any v base l (some ⟨w.heap.size, 0, none⟩) c _ [x] (w.alloc (.cells #[.int .i64 x] t)) (World.ownsRow.alloc ho _) (by simp; omega) hr (fun b hb e => by have := ho.lt b e; omega) (by simp; omega)
  refine this.mono ?_
  rintro e w' ⟨v', he, h1, h2, _⟩
  refine ⟨v', he, by simpa [encs] using h1, ?_⟩
  exact below_frm ((Below.refl base w).alloc hbase _) h2 hbase (fun b hb e => by have := ho.lt b e; omega)
theorem own_lit (w : World) (base : Nat) (x : Int) (hb : base ≤ w.heap.size) : OwnB (w.alloc (.cells #[.int .u8 x] 5)) base (.slice (some ⟨w.heap.size, 0, none⟩) 1 1) [x] :=
  ⟨rfl, .inr ⟨w.heap.size, 1, _, rfl, hb, heap_alloc_new w _, Nat.le_refl _, by decide, rfl, rfl⟩⟩

/-- The bytes of an event. -/
def evPack (l : List Int) : List Int := (([7] ++ encI (l.getD 0 0 % 18446744073709551616)) ++ encs (valsAt l (evIdx (l.getD 0 0)).1)) ++ encs (valsAt l (evIdx (l.getD 0 0)).2.1)

set_option maxHeartbeats 800000 in
set_option maxRecDepth 100000 in
theorem evpack_any (a0 a1 a2 a3 a4 a5 a6 a7 a8 a9 a10 a11 : Int) (w : World) :
    Calls Try.prog 29 #[.agg #[.int .i64 a0, .int .i64 a1, .int .i64 a2, .int .i64 a3, .int .i64 a4, .int .i64 a5, .int .i64 a6, .int .i64 a7, .int .i64 a8, .int .i64 a9, .int .i64 a10, .int .i64 a11]] w fun e w' => ∃ v, e = .returned (.tuple #[v, .int .i64 (if evRight [a0, a1, a2, a3, a4, a5, a6, a7, a8, a9, a10, a11] = true then 0 else 10)]) ∧
      OwnB w' w.heap.size v (if evRight [a0, a1, a2, a3, a4, a5, a6, a7, a8, a9, a10, a11] = true then evPack [a0, a1, a2, a3, a4, a5, a6, a7, a8, a9, a10, a11] else []) ∧ Below w.heap.size w w' := by
  obtain ⟨l, hl⟩ : ∃ l, l = [a0, a1, a2, a3, a4, a5, a6, a7, a8, a9, a10, a11] := ⟨_, rfl⟩
  have hll : l.length = 12 := by rw [hl]; rfl
  have h0 : l.getD 0 0 = a0 := by rw [hl]; rfl
  have hp0 := Blk.new w 46 #[.int .i64 a0, .int .i64 a1, .int .i64 a2, .int .i64 a3, .int .i64 a4, .int .i64 a5, .int .i64 a6, .int .i64 a7, .int .i64 a8, .int .i64 a9, .int .i64 a10, .int .i64 a11]
  have hpl : (#[.int .i64 a0, .int .i64 a1, .int .i64 a2, .int .i64 a3, .int .i64 a4, .int .i64 a5, .int .i64 a6, .int .i64 a7, .int .i64 a8, .int .i64 a9, .int .i64 a10, .int .i64 a11] : Array Value) = (i64s l).toArray := by rw [hl]; rfl
  have Hpl := Lib.hid hpl
  have HR := fun W => Lib.hid (evright_any a0 a1 a2 a3 a4 a5 a6 a7 a8 a9 a10 a11 W)
  rw [← hl] at HR ⊢
  have Hl := Lib.hid hl
  have Hll := Lib.hid hll
  have H0 := Lib.hid h0
  obtain ⟨i1, i2, i3, i4⟩ := evIdx_lt a0
  clear hl hll h0 hpl
  cases hrt : evRight l with
  | false =>
    rw [hrt] at HR
    clear hrt
    go_enter Try.func29, Try.ntmps29
    go_wp2_with fail
    refine (HR _).out.mono ?_
    rintro e w1 ⟨rfl, b1⟩
    go_wp2_with fail
    go_ret2
    exact ⟨_, rfl, World.ownsRow_nil _ _ _ _, bt (one_below _ _) b1⟩
  | true =>
  rw [hrt] at HR
  clear hrt
  go_enter Try.func29, Try.ntmps29
  go_wp2_with fail
  refine (HR _).out.mono ?_
  rintro e w1 ⟨rfl, b1⟩
  have hp1 : Blk w1 w.heap.size 46 (i64s l).toArray := by rw [← Hpl.out]; exact hp0.below b1 hp0.lt
  have b01 := bt (one_below w _) b1
  have c1 : w1.cell? ⟨w.heap.size, 0, none⟩ = some (.int .i64 a0) := by rw [← H0.out]; exact i64s_cell hp1 (by rw [Hll.out]; omega)
  clear hp0 b1
  go_wp2_with fail
  refine (fields_any w.heap.size a0 w1 c1).mono ?_
  rintro e w2 ⟨vi, vw, rfl, hI, hW, b2⟩
  have hp2 := hp1.below b2 hp1.lt
  have b02 := bt b01 b2
  have c2 : w2.cell? ⟨w.heap.size, 0, none⟩ = some (.int .i64 a0) := by rw [← H0.out]; exact i64s_cell hp2 (by rw [Hll.out]; omega)
  generalize hE : evIdx a0 = E at *
  obtain ⟨I, Wd, ok⟩ := E
  have HE := Lib.hid hE
  clear hE
  dsimp only at *
  obtain ⟨A1, k1, rfl, r1⟩ := hI
  obtain ⟨A2, k2, rfl, r2⟩ := hW
  have I1 := Lib.hid i1
  have I2 := Lib.hid i2
  have hb1 := one_below w2 (.cells #[.int .u8 7] 5)
  have hN0 := Lib.hid (nums_one _ w2.heap.size [7] a0 _ 2 1 (own_lit w2 w2.heap.size 7 (Nat.le_refl _)) hb1.size (by simp))
  have Hb1 := Lib.hid hb1
  have e1 : (w2.alloc (.cells #[.int .u8 7] 5)).heap.size = w2.heap.size + 1 := by simp
  rw [e1] at hN0
  have hplt : w.heap.size < w2.heap.size := hp2.lt
  clear i1 i2 hp1 c1 hb1 e1 b2
  go_wp2_with fail
  refine hN0.out.mono ?_
  rintro e w3 ⟨v3, rfl, o3, b3⟩
  have b23 := Hb1.out.trans b3
  generalize hL0 : [7] ++ encI (a0 % 18446744073709551616) = L0 at o3
  have hL0l : L0.length ≤ 20 := by
    rw [← hL0, List.length_append]
    have : (encI (a0 % 18446744073709551616)).length ≤ 10 := by rw [encI_len]; exact enc_len10 (by omega)
    simp; omega
  have HL0 := Lib.hid hL0
  clear hL0
  go_wp2_with fail
  go_loopw [7, 9, 27] (fun bv _ iv wr => ∃ (k : Nat), iv = .int .i64 k ∧ k ≤ I.length ∧ OwnB wr w2.heap.size bv (L0 ++ encs (valsAt l (I.take k))) ∧ Below w2.heap.size w2 wr) (fun _ _ iv _ => I.length - (intOf iv).toNat)
  case atStart => exact ⟨0, rfl, Nat.zero_le _, by simpa [valsAt, encs] using o3, b23⟩
  case round =>
    obtain ⟨k, rfl, hk, hown, hbr⟩ := hrel
    by_cases hlt : k < I.length
    · have hi : I[k]? = some I[k] := List.getElem?_eq_getElem hlt
      generalize I[k] = i at hi
      have hi12 : i < 12 := I1.out i (List.mem_of_getElem? hi)
      obtain ⟨ba, oa, hA, hFa, hla, hca⟩ := ptr_at (r1.below hbr) hi
      subst hA
      have hpk := hp2.below hbr hp2.lt
      have hcx := i64s_cell hpk (by rw [Hll.out]; exact hi12)
      have hsnoc := Lib.hid (encs_snoc (valsAt l (I.take k)) (l.getD i 0))
      have htk := Lib.hid (valsAt_succ (l := l) hi)
      have hlen := encs_len (valsAt l (I.take k))
      have hvl : (valsAt l (I.take k)).length ≤ I.length := by unfold valsAt; rw [List.length_map, List.length_take]; omega
      have hL2 : (L0 ++ encs (valsAt l (I.take k))).length ≤ 1000 := by rw [List.length_append]; omega
      generalize hL : L0 ++ encs (valsAt l (I.take k)) = L at hown hL2
      have HL := Lib.hid hL
      generalize hx : l.getD i 0 = x at hcx hsnoc htk
      clear hL hx hi hlen hvl
      have hN := Lib.hid (nums_one _ w2.heap.size L x wr 2 1 hown hbr.size (by omega))
      go_wp2_with fail
      refine hN.out.mono ?_
      rintro e w5 ⟨v', rfl, ho5, b5⟩
      go_wp2_with fail
      go_roundw
      case rel => exact ⟨k + 1, by go_num, by omega, by rw [htk.out, hsnoc.out, ← List.append_assoc, HL.out]; exact ho5, hbr.trans b5⟩
      case measure => simp [intOf]; omega
    · have hkI : k = I.length := by omega
      subst hkI
      rw [List.take_length] at hown
      obtain ⟨L1, hL1⟩ : ∃ L1, L1 = L0 ++ encs (valsAt l I) := ⟨_, rfl⟩
      rw [← hL1] at hown
      have hL1l : L1.length ≤ 100 := by
        have := encs_len (valsAt l I)
        have hv : (valsAt l I).length = I.length := by unfold valsAt; simp
        rw [hL1, List.length_append]; omega
      have HL1 := Lib.hid hL1
      clear hL1
      go_wp2_with fail
      go_loopw [7, 11, 40] (fun bv _ iv wr => ∃ (k : Nat), iv = .int .i64 k ∧ k ≤ Wd.length ∧ OwnB wr w2.heap.size bv (L1 ++ encs (valsAt l (Wd.take k))) ∧ Below w2.heap.size w2 wr) (fun _ _ iv _ => Wd.length - (intOf iv).toNat)
      case atStart => exact ⟨0, rfl, Nat.zero_le _, by simpa [valsAt, encs] using hown, hbr⟩
      case round =>
        obtain ⟨k, rfl, hk, hown, hbr⟩ := hrel
        by_cases hlt : k < Wd.length
        · have hi : Wd[k]? = some Wd[k] := List.getElem?_eq_getElem hlt
          generalize Wd[k] = i at hi
          have hi12 : i < 12 := I2.out i (List.mem_of_getElem? hi)
          obtain ⟨ba, oa, hA, hFa, hla, hca⟩ := ptr_at (r2.below hbr) hi
          subst hA
          have hpk := hp2.below hbr hp2.lt
          have hcx := i64s_cell hpk (by rw [Hll.out]; exact hi12)
          have hsnoc := Lib.hid (encs_snoc (valsAt l (Wd.take k)) (l.getD i 0))
          have htk := Lib.hid (valsAt_succ (l := l) hi)
          have hlen := encs_len (valsAt l (Wd.take k))
          have hvl : (valsAt l (Wd.take k)).length ≤ Wd.length := by unfold valsAt; rw [List.length_map, List.length_take]; omega
          have hL2 : (L1 ++ encs (valsAt l (Wd.take k))).length ≤ 1000 := by rw [List.length_append]; omega
          generalize hL : L1 ++ encs (valsAt l (Wd.take k)) = L at hown hL2
          have HL := Lib.hid hL
          generalize hx : l.getD i 0 = x at hcx hsnoc htk
          clear hL hx hi hlen hvl
          have hN := Lib.hid (nums_one _ w2.heap.size L x wr 2 1 hown hbr.size (by omega))
          go_wp2_with fail
          refine hN.out.mono ?_
          rintro e w5 ⟨v', rfl, ho5, b5⟩
          go_wp2_with fail
          go_roundw
          case rel => exact ⟨k + 1, by go_num, by omega, by rw [htk.out, hsnoc.out, ← List.append_assoc, HL.out]; exact ho5, hbr.trans b5⟩
          case measure => simp [intOf]; omega
        · have hkW : k = Wd.length := by omega
          subst hkW
          rw [List.take_length] at hown
          have hfin : Hid (evPack l = L1 ++ encs (valsAt l Wd)) := by
            unfold Hid evPack
            rw [H0.out, HE.out, HL0.out, HL1.out]
          go_wp2_with fail
          go_ret2
          rw [hfin.out]
          exact ⟨_, rfl, hown.lower b02.size, b02.trans (hbr.mono b02.size)⟩
end Go.Proofs.Ytggoigdlggenfaa
