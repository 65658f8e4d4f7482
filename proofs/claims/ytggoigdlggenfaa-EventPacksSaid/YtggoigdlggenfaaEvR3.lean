/- What package event does: whether an event may be. -/
import Derived.Test.YtggoigdlggenfaaEvR2
namespace Go.Proofs.Ytggoigdlggenfaa
open Go.RowKit Go.Proofs.Ytggoigdlggenfaa.Plain

def valsAt (l : List Int) (idx : List Nat) : List Int := idx.map fun i => l.getD i 0
def setAt (b l : List Int) (idx : List Nat) : List Int := idx.foldl (fun b i => b.set i (l.getD i 0)) b
def bare0 (k : Int) : List Int := k :: List.replicate 11 0
/-- May an event be, its twelve numbers in a row? -/
def evRight (l : List Int) : Bool :=
  ((evIdx (l.getD 0 0)).2.2 && fitsB 2147483647 (valsAt l (evIdx (l.getD 0 0)).1)) && fitsB 4611686018427387904 (valsAt l (evIdx (l.getD 0 0)).2.1) &&
    decide (setAt (setAt (bare0 (l.getD 0 0)) l (evIdx (l.getD 0 0)).1) l (evIdx (l.getD 0 0)).2.1 = l)

theorem evIdx_lt (k : Int) : (∀ i ∈ (evIdx k).1, i < 12) ∧ (∀ i ∈ (evIdx k).2.1, i < 12) ∧ (evIdx k).1.length ≤ 4 ∧ (evIdx k).2.1.length ≤ 2 := by
  unfold evIdx
  split
  · decide
  · split
    · decide
    · split
      · decide
      · split <;> decide
theorem setAt_take {b l : List Int} {idx : List Nat} {k i : Nat} (h : idx[k]? = some i) : setAt b l (idx.take (k + 1)) = (setAt b l (idx.take k)).set i (l.getD i 0) := by
  have e : idx.take (k + 1) = idx.take k ++ [i] := by rw [List.take_add_one, h]; rfl
  unfold setAt
  rw [e, List.foldl_append]
  rfl
theorem setAt_len (b l : List Int) (idx : List Nat) : (setAt b l idx).length = b.length := by
  unfold setAt
  induction idx generalizing b with
  | nil => rfl
  | cons i idx ih => rw [List.foldl_cons, ih, List.length_set]
theorem valsAt_at {l : List Int} {idx : List Nat} {k i : Nat} (h : idx[k]? = some i) : (valsAt l idx)[k]? = some (l.getD i 0) := by
  unfold valsAt; rw [List.getElem?_map, h]; rfl
theorem valsAt_take (l : List Int) (idx : List Nat) (k : Nat) : valsAt l (idx.take k) = (valsAt l idx).take k := by unfold valsAt; rw [List.map_take]
theorem fits_take {g : Int} {l : List Int} {idx : List Nat} {k i : Nat} (h : idx[k]? = some i) : fitsB g (valsAt l (idx.take (k + 1))) = (fitsB g (valsAt l (idx.take k)) && fitsB g [l.getD i 0]) := by
  have e : idx.take (k + 1) = idx.take k ++ [i] := by rw [List.take_add_one, h]; rfl
  unfold fitsB valsAt
  rw [e, List.map_append, List.all_append]
  rfl
theorem set_i64s (b : List Int) (i : Nat) (x : Int) : (i64s b).toArray.setIfInBounds i (.int .i64 x) = (i64s (b.set i x)).toArray := by
  unfold i64s
  rw [List.map_set]
  simp
theorem i64s_cell {w : World} {p : Nat} {t : TypeId} {l : List Int} {i : Nat} (h : Blk w p t (i64s l).toArray) (hi : i < l.length) : w.cell? ⟨p, i, none⟩ = some (.int .i64 (l.getD i 0)) := by
  rw [h.cell i, List.getElem?_toArray, i64s, List.getElem?_map, List.getElem?_eq_getElem hi, List.getD_eq_getElem?_getD, List.getElem?_eq_getElem hi]
  rfl
theorem Ptrs.frm {M : Nat → Prop} {w w' : World} {F : Nat → Prop} {v : Value} {p : Nat} {l : List Nat} (h : Ptrs w F v p l) (k : Frm M w w') (hd : ∀ b, F b → ¬ M b) : Ptrs w' F v p l := by
  obtain ⟨A, c, e, hr⟩ := h
  exact ⟨A, c, e, hr.frm k hd⟩
theorem Ptrs.below {w w' : World} {F : Nat → Prop} {v : Value} {p : Nat} {l : List Nat} (h : Ptrs w F v p l) (k : Below w.heap.size w w') : Ptrs w' F v p l := by
  obtain ⟨A, c, e, hr⟩ := h
  exact ⟨A, c, e, hr.below k⟩
theorem reads_one (w : World) (u : Value) (t : TypeId) : Reads (w.alloc (.cells #[u] t)) (fun _ => True) 1 (some ⟨w.heap.size, 0, none⟩) 1 [u] := by
  refine ⟨rfl, fun _ => ⟨w.heap.size, 0, rfl, trivial, by simp, fun j v hv => ?_⟩⟩
  rw [Nat.zero_add, cell_of_row _ _ _ _ _ (0, 0) (heap_alloc_new w _)]
  cases j with
  | zero => simpa using hv
  | succ j => simp at hv
theorem fits_one (g x : Int) (w : World) (t : TypeId) (c : Nat) :
    Calls Try.prog 61 #[.int .i64 g, .slice (some ⟨w.heap.size, 0, none⟩) 1 c] (w.alloc (.cells #[.int .i64 x] t)) fun e w' => e = .returned (.bool (fitsB g [x])) ∧ w' = w.alloc (.cells #[.int .i64 x] t) :=
  fits_any g _ c _ [x] _ (reads_one w _ t) (by simp)
theorem ptr_at {w : World} {F : Nat → Prop} {A : Option Addr} {p k i : Nat} {l : List Nat} (hr : Reads w F 1 A l.length (l.map fun i => Value.pointer (some ⟨p, i, none⟩))) (h : l[k]? = some i) :
    ∃ b off, A = some ⟨b, off, none⟩ ∧ F b ∧ b < w.heap.size ∧ w.cell? ⟨b, off + k, none⟩ = some (.pointer (some ⟨p, i, none⟩)) := by
  have hk := (List.getElem?_eq_some_iff.1 h).1
  obtain ⟨b, off, u, hA, hF, hb, hu, hc⟩ := hr.at_ hk
  rw [List.getElem?_map, h] at hu
  injection hu with hu
  subst hu
  exact ⟨b, off, hA, hF, hb, hc⟩

set_option maxHeartbeats 2000000 in
set_option maxRecDepth 100000 in
theorem evright_any (a0 a1 a2 a3 a4 a5 a6 a7 a8 a9 a10 a11 : Int) (w : World) :
    Calls Try.prog 34 #[.agg #[.int .i64 a0, .int .i64 a1, .int .i64 a2, .int .i64 a3, .int .i64 a4, .int .i64 a5, .int .i64 a6, .int .i64 a7, .int .i64 a8, .int .i64 a9, .int .i64 a10, .int .i64 a11]] w fun e w' => e = .returned (.bool (evRight [a0, a1, a2, a3, a4, a5, a6, a7, a8, a9, a10, a11])) ∧ Below w.heap.size w w' := by
  obtain ⟨l, hl⟩ : ∃ l, l = [a0, a1, a2, a3, a4, a5, a6, a7, a8, a9, a10, a11] := ⟨_, rfl⟩
  have hll : l.length = 12 := by rw [hl]; rfl
  have h0 : l.getD 0 0 = a0 := by rw [hl]; rfl
  have hp0 := Blk.new w 46 #[.int .i64 a0, .int .i64 a1, .int .i64 a2, .int .i64 a3, .int .i64 a4, .int .i64 a5, .int .i64 a6, .int .i64 a7, .int .i64 a8, .int .i64 a9, .int .i64 a10, .int .i64 a11]
  have hpl : (#[.int .i64 a0, .int .i64 a1, .int .i64 a2, .int .i64 a3, .int .i64 a4, .int .i64 a5, .int .i64 a6, .int .i64 a7, .int .i64 a8, .int .i64 a9, .int .i64 a10, .int .i64 a11] : Array Value) = (i64s l).toArray := by rw [hl]; rfl
  have Hpl := Lib.hid hpl
  rw [← hl]
  have Hl := Lib.hid hl
  have Hll := Lib.hid hll
  have H0 := Lib.hid h0
  obtain ⟨i1, i2, i3, i4⟩ := evIdx_lt a0
  clear hl hll h0 hpl
  go_enter Try.func34, Try.ntmps34
  go_wp2_with fail
  have hq0 := Blk.new (w.alloc (.cells #[.int .i64 a0, .int .i64 a1, .int .i64 a2, .int .i64 a3, .int .i64 a4, .int .i64 a5, .int .i64 a6, .int .i64 a7, .int .i64 a8, .int .i64 a9, .int .i64 a10, .int .i64 a11] 46)) 46 #[.int .i64 a0, .int .i64 0, .int .i64 0, .int .i64 0, .int .i64 0, .int .i64 0, .int .i64 0, .int .i64 0, .int .i64 0, .int .i64 0, .int .i64 0, .int .i64 0]
  generalize hw1 : (w.alloc (.cells #[.int .i64 a0, .int .i64 a1, .int .i64 a2, .int .i64 a3, .int .i64 a4, .int .i64 a5, .int .i64 a6, .int .i64 a7, .int .i64 a8, .int .i64 a9, .int .i64 a10, .int .i64 a11] 46)).alloc _ = w1 at hq0
  have hp1 : Blk w1 w.heap.size 46 (i64s l).toArray := by rw [← Hpl.out, ← hw1]; exact (hp0.alloc _)
  have hq1 : Blk w1 (w.heap.size + 1) 46 (i64s (bare0 a0)).toArray := by
    have e : (w.alloc (.cells #[.int .i64 a0, .int .i64 a1, .int .i64 a2, .int .i64 a3, .int .i64 a4, .int .i64 a5, .int .i64 a6, .int .i64 a7, .int .i64 a8, .int .i64 a9, .int .i64 a10, .int .i64 a11] 46)).heap.size = w.heap.size + 1 := by simp
    rw [e] at hq0
    exact hq0
  have b1 : Below w.heap.size w w1 := by rw [← hw1]; exact ((Below.refl _ _).alloc (Nat.le_refl _) _).alloc (by simp) _
  have HW1 := Lib.hid hw1
  clear hw1 hq0 hp0
  have c1 : w1.cell? ⟨w.heap.size, 0, none⟩ = some (.int .i64 a0) := by rw [← H0.out]; exact i64s_cell hp1 (by rw [Hll.out]; omega)
  refine (fields_any w.heap.size a0 w1 c1).mono ?_
  rintro e w2 ⟨vi, vw, rfl, hI, hW, b2⟩
  have hp2 := hp1.below b2 hp1.lt
  have hq2 := hq1.below b2 hq1.lt
  have c2 : w2.cell? ⟨w.heap.size + 1, 0, none⟩ = some (.int .i64 a0) := i64s_cell (l := bare0 a0) hq2 (by simp [bare0])
  go_wp2_with fail
  refine (fields_any (w.heap.size + 1) a0 w2 c2).mono ?_
  rintro e w3 ⟨vi', vw', rfl, hI', hW', b3⟩
  have hp3 := hp2.below b3 hp2.lt
  have hq3 := hq2.below b3 hq2.lt
  have hI3 := hI.below b3
  have hW3 := hW.below b3
  have b03 := bt (bt b1 b2) b3
  have hpw : w.heap.size < w1.heap.size := hp1.lt
  have hqw : w.heap.size + 1 < w1.heap.size := hq1.lt
  have hs2 := b2.size
  generalize hq : w.heap.size + 1 = q at *
  generalize hE : evIdx a0 = E at *
  obtain ⟨I, Wd, ok⟩ := E
  have HE := Lib.hid hE
  clear hE
  dsimp only at *
  obtain ⟨A1, k1, rfl, r1⟩ := hI3
  obtain ⟨A2, k2, rfl, r2⟩ := hW3
  obtain ⟨A3, k3, rfl, r3⟩ := hI'
  obtain ⟨A4, k4, rfl, r4⟩ := hW'
  have Hq := Lib.hid hq
  have hqne : w.heap.size < q := by omega
  clear hp1 hq1 hp2 hq2 c1 c2 hI hW hq b1 b2
  go_wp2_with fail
  obtain ⟨b0, hb0⟩ : ∃ b0, b0 = bare0 a0 := ⟨_, rfl⟩
  have b0_len : b0.length = 12 := by rw [hb0]; simp [bare0]
  rw [← hb0] at hq3
  have Hb0 := Lib.hid hb0
  have I1 := Lib.hid i1
  have I2 := Lib.hid i2
  clear hb0 i1 i2
  go_loopw [6, 10, 11, 29] (fun isv _ _ iv wr => ∃ (k : Nat) (ob : Bool), iv = .int .i64 k ∧ isv = .bool ob ∧ k ≤ I.length ∧ Hid (ob = (ok && fitsB 2147483647 (valsAt l (I.take k)))) ∧ Blk wr q 46 (i64s (setAt b0 l (I.take k))).toArray ∧ Frm (· = q) w3 wr) (fun _ _ _ iv _ => I.length - (intOf iv).toNat)
  case atStart => exact ⟨0, ok, rfl, rfl, Nat.zero_le _, by unfold Hid; simp [valsAt, fitsB], by simpa [setAt] using hq3, Frm.refl _ _⟩
  case round =>
    obtain ⟨k, ob, rfl, rfl, hk, hob, hqk, hfr⟩ := hrel
    by_cases hlt : k < I.length
    · have hi : I[k]? = some I[k] := List.getElem?_eq_getElem hlt
      generalize I[k] = i at hi
      have hi12 : i < 12 := I1.out i (List.mem_of_getElem? hi)
      obtain ⟨ba, oa, hA, hFa, hla, hca⟩ := ptr_at (r1.frm hfr (fun b hb e => by omega)) hi
      obtain ⟨bb, ob2, hB, hFb, hlb, hcb⟩ := ptr_at (r3.frm hfr (fun b hb e => by omega)) hi
      subst hA
      subst hB
      have hpk := hp3.frm hfr (show ¬ w.heap.size = q by omega)
      have hcx := i64s_cell hpk (by rw [Hll.out]; exact hi12)
      have hcq := i64s_cell (i := i) hqk (by rw [setAt_len, b0_len]; exact hi12)
      have hset := Lib.hid (setAt_take (b := b0) (l := l) hi)
      have hfit := Lib.hid (fits_take (g := 2147483647) (l := l) hi)
      generalize hx : l.getD i 0 = x at hcx hset hfit
      generalize hy : (setAt b0 l (I.take k)).getD i 0 = y at hcq
      have hfq := hqk.frozen i
      clear hx hy hi
      cases ob with
      | true =>
        go_wp2_with fail
        refine (fits_one 2147483647 x wr _ _).mono ?_
        rintro e w5 ⟨rfl, hw5⟩
        have hfr5 : Frm (· = q) w3 w5 := by rw [hw5]; exact hfr.alloc _
        have hq5 : Blk w5 q 46 (i64s (setAt b0 l (I.take k))).toArray := by rw [hw5]; exact hqk.alloc _
        have d1 : w5.cell? ⟨ba, oa + k, none⟩ = some (.pointer (some ⟨w.heap.size, i, none⟩)) := by rw [hw5]; exact (World.cell?_alloc_lt wr _ _ hla).trans hca
        have d2 : w5.cell? ⟨bb, ob2 + k, none⟩ = some (.pointer (some ⟨q, i, none⟩)) := by rw [hw5]; exact (World.cell?_alloc_lt wr _ _ hlb).trans hcb
        have d3 : w5.cell? ⟨w.heap.size, i, none⟩ = some (.int .i64 x) := by rw [hw5]; exact (World.cell?_alloc_lt wr _ _ hpk.lt).trans hcx
        have d4 : w5.cell? ⟨q, i, none⟩ = some (.int .i64 y) := by rw [hw5]; exact (World.cell?_alloc_lt wr _ _ hqk.lt).trans hcq
        have d5 := hq5.frozen i
        clear hw5
        generalize hf : fitsB 2147483647 [x] = fb at *
        go_wp2_with fail
        go_still_tail 8, (by kernel_rfl)
        change wpList _ _ _ _ _ (w5.drewN 1)
        go_wp2_with fail
        go_roundw
        case rel => exact ⟨k + 1, fb, by go_num, rfl, by omega, by unfold Hid; rw [hfit.out]; have := hob.out; cases fb <;> simp_all, by rw [hset.out, ← set_i64s]; exact (hq5.drewN 1).set_ i _, (hfr5.drewN 1).set (p := ⟨q, _, none⟩) (fun _ => rfl) _⟩
        case measure => simp [intOf]; omega
      | false =>
        go_wp2_with fail
        go_still_tail 8, (by kernel_rfl)
        change wpList _ _ _ _ _ (wr.drewN 1)
        go_wp2_with fail
        go_roundw
        case rel => exact ⟨k + 1, false, by go_num, rfl, by omega, by unfold Hid; rw [hfit.out]; have := hob.out; simp_all, by rw [hset.out, ← set_i64s]; exact (hqk.drewN 1).set_ i _, (hfr.drewN 1).set (p := ⟨q, _, none⟩) (fun _ => rfl) _⟩
        case measure => simp [intOf]; omega
    · have hkI : k = I.length := by omega
      subst hkI
      rw [List.take_length] at hob hqk
      obtain ⟨b1, hb1⟩ : ∃ b1, b1 = setAt b0 l I := ⟨_, rfl⟩
      have b1_len : b1.length = 12 := by rw [hb1, setAt_len, b0_len]
      rw [← hb1] at hqk
      have Hb1 := Lib.hid hb1
      have hq4 := hqk
      have hfr4 := hfr
      have Hob1 := hob
      obtain ⟨o1, ho1⟩ : ∃ o1, o1 = ob := ⟨_, rfl⟩
      subst ho1
      clear hb1 hqk hfr hob
      go_wp2_with fail
      go_loopw [6, 12, 13, 53] (fun isv _ _ iv wr => ∃ (k : Nat) (ob : Bool), iv = .int .i64 k ∧ isv = .bool ob ∧ k ≤ Wd.length ∧ Hid (ob = (o1 && fitsB 4611686018427387904 (valsAt l (Wd.take k)))) ∧ Blk wr q 46 (i64s (setAt b1 l (Wd.take k))).toArray ∧ Frm (· = q) w3 wr) (fun _ _ _ iv _ => Wd.length - (intOf iv).toNat)
      case atStart => exact ⟨0, o1, rfl, rfl, Nat.zero_le _, by unfold Hid; simp [valsAt, fitsB], by simpa [setAt] using hq4, hfr4⟩
      case round =>
        obtain ⟨k, ob, rfl, rfl, hk, hob, hqk, hfr⟩ := hrel
        by_cases hlt : k < Wd.length
        · have hi : Wd[k]? = some Wd[k] := List.getElem?_eq_getElem hlt
          generalize Wd[k] = i at hi
          have hi12 : i < 12 := I2.out i (List.mem_of_getElem? hi)
          obtain ⟨ba, oa, hA, hFa, hla, hca⟩ := ptr_at (r2.frm hfr (fun b hb e => by omega)) hi
          obtain ⟨bb, ob2, hB, hFb, hlb, hcb⟩ := ptr_at (r4.frm hfr (fun b hb e => by omega)) hi
          subst hA
          subst hB
          have hpk := hp3.frm hfr (show ¬ w.heap.size = q by omega)
          have hcx := i64s_cell hpk (by rw [Hll.out]; exact hi12)
          have hcq := i64s_cell (i := i) hqk (by rw [setAt_len, b1_len]; exact hi12)
          have hset := Lib.hid (setAt_take (b := b1) (l := l) hi)
          have hfit := Lib.hid (fits_take (g := 4611686018427387904) (l := l) hi)
          generalize hx : l.getD i 0 = x at hcx hset hfit
          generalize hy : (setAt b1 l (Wd.take k)).getD i 0 = y at hcq
          have hfq := hqk.frozen i
          clear hx hy hi
          cases ob with
          | true =>
            go_wp2_with fail
            refine (fits_one 4611686018427387904 x wr _ _).mono ?_
            rintro e w5 ⟨rfl, hw5⟩
            have hfr5 : Frm (· = q) w3 w5 := by rw [hw5]; exact hfr.alloc _
            have hq5 : Blk w5 q 46 (i64s (setAt b1 l (Wd.take k))).toArray := by rw [hw5]; exact hqk.alloc _
            have d1 : w5.cell? ⟨ba, oa + k, none⟩ = some (.pointer (some ⟨w.heap.size, i, none⟩)) := by rw [hw5]; exact (World.cell?_alloc_lt wr _ _ hla).trans hca
            have d2 : w5.cell? ⟨bb, ob2 + k, none⟩ = some (.pointer (some ⟨q, i, none⟩)) := by rw [hw5]; exact (World.cell?_alloc_lt wr _ _ hlb).trans hcb
            have d3 : w5.cell? ⟨w.heap.size, i, none⟩ = some (.int .i64 x) := by rw [hw5]; exact (World.cell?_alloc_lt wr _ _ hpk.lt).trans hcx
            have d4 : w5.cell? ⟨q, i, none⟩ = some (.int .i64 y) := by rw [hw5]; exact (World.cell?_alloc_lt wr _ _ hqk.lt).trans hcq
            have d5 := hq5.frozen i
            clear hw5
            generalize hf : fitsB 4611686018427387904 [x] = fb at *
            go_wp2_with fail
            go_still_tail 8, (by kernel_rfl)
            change wpList _ _ _ _ _ (w5.drewN 1)
            go_wp2_with fail
            go_roundw
            case rel => exact ⟨k + 1, fb, by go_num, rfl, by omega, by unfold Hid; rw [hfit.out]; have := hob.out; cases fb <;> simp_all, by rw [hset.out, ← set_i64s]; exact (hq5.drewN 1).set_ i _, (hfr5.drewN 1).set (p := ⟨q, _, none⟩) (fun _ => rfl) _⟩
            case measure => simp [intOf]; omega
          | false =>
            go_wp2_with fail
            go_still_tail 8, (by kernel_rfl)
            change wpList _ _ _ _ _ (wr.drewN 1)
            go_wp2_with fail
            go_roundw
            case rel => exact ⟨k + 1, false, by go_num, rfl, by omega, by unfold Hid; rw [hfit.out]; have := hob.out; simp_all, by rw [hset.out, ← set_i64s]; exact (hqk.drewN 1).set_ i _, (hfr.drewN 1).set (p := ⟨q, _, none⟩) (fun _ => rfl) _⟩
            case measure => simp [intOf]; omega
        · have hkW : k = Wd.length := by omega
          subst hkW
          rw [List.take_length] at hob hqk
          obtain ⟨b2, hb2⟩ : ∃ b2, b2 = setAt b1 l Wd := ⟨_, rfl⟩
          have b2_len : b2.length = 12 := by rw [hb2, setAt_len, b1_len]
          rw [← hb2] at hqk
          have hfin : Hid (evRight l = (ob && decide (b2 = l))) := by
            unfold Hid evRight
            rw [H0.out, HE.out, hob.out, Hob1.out, hb2, Hb1.out, Hb0.out]
          clear hb2
          have hbel : Below w.heap.size w wr := below_frm b03 hfr (Nat.le_refl _) (fun b hb e => by omega)
          have hpE : Blk wr w.heap.size 46 #[.int .i64 a0, .int .i64 a1, .int .i64 a2, .int .i64 a3, .int .i64 a4, .int .i64 a5, .int .i64 a6, .int .i64 a7, .int .i64 a8, .int .i64 a9, .int .i64 a10, .int .i64 a11] := by rw [Hpl.out]; exact hp3.frm hfr (show ¬ w.heap.size = q by omega)
          obtain ⟨y0, y1, y2, y3, y4, y5, y6, y7, y8, y9, y10, y11, hys⟩ : ∃ y0 y1 y2 y3 y4 y5 y6 y7 y8 y9 y10 y11, b2 = [y0, y1, y2, y3, y4, y5, y6, y7, y8, y9, y10, y11] := by
            match b2, b2_len with
            | [y0, y1, y2, y3, y4, y5, y6, y7, y8, y9, y10, y11], _ => exact ⟨_, _, _, _, _, _, _, _, _, _, _, _, rfl⟩
          have hqE : Blk wr q 46 #[.int .i64 y0, .int .i64 y1, .int .i64 y2, .int .i64 y3, .int .i64 y4, .int .i64 y5, .int .i64 y6, .int .i64 y7, .int .i64 y8, .int .i64 y9, .int .i64 y10, .int .i64 y11] := by rw [hys] at hqk; exact hqk
          cases ob with
          | true =>
            have pc0 : wr.cell? ⟨w.heap.size, 0, none⟩ = some (.int .i64 a0) := hpE.cell 0
            have qc0 : wr.cell? ⟨q, 0, none⟩ = some (.int .i64 y0) := hqE.cell 0
            have pc1 : wr.cell? ⟨w.heap.size, 1, none⟩ = some (.int .i64 a1) := hpE.cell 1
            have qc1 : wr.cell? ⟨q, 1, none⟩ = some (.int .i64 y1) := hqE.cell 1
            have pc2 : wr.cell? ⟨w.heap.size, 2, none⟩ = some (.int .i64 a2) := hpE.cell 2
            have qc2 : wr.cell? ⟨q, 2, none⟩ = some (.int .i64 y2) := hqE.cell 2
            have pc3 : wr.cell? ⟨w.heap.size, 3, none⟩ = some (.int .i64 a3) := hpE.cell 3
            have qc3 : wr.cell? ⟨q, 3, none⟩ = some (.int .i64 y3) := hqE.cell 3
            have pc4 : wr.cell? ⟨w.heap.size, 4, none⟩ = some (.int .i64 a4) := hpE.cell 4
            have qc4 : wr.cell? ⟨q, 4, none⟩ = some (.int .i64 y4) := hqE.cell 4
            have pc5 : wr.cell? ⟨w.heap.size, 5, none⟩ = some (.int .i64 a5) := hpE.cell 5
            have qc5 : wr.cell? ⟨q, 5, none⟩ = some (.int .i64 y5) := hqE.cell 5
            have pc6 : wr.cell? ⟨w.heap.size, 6, none⟩ = some (.int .i64 a6) := hpE.cell 6
            have qc6 : wr.cell? ⟨q, 6, none⟩ = some (.int .i64 y6) := hqE.cell 6
            have pc7 : wr.cell? ⟨w.heap.size, 7, none⟩ = some (.int .i64 a7) := hpE.cell 7
            have qc7 : wr.cell? ⟨q, 7, none⟩ = some (.int .i64 y7) := hqE.cell 7
            have pc8 : wr.cell? ⟨w.heap.size, 8, none⟩ = some (.int .i64 a8) := hpE.cell 8
            have qc8 : wr.cell? ⟨q, 8, none⟩ = some (.int .i64 y8) := hqE.cell 8
            have pc9 : wr.cell? ⟨w.heap.size, 9, none⟩ = some (.int .i64 a9) := hpE.cell 9
            have qc9 : wr.cell? ⟨q, 9, none⟩ = some (.int .i64 y9) := hqE.cell 9
            have pc10 : wr.cell? ⟨w.heap.size, 10, none⟩ = some (.int .i64 a10) := hpE.cell 10
            have qc10 : wr.cell? ⟨q, 10, none⟩ = some (.int .i64 y10) := hqE.cell 10
            have pc11 : wr.cell? ⟨w.heap.size, 11, none⟩ = some (.int .i64 a11) := hpE.cell 11
            have qc11 : wr.cell? ⟨q, 11, none⟩ = some (.int .i64 y11) := hqE.cell 11
            have hev := fun W => run_eql_ev y0 y1 y2 y3 y4 y5 y6 y7 y8 y9 y10 y11 a0 a1 a2 a3 a4 a5 a6 a7 a8 a9 a10 a11 W
            rw [← Hl.out, ← hys] at hev
            have Hys := Lib.hid hys
            clear hys
            go_wp2_with fail
            go_ret
            rw [hfin.out]
            exact ⟨ret1 (congrArg Value.bool (Bool.true_and _).symm), hbel⟩
          | false =>
            go_wp2_with fail
            go_ret
            rw [hfin.out]
            exact ⟨rfl, hbel⟩
end Go.Proofs.Ytggoigdlggenfaa
