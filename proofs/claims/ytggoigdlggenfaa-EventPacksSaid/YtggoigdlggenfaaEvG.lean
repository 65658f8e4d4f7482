/- What the reference of package event does: whether an event may be. -/
import Derived.Test.YtggoigdlggenfaaEvF
namespace Go.Proofs.Ytggoigdlggenfaa
open Go.RowKit Go.Proofs.Ytggoigdlggenfaa.Plain

/-- May an event be, in the reference's words? -/
def refRight (a0 a1 a2 a3 a4 a5 a6 a7 a8 a9 a10 a11 : Int) : Bool :=
  fitsB 2147483647 [a1, a2, a3, a6, a7, a8, a9] && (fitsB 4611686018427387904 [a4, a5, a10, a11] && (
    if a0 = 1 then decide ([a0, a1, a2, a3, a4, a5, a6, a7, a8, a9, a10, a11] = [a0, a1, a2, a3, a4, 0, 0, 0, 0, 0, 0, 0])
    else if a0 = 2 then decide ([a0, a1, a2, a3, a4, a5, a6, a7, a8, a9, a10, a11] = [a0, a1, 0, 0, 0, 0, 0, 0, 0, 0, 0, 0])
    else if a0 = 4 then decide ([a0, a1, a2, a3, a4, a5, a6, a7, a8, a9, a10, a11] = [a0, a1, 0, 0, 0, 0, 0, 0, 0, 0, 0, 0])
    else if a0 = 5 then decide ([a0, a1, a2, a3, a4, a5, a6, a7, a8, a9, a10, a11] = [a0, 0, 0, 0, 0, a5, 0, 0, 0, 0, 0, 0])
    else if a0 = 3 then decide ([a0, a1, a2, a3, a4, a5, a6, a7, a8, a9, a10, a11] = [a0, 0, 0, 0, 0, 0, a6, a7, a8, a9, a10, a11])
    else false))

theorem fitsB_cons (g x : Int) (l : List Int) : fitsB g (x :: l) = (decide (0 ≤ x ∧ x ≤ g) && fitsB g l) := rfl
theorem fitsB_nil (g : Int) : fitsB g [] = true := rfl

set_option maxHeartbeats 1000000 in
theorem refRight_eq (a0 a1 a2 a3 a4 a5 a6 a7 a8 a9 a10 a11 : Int) : refRight a0 a1 a2 a3 a4 a5 a6 a7 a8 a9 a10 a11 = evRight [a0, a1, a2, a3, a4, a5, a6, a7, a8, a9, a10, a11] := by
  unfold refRight evRight
  rw [show (([a0, a1, a2, a3, a4, a5, a6, a7, a8, a9, a10, a11] : List Int).getD 0 0) = a0 from rfl]
  by_cases k1 : a0 = 1
  · subst k1
    simp [evIdx, valsAt, setAt, bare0, List.replicate, fitsB_cons, fitsB_nil]
    rw [Bool.eq_iff_iff]
    simp only [Bool.and_eq_true, decide_eq_true_eq]
    constructor <;> (intro h; omega)
  by_cases k2 : a0 = 2
  · subst k2
    simp [evIdx, valsAt, setAt, bare0, List.replicate, fitsB_cons, fitsB_nil]
    rw [Bool.eq_iff_iff]
    simp only [Bool.and_eq_true, decide_eq_true_eq]
    constructor <;> (intro h; omega)
  by_cases k4 : a0 = 4
  · subst k4
    simp [evIdx, valsAt, setAt, bare0, List.replicate, fitsB_cons, fitsB_nil]
    rw [Bool.eq_iff_iff]
    simp only [Bool.and_eq_true, decide_eq_true_eq]
    constructor <;> (intro h; omega)
  by_cases k5 : a0 = 5
  · subst k5
    simp [evIdx, valsAt, setAt, bare0, List.replicate, fitsB_cons, fitsB_nil]
    rw [Bool.eq_iff_iff]
    simp only [Bool.and_eq_true, decide_eq_true_eq]
    constructor <;> (intro h; omega)
  by_cases k3 : a0 = 3
  · subst k3
    simp [evIdx, valsAt, setAt, bare0, List.replicate, fitsB_cons, fitsB_nil]
    rw [Bool.eq_iff_iff]
    simp only [Bool.and_eq_true, decide_eq_true_eq]
    constructor <;> (intro h; omega)
  · simp [evIdx, k1, k2, k3, k4, k5]

set_option maxHeartbeats 2000000 in
set_option maxRecDepth 100000 in
theorem refright_any (a0 a1 a2 a3 a4 a5 a6 a7 a8 a9 a10 a11 : Int) (w : World) :
    Calls Try.prog 35 #[.agg #[.int .i64 a0, .int .i64 a1, .int .i64 a2, .int .i64 a3, .int .i64 a4, .int .i64 a5, .int .i64 a6, .int .i64 a7, .int .i64 a8, .int .i64 a9, .int .i64 a10, .int .i64 a11]] w fun e w' => e = .returned (.bool (evRight [a0, a1, a2, a3, a4, a5, a6, a7, a8, a9, a10, a11])) ∧ Below w.heap.size w w' := by
  rw [← refRight_eq]
  obtain ⟨s1, hs1⟩ : ∃ l, l = [a1, a2, a3, a6, a7, a8, a9] := ⟨_, rfl⟩
  obtain ⟨s2, hs2⟩ : ∃ l, l = [a4, a5, a10, a11] := ⟨_, rfl⟩
  have hc1 := fun W t c b (hb : b = W.heap.size) => reffits_b 2147483647 [a1, a2, a3, a6, a7, a8, a9] W t c b 7 hb rfl (by simp)
  have hc2 := fun W t c b (hb : b = W.heap.size) => reffits_b 4611686018427387904 [a4, a5, a10, a11] W t c b 4 hb rfl (by simp)
  have hfin : Hid (refRight a0 a1 a2 a3 a4 a5 a6 a7 a8 a9 a10 a11 = refRight a0 a1 a2 a3 a4 a5 a6 a7 a8 a9 a10 a11) := rfl
  generalize hf1 : fitsB 2147483647 [a1, a2, a3, a6, a7, a8, a9] = f1 at hc1
  generalize hf2 : fitsB 4611686018427387904 [a4, a5, a10, a11] = f2 at hc2
  have Hf1 := Lib.hid hf1
  have Hf2 := Lib.hid hf2
  clear hf1 hf2 hs1 hs2 hfin
  have HC1 := Lib.hid hc1
  have HC2 := Lib.hid hc2
  clear hc1 hc2
  cases f1 with
  | false =>
    have hfin : Hid (refRight a0 a1 a2 a3 a4 a5 a6 a7 a8 a9 a10 a11 = false) := by unfold Hid refRight; rw [Hf1.out, Bool.false_and]
    go_enter Try.func35, Try.ntmps35
    go_wp2_with fail
    refine (HC1.out _ _ _ _ (by simp)).mono ?_
    rintro r w1 ⟨rfl, hw1⟩
    have b1 : Below w.heap.size w w1 := by rw [hw1]; exact two_below w 0 _ _
    clear hw1
    go_wp2_with fail
    go_ret
    rw [hfin.out]
    exact ⟨rfl, b1⟩
  | true =>
    cases f2 with
    | false =>
      have hfin : Hid (refRight a0 a1 a2 a3 a4 a5 a6 a7 a8 a9 a10 a11 = false) := by unfold Hid refRight; rw [Hf2.out, Bool.false_and, Bool.and_false]
      go_enter Try.func35, Try.ntmps35
      go_wp2_with fail
      refine (HC1.out _ _ _ _ (by simp)).mono ?_
      rintro r w1 ⟨rfl, rfl⟩
      go_wp2_with fail
      refine (HC2.out _ _ _ _ (by simp)).mono ?_
      rintro r w2 ⟨rfl, hw2⟩
      have b2 : Below w.heap.size w w2 := by rw [hw2]; exact (two_below w 0 _ _).alloc (by simp [World.drewN]; omega) _
      clear hw2
      go_wp2_with fail
      go_ret
      rw [hfin.out]
      exact ⟨rfl, b2⟩
    | true =>
      by_cases k1 : a0 = 1
      · subst k1
        have hfin : Hid (refRight 1 a1 a2 a3 a4 a5 a6 a7 a8 a9 a10 a11 = decide ([1, a1, a2, a3, a4, a5, a6, a7, a8, a9, a10, a11] = [1, a1, a2, a3, a4, 0, 0, 0, 0, 0, 0, 0])) := by unfold Hid refRight; rw [Hf1.out, Hf2.out]; rfl
        have hev := fun W => run_eql_ev 1 a1 a2 a3 a4 a5 a6 a7 a8 a9 a10 a11 1 a1 a2 a3 a4 0 0 0 0 0 0 0 W
        generalize hz : decide ([1, a1, a2, a3, a4, a5, a6, a7, a8, a9, a10, a11] = [1, a1, a2, a3, a4, 0, 0, 0, 0, 0, 0, 0]) = z at hev hfin
        clear hz
        go_enter Try.func35, Try.ntmps35
        go_wp2_with fail
        refine (HC1.out _ _ _ _ (by simp)).mono ?_
        rintro r w1 ⟨rfl, rfl⟩
        go_wp2_with fail
        refine (HC2.out _ _ _ _ (by simp)).mono ?_
        rintro r w2 ⟨rfl, rfl⟩
        go_wp2_with fail
        go_ret
        rw [hfin.out]
        exact ⟨rfl, (two_below w 0 _ _).alloc (by simp [World.drewN]; omega) _⟩
      by_cases k2 : a0 = 2
      · subst k2
        have hfin : Hid (refRight 2 a1 a2 a3 a4 a5 a6 a7 a8 a9 a10 a11 = decide ([2, a1, a2, a3, a4, a5, a6, a7, a8, a9, a10, a11] = [2, a1, 0, 0, 0, 0, 0, 0, 0, 0, 0, 0])) := by unfold Hid refRight; rw [Hf1.out, Hf2.out]; rfl
        have hev := fun W => run_eql_ev 2 a1 a2 a3 a4 a5 a6 a7 a8 a9 a10 a11 2 a1 0 0 0 0 0 0 0 0 0 0 W
        generalize hz : decide ([2, a1, a2, a3, a4, a5, a6, a7, a8, a9, a10, a11] = [2, a1, 0, 0, 0, 0, 0, 0, 0, 0, 0, 0]) = z at hev hfin
        clear hz
        go_enter Try.func35, Try.ntmps35
        go_wp2_with fail
        refine (HC1.out _ _ _ _ (by simp)).mono ?_
        rintro r w1 ⟨rfl, rfl⟩
        go_wp2_with fail
        refine (HC2.out _ _ _ _ (by simp)).mono ?_
        rintro r w2 ⟨rfl, rfl⟩
        go_wp2_with fail
        go_ret
        rw [hfin.out]
        exact ⟨rfl, (two_below w 0 _ _).alloc (by simp [World.drewN]; omega) _⟩
      by_cases k4 : a0 = 4
      · subst k4
        have hfin : Hid (refRight 4 a1 a2 a3 a4 a5 a6 a7 a8 a9 a10 a11 = decide ([4, a1, a2, a3, a4, a5, a6, a7, a8, a9, a10, a11] = [4, a1, 0, 0, 0, 0, 0, 0, 0, 0, 0, 0])) := by unfold Hid refRight; rw [Hf1.out, Hf2.out]; rfl
        have hev := fun W => run_eql_ev 4 a1 a2 a3 a4 a5 a6 a7 a8 a9 a10 a11 4 a1 0 0 0 0 0 0 0 0 0 0 W
        generalize hz : decide ([4, a1, a2, a3, a4, a5, a6, a7, a8, a9, a10, a11] = [4, a1, 0, 0, 0, 0, 0, 0, 0, 0, 0, 0]) = z at hev hfin
        clear hz
        go_enter Try.func35, Try.ntmps35
        go_wp2_with fail
        refine (HC1.out _ _ _ _ (by simp)).mono ?_
        rintro r w1 ⟨rfl, rfl⟩
        go_wp2_with fail
        refine (HC2.out _ _ _ _ (by simp)).mono ?_
        rintro r w2 ⟨rfl, rfl⟩
        go_wp2_with fail
        go_ret
        rw [hfin.out]
        exact ⟨rfl, (two_below w 0 _ _).alloc (by simp [World.drewN]; omega) _⟩
      by_cases k5 : a0 = 5
      · subst k5
        have hfin : Hid (refRight 5 a1 a2 a3 a4 a5 a6 a7 a8 a9 a10 a11 = decide ([5, a1, a2, a3, a4, a5, a6, a7, a8, a9, a10, a11] = [5, 0, 0, 0, 0, a5, 0, 0, 0, 0, 0, 0])) := by unfold Hid refRight; rw [Hf1.out, Hf2.out]; rfl
        have hev := fun W => run_eql_ev 5 a1 a2 a3 a4 a5 a6 a7 a8 a9 a10 a11 5 0 0 0 0 a5 0 0 0 0 0 0 W
        generalize hz : decide ([5, a1, a2, a3, a4, a5, a6, a7, a8, a9, a10, a11] = [5, 0, 0, 0, 0, a5, 0, 0, 0, 0, 0, 0]) = z at hev hfin
        clear hz
        go_enter Try.func35, Try.ntmps35
        go_wp2_with fail
        refine (HC1.out _ _ _ _ (by simp)).mono ?_
        rintro r w1 ⟨rfl, rfl⟩
        go_wp2_with fail
        refine (HC2.out _ _ _ _ (by simp)).mono ?_
        rintro r w2 ⟨rfl, rfl⟩
        go_wp2_with fail
        go_ret
        rw [hfin.out]
        exact ⟨rfl, (two_below w 0 _ _).alloc (by simp [World.drewN]; omega) _⟩
      by_cases k3 : a0 = 3
      · subst k3
        have hfin : Hid (refRight 3 a1 a2 a3 a4 a5 a6 a7 a8 a9 a10 a11 = decide ([3, a1, a2, a3, a4, a5, a6, a7, a8, a9, a10, a11] = [3, 0, 0, 0, 0, 0, a6, a7, a8, a9, a10, a11])) := by unfold Hid refRight; rw [Hf1.out, Hf2.out]; rfl
        have hev := fun W => run_eql_ev 3 a1 a2 a3 a4 a5 a6 a7 a8 a9 a10 a11 3 0 0 0 0 0 a6 a7 a8 a9 a10 a11 W
        generalize hz : decide ([3, a1, a2, a3, a4, a5, a6, a7, a8, a9, a10, a11] = [3, 0, 0, 0, 0, 0, a6, a7, a8, a9, a10, a11]) = z at hev hfin
        clear hz
        go_enter Try.func35, Try.ntmps35
        go_wp2_with fail
        refine (HC1.out _ _ _ _ (by simp)).mono ?_
        rintro r w1 ⟨rfl, rfl⟩
        go_wp2_with fail
        refine (HC2.out _ _ _ _ (by simp)).mono ?_
        rintro r w2 ⟨rfl, rfl⟩
        go_wp2_with fail
        go_ret
        rw [hfin.out]
        exact ⟨rfl, (two_below w 0 _ _).alloc (by simp [World.drewN]; omega) _⟩
      have hfin : Hid (refRight a0 a1 a2 a3 a4 a5 a6 a7 a8 a9 a10 a11 = false) := by unfold Hid refRight; rw [if_neg k1, if_neg k2, if_neg k4, if_neg k5, if_neg k3]; simp
      have e1 : (a0 == 1) = false := by simp [k1]
      have e2 : (a0 == 2) = false := by simp [k2]
      have e3 : (a0 == 3) = false := by simp [k3]
      have e4 : (a0 == 4) = false := by simp [k4]
      have e5 : (a0 == 5) = false := by simp [k5]
      clear k1 k2 k3 k4 k5
      go_enter Try.func35, Try.ntmps35
      go_wp2_with fail
      refine (HC1.out _ _ _ _ (by simp)).mono ?_
      rintro r w1 ⟨rfl, rfl⟩
      go_wp2_with fail
      refine (HC2.out _ _ _ _ (by simp)).mono ?_
      rintro r w2 ⟨rfl, rfl⟩
      go_wp2_with fail
      go_ret
      rw [hfin.out]
      exact ⟨rfl, (two_below w 0 _ _).alloc (by simp [World.drewN]; omega) _⟩
end Go.Proofs.Ytggoigdlggenfaa
