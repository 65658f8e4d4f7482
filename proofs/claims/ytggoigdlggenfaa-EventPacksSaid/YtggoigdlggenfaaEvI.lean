/- What the reference of package event does: the bytes of an answer. -/
import Derived.Test.YtggoigdlggenfaaEvH
namespace Go.Proofs.Ytggoigdlggenfaa
open Go.RowKit Go.Proofs.Ytggoigdlggenfaa.Plain

set_option maxHeartbeats 4000000 in
set_option maxRecDepth 100000 in
theorem run_neq_plan (b0 b1 b2 b3 b4 b5 a0 a1 a2 a3 a4 a5 : Int) (w : World) :
    (binOp .neq 48 (.agg #[.int .i64 b0, .int .i64 b1, .int .i64 b2, .int .i64 b3, .int .i64 b4, .int .i64 b5]) (.agg #[.int .i64 a0, .int .i64 a1, .int .i64 a2, .int .i64 a3, .int .i64 a4, .int .i64 a5])).run Try.prog w = .ok (.bool (!decide ([b0, b1, b2, b3, b4, b5] = [a0, a1, a2, a3, a4, a5]))) w := by
  by_cases h0 : b0 = a0
  case neg => simp [binOp, Op.equal, Op.maxDepth, run_equalIn_struct, Op.eqFields, go_sem, h0]
  by_cases h1 : b1 = a1
  case neg => simp [binOp, Op.equal, Op.maxDepth, run_equalIn_struct, Op.eqFields, go_sem, h1, h0]
  by_cases h2 : b2 = a2
  case neg => simp [binOp, Op.equal, Op.maxDepth, run_equalIn_struct, Op.eqFields, go_sem, h2, h0, h1]
  by_cases h3 : b3 = a3
  case neg => simp [binOp, Op.equal, Op.maxDepth, run_equalIn_struct, Op.eqFields, go_sem, h3, h0, h1, h2]
  by_cases h4 : b4 = a4
  case neg => simp [binOp, Op.equal, Op.maxDepth, run_equalIn_struct, Op.eqFields, go_sem, h4, h0, h1, h2, h3]
  by_cases h5 : b5 = a5
  case neg => simp [binOp, Op.equal, Op.maxDepth, run_equalIn_struct, Op.eqFields, go_sem, h5, h0, h1, h2, h3, h4]
  simp [binOp, Op.equal, Op.maxDepth, run_equalIn_struct, Op.eqFields, go_sem, h0, h1, h2, h3, h4, h5]

theorem ansRight_out {e : Int} (h : e < 0 ∨ 12 < e) (v p d c x y : Int) : ansRight e v p d c x y = false := by
  unfold ansRight
  rw [if_pos (by omega)]
  rcases h with h | h
  · rw [show decide (0 < e) = false by simp; omega]; rfl
  · rw [show decide (e ≤ 12) = false by simp; omega]; simp
theorem ansRight_err {e : Int} (h0 : e ≠ 0) (h1 : 0 ≤ e) (h2 : e ≤ 12) (v p d c x y : Int) : ansRight e v p d c x y = decide ([v, p, d, c, x, y] = [0, 0, 0, 0, 0, 0]) := by
  unfold ansRight
  rw [if_pos h0, show decide (0 < e) = true by simp; omega, show decide (e ≤ 12) = true by simp; omega]
  rfl

set_option maxHeartbeats 2000000 in
set_option maxRecDepth 100000 in
theorem refanspack_any (e v p d c x y : Int) (w : World) :
    Calls Try.prog 32 #[.agg #[.int .i64 e, .int .i64 v, .int .i64 p, .int .i64 d, .int .i64 c, .int .i64 x, .int .i64 y]] w fun r w' => ∃ b,
      r = .returned (.tuple #[b, .int .i64 (if ansRight e v p d c x y = true then 0 else 10)]) ∧ OwnB w' w.heap.size b (if ansRight e v p d c x y = true then ansPack e v p d c x y else []) ∧ Below w.heap.size w w' := by
  have hev := fun W => run_neq_plan v p d c x y 0 0 0 0 0 0 W
  by_cases h1 : e < 0
  · rw [ansRight_out (.inl h1)]
    go_enter Try.func32, Try.ntmps32
    go_wp2_with fail
    go_ret2
    exact ⟨_, rfl, World.ownsRow_nil _ _ _ _, two_below w 0 _ _⟩
  by_cases h2 : 12 < e
  · rw [ansRight_out (.inr h2)]
    go_enter Try.func32, Try.ntmps32
    go_wp2_with fail
    go_ret2
    exact ⟨_, rfl, World.ownsRow_nil _ _ _ _, two_below w 0 _ _⟩
  have hp0 := Blk.new w 50 #[.int .i64 e, .int .i64 v, .int .i64 p, .int .i64 d, .int .i64 c, .int .i64 x, .int .i64 y]
  have HC1 := fun W t c b (hb : b = W.heap.size) => Lib.hid (reffits_b 2147483647 [v, p, d] W t c b 3 hb rfl (by simp))
  have HC2 := fun W t k b (hb : b = W.heap.size) => Lib.hid (reffits_b 4611686018427387904 [c, x, y] W t k b 3 hb rfl (by simp))
  by_cases he : e = 0
  · subst he
    have hfin : Hid (ansRight 0 v p d c x y = (fitsB 2147483647 [v, p, d] && fitsB 4611686018427387904 [c, x, y])) := by unfold Hid ansRight; rw [if_neg (by omega)]
    have hans : Hid (ansPack 0 v p d c x y = ([7] ++ encs [0]) ++ encs [v, p, d, c, x, y]) := by unfold Hid ansPack; rw [if_pos rfl]
    clear hev
    generalize fitsB 2147483647 [v, p, d] = f1 at *
    generalize fitsB 4611686018427387904 [c, x, y] = f2 at *
    rw [hfin.out]
    cases f1 with
    | false =>
      go_enter Try.func32, Try.ntmps32
      go_wp2_with fail
      refine (HC1 _ _ _ _ (by simp)).out.mono ?_
      rintro r w1 ⟨rfl, hw1⟩
      have b1 : Below w.heap.size w w1 := by rw [hw1]; exact (two_below w 0 _ _).alloc (by simp [World.drewN]; omega) _
      clear hw1
      go_wp2_with fail
      go_ret2
      exact ⟨_, rfl, World.ownsRow_nil _ _ _ _, b1⟩
    | true =>
      cases f2 with
      | false =>
        go_enter Try.func32, Try.ntmps32
        go_wp2_with fail
        refine (HC1 _ _ _ _ (by simp)).out.mono ?_
        rintro r w1 ⟨rfl, rfl⟩
        go_wp2_with fail
        refine (HC2 _ _ _ _ (by simp)).out.mono ?_
        rintro r w2 ⟨rfl, hw2⟩
        have b1 : Below w.heap.size w w2 := by rw [hw2]; exact ((two_below w 0 _ _).alloc (by simp [World.drewN]; omega) _).alloc (by simp [World.drewN]; omega) _
        clear hw2
        go_wp2_with fail
        go_ret2
        exact ⟨_, rfl, World.ownsRow_nil _ _ _ _, b1⟩
      | true =>
        go_enter Try.func32, Try.ntmps32
        go_wp2_with fail
        refine (HC1 _ _ _ _ (by simp)).out.mono ?_
        rintro r w1 ⟨rfl, rfl⟩
        go_wp2_with fail
        refine (HC2 _ _ _ _ (by simp)).out.mono ?_
        rintro r w2 ⟨rfl, hw2⟩
        have hA : Blk w2 w.heap.size 50 #[.int .i64 0, .int .i64 v, .int .i64 p, .int .i64 d, .int .i64 c, .int .i64 x, .int .i64 y] := by rw [hw2]; exact (((hp0.alloc _).alloc _).alloc _)
        have hP : Blk w2 (w.heap.size + 1) 48 #[.int .i64 v, .int .i64 p, .int .i64 d, .int .i64 c, .int .i64 x, .int .i64 y] := by
          have k := Blk.new (w.alloc (.cells #[.int .i64 0, .int .i64 v, .int .i64 p, .int .i64 d, .int .i64 c, .int .i64 x, .int .i64 y] 50)) 48 #[.int .i64 v, .int .i64 p, .int .i64 d, .int .i64 c, .int .i64 x, .int .i64 y]
          rw [show (w.alloc (.cells #[.int .i64 0, .int .i64 v, .int .i64 p, .int .i64 d, .int .i64 c, .int .i64 x, .int .i64 y] 50)).heap.size = w.heap.size + 1 by simp] at k
          rw [hw2]
          exact (k.alloc _).alloc _
        have b02 : Below w.heap.size w w2 := by rw [hw2]; exact ((two_below w 0 _ _).alloc (by simp [World.drewN]; omega) _).alloc (by simp [World.drewN]; omega) _
        have B02 := Lib.hid b02
        have c0 : w2.cell? ⟨w.heap.size, 0, none⟩ = some (.int .i64 0) := hA.cell 0
        have hAlt : w.heap.size < w2.heap.size := hA.lt
        have hPlt : w.heap.size + 1 < w2.heap.size := hP.lt
        have ho := own_lit w2 w2.heap.size 7 (Nat.le_refl _)
        clear hw2 hp0 b02
        go_wp2_with fail
        refine (refnums_b _ w2.heap.size [7] [0] _ _ _ _ 1 (by simp) rfl ho (by simp) (by simp) (by simp)).mono ?_
        rintro r w3 ⟨v3, rfl, o3, b3⟩
        have b23 := (one_below w2 (.cells #[.int .u8 7] 5)).trans b3
        have hA3 := hA.below b23 hAlt
        have hP3 := hP.below b23 hPlt
        have q0 : w3.cell? ⟨w.heap.size, 0, none⟩ = some (.int .i64 0) := hA3.cell 0
        have q1 : w3.cell? ⟨w.heap.size + 1, 0, none⟩ = some (.int .i64 v) := hP3.cell 0
        have q2 : w3.cell? ⟨w.heap.size + 1, 1, none⟩ = some (.int .i64 p) := hP3.cell 1
        have q3 : w3.cell? ⟨w.heap.size + 1, 2, none⟩ = some (.int .i64 d) := hP3.cell 2
        have q4 : w3.cell? ⟨w.heap.size + 1, 3, none⟩ = some (.int .i64 c) := hP3.cell 3
        have q5 : w3.cell? ⟨w.heap.size + 1, 4, none⟩ = some (.int .i64 x) := hP3.cell 4
        have q6 : w3.cell? ⟨w.heap.size + 1, 5, none⟩ = some (.int .i64 y) := hP3.cell 5
        have hs23 := b23.size
        have b03 := bt B02.out b23
        generalize hL : [7] ++ encs [0] = L at o3 hans
        have hLl : L.length ≤ 20 := by
          rw [← hL, List.length_append]
          have := encs_len [0]
          simp at this
          simp; omega
        clear hL b3 hA3 hP3 hA hP c0 ho b23
        go_wp2_with fail
        refine (refnums_b _ w2.heap.size L [v, p, d, c, x, y] _ _ _ _ 6 (by simp) rfl o3 (by first | omega | (simp; omega)) (by omega) (by simp)).mono ?_
        rintro r w4 ⟨v4, rfl, o4, b4⟩
        go_wp2_with fail
        go_ret2
        rw [hans.out]
        exact ⟨_, rfl, o4.lower B02.out.size, b03.trans (b4.mono B02.out.size)⟩
  · have he1 : (e != 0) = true := by rw [bne_iff_ne]; exact he
    rw [ansRight_err he (by omega) (by omega)]
    by_cases hz : ([v, p, d, c, x, y] : List Int) = [0, 0, 0, 0, 0, 0]
    · injection hz with z1 hz; injection hz with z2 hz; injection hz with z3 hz; injection hz with z4 hz; injection hz with z5 hz; injection hz with z6 hz
      subst z1; subst z2; subst z3; subst z4; subst z5; subst z6
      have hans : Hid (ansPack e 0 0 0 0 0 0 = [7] ++ encs [e]) := by unfold Hid ansPack; rw [if_neg he, List.append_nil]
      rw [show decide (([0, 0, 0, 0, 0, 0] : List Int) = [0, 0, 0, 0, 0, 0]) = true from rfl] at hev ⊢
      rw [show fitsB 2147483647 [0, 0, 0] = true from rfl] at HC1
      rw [show fitsB 4611686018427387904 [0, 0, 0] = true from rfl] at HC2
      go_enter Try.func32, Try.ntmps32
      go_wp2_with fail
      refine (HC1 _ _ _ _ (by simp)).out.mono ?_
      rintro r w1 ⟨rfl, rfl⟩
      go_wp2_with fail
      refine (HC2 _ _ _ _ (by simp)).out.mono ?_
      rintro r w2 ⟨rfl, hw2⟩
      have hA : Blk w2 w.heap.size 50 #[.int .i64 e, .int .i64 0, .int .i64 0, .int .i64 0, .int .i64 0, .int .i64 0, .int .i64 0] := by rw [hw2]; exact (((hp0.alloc _).alloc _).alloc _)
      have hP : Blk w2 (w.heap.size + 1) 48 #[.int .i64 0, .int .i64 0, .int .i64 0, .int .i64 0, .int .i64 0, .int .i64 0] := by
        have k := Blk.new (w.alloc (.cells #[.int .i64 e, .int .i64 0, .int .i64 0, .int .i64 0, .int .i64 0, .int .i64 0, .int .i64 0] 50)) 48 #[.int .i64 0, .int .i64 0, .int .i64 0, .int .i64 0, .int .i64 0, .int .i64 0]
        rw [show (w.alloc (.cells #[.int .i64 e, .int .i64 0, .int .i64 0, .int .i64 0, .int .i64 0, .int .i64 0, .int .i64 0] 50)).heap.size = w.heap.size + 1 by simp] at k
        rw [hw2]
        exact (k.alloc _).alloc _
      have b02 : Below w.heap.size w w2 := by rw [hw2]; exact ((two_below w 0 _ _).alloc (by simp [World.drewN]; omega) _).alloc (by simp [World.drewN]; omega) _
      have B02 := Lib.hid b02
      have c0 : w2.cell? ⟨w.heap.size, 0, none⟩ = some (.int .i64 e) := hA.cell 0
      have hAlt : w.heap.size < w2.heap.size := hA.lt
      have hPlt : w.heap.size + 1 < w2.heap.size := hP.lt
      have ho := own_lit w2 w2.heap.size 7 (Nat.le_refl _)
      clear hw2 hp0 b02
      go_wp2_with fail
      refine (refnums_b _ w2.heap.size [7] [e] _ _ _ _ 1 (by simp) rfl ho (by simp) (by simp) (by simp)).mono ?_
      rintro r w3 ⟨v3, rfl, o3, b3⟩
      have b23 := (one_below w2 (.cells #[.int .u8 7] 5)).trans b3
      have hA3 := hA.below b23 hAlt
      have hP3 := hP.below b23 hPlt
      have q0 : w3.cell? ⟨w.heap.size, 0, none⟩ = some (.int .i64 e) := hA3.cell 0
      have q1 : w3.cell? ⟨w.heap.size + 1, 0, none⟩ = some (.int .i64 0) := hP3.cell 0
      have q2 : w3.cell? ⟨w.heap.size + 1, 1, none⟩ = some (.int .i64 0) := hP3.cell 1
      have q3 : w3.cell? ⟨w.heap.size + 1, 2, none⟩ = some (.int .i64 0) := hP3.cell 2
      have q4 : w3.cell? ⟨w.heap.size + 1, 3, none⟩ = some (.int .i64 0) := hP3.cell 3
      have q5 : w3.cell? ⟨w.heap.size + 1, 4, none⟩ = some (.int .i64 0) := hP3.cell 4
      have q6 : w3.cell? ⟨w.heap.size + 1, 5, none⟩ = some (.int .i64 0) := hP3.cell 5
      have hs23 := b23.size
      have b03 := bt B02.out b23
      generalize hL : [7] ++ encs [e] = L at o3 hans
      have hLl : L.length ≤ 20 := by
        rw [← hL, List.length_append]
        have := encs_len [e]
        simp at this
        simp; omega
      clear hL b3 hA3 hP3 hA hP c0 ho b23
      go_wp2_with fail
      go_ret2
      rw [hans.out]
      exact ⟨_, rfl, o3.lower B02.out.size, b03⟩
    · rw [show decide (([v, p, d, c, x, y] : List Int) = [0, 0, 0, 0, 0, 0]) = false by rw [decide_eq_false_iff_not]; exact hz] at hev ⊢
      clear hz
      go_enter Try.func32, Try.ntmps32
      go_wp2_with fail
      go_ret2
      exact ⟨_, rfl, World.ownsRow_nil _ _ _ _, two_below w 0 _ _⟩
end Go.Proofs.Ytggoigdlggenfaa
