/- The walk of the law of package event: how events and answers are packed. -/
import Derived.Test.YtggoigdlggenfaaEvI
import Derived.Test.YtggoigdlggenfaaLawC1
import Derived.Deep.QuietTactic
namespace Go.Proofs.Ytggoigdlggenfaa
open Go.RowKit Go.Proofs.Ytggoigdlggenfaa.Plain

theorem byt_encs (l : List Int) : Byt (encs l) := by
  induction l with
  | nil => intro y hy; cases hy
  | cons x l ih =>
    have e : encs (x :: l) = encI (x % 18446744073709551616) ++ encs l := by simp [encs]
    rw [e]
    exact byt_app (byt_encI _) ih
theorem byt_seven : Byt [7] := by intro y hy; rw [List.mem_singleton.1 hy]; omega
theorem byt_if {b : Bool} {l : List Int} (h : Byt l) : Byt (if b = true then l else []) := by
  cases b with
  | true => simpa using h
  | false => intro y hy; simp at hy
theorem byt_evPack (l : List Int) : Byt (evPack l) := by
  unfold evPack
  exact byt_app (byt_app (byt_app byt_seven (byt_encI _)) (byt_encs _)) (byt_encs _)
theorem byt_ansPack (e v p d c x y : Int) : Byt (ansPack e v p d c x y) := by
  unfold ansPack
  refine byt_app (byt_app byt_seven (byt_encs _)) ?_
  split
  · exact byt_encs _
  · intro y hy; cases hy

theorem ev_cells {w : World} {p : Nat} {t : TypeId} {a0 a1 a2 a3 a4 a5 a6 a7 a8 a9 a10 a11 : Int} (h : Blk w p t #[.int .i64 a0, .int .i64 a1, .int .i64 a2, .int .i64 a3, .int .i64 a4, .int .i64 a5, .int .i64 a6, .int .i64 a7, .int .i64 a8, .int .i64 a9, .int .i64 a10, .int .i64 a11]) :
    w.cell? ⟨p, 0, none⟩ = some (.int .i64 a0) ∧ w.cell? ⟨p, 1, none⟩ = some (.int .i64 a1) ∧ w.cell? ⟨p, 2, none⟩ = some (.int .i64 a2) ∧ w.cell? ⟨p, 3, none⟩ = some (.int .i64 a3) ∧ w.cell? ⟨p, 4, none⟩ = some (.int .i64 a4) ∧ w.cell? ⟨p, 5, none⟩ = some (.int .i64 a5) ∧ w.cell? ⟨p, 6, none⟩ = some (.int .i64 a6) ∧ w.cell? ⟨p, 7, none⟩ = some (.int .i64 a7) ∧ w.cell? ⟨p, 8, none⟩ = some (.int .i64 a8) ∧ w.cell? ⟨p, 9, none⟩ = some (.int .i64 a9) ∧ w.cell? ⟨p, 10, none⟩ = some (.int .i64 a10) ∧ w.cell? ⟨p, 11, none⟩ = some (.int .i64 a11) :=
  ⟨h.cell 0, h.cell 1, h.cell 2, h.cell 3, h.cell 4, h.cell 5, h.cell 6, h.cell 7, h.cell 8, h.cell 9, h.cell 10, h.cell 11⟩

theorem tick300 : evPack [5, 0, 0, 0, 0, 300, 0, 0, 0, 0, 0, 0] = [7, 5, 172, 2] := by
  unfold evPack
  rw [show evIdx (([5, 0, 0, 0, 0, 300, 0, 0, 0, 0, 0, 0] : List Int).getD 0 0) = ([], [5], true) from rfl]
  rw [show valsAt [5, 0, 0, 0, 0, 300, 0, 0, 0, 0, 0, 0] [5] = [300] from rfl, show valsAt [5, 0, 0, 0, 0, 300, 0, 0, 0, 0, 0, 0] [] = [] from rfl]
  rw [encs_one, encs_nil, show (300 : Int) % 18446744073709551616 = 300 from rfl, enc300]
  rw [show (([5, 0, 0, 0, 0, 300, 0, 0, 0, 0, 0, 0] : List Int).getD 0 0 % 18446744073709551616) = 5 from rfl, encI_lo (by omega) (by omega)]
  rfl
theorem right300 : evRight [5, 0, 0, 0, 0, 300, 0, 0, 0, 0, 0, 0] = true := by decide

set_option maxHeartbeats 400000 in
theorem awake27_any (w : World) : Calls Try.prog 33 #[] w fun e w' => e = .returned (.bool true) ∧ Below w.heap.size w w' := by
  have HN := fun W => Lib.hid (evpack_any 5 0 0 0 0 300 0 0 0 0 0 0 W)
  rw [right300, tick300] at HN
  go_enter Try.func33, Try.ntmps33
  go_wp2_with fail
  refine (HN _).out.mono ?_
  rintro e w1 ⟨v, rfl, h1, h2⟩
  obtain ⟨A, c, rfl, hc, hr⟩ := OwnB.reads (l := [7, 5, 172, 2]) h1
  obtain ⟨b, off, rfl, hb2⟩ := same_cell (k := 2) hr (by decide)
  have hb : w1.cell? ⟨b, off + 2, none⟩ = some (.int .u8 172) := hb2
  clear hb2 HN
  go_wp2_with fail
  go_ret
  exact ⟨rfl, h2⟩

set_option maxHeartbeats 4000000 in
set_option maxRecDepth 100000 in
theorem EventPacks_walk (a0 a1 a2 a3 a4 a5 a6 a7 a8 a9 a10 a11 e v p d c x y : Int) (w : World) :
    Calls Try.prog 7 #[.agg #[.int .i64 a0, .int .i64 a1, .int .i64 a2, .int .i64 a3, .int .i64 a4, .int .i64 a5, .int .i64 a6, .int .i64 a7, .int .i64 a8, .int .i64 a9, .int .i64 a10, .int .i64 a11], .agg #[.int .i64 e, .int .i64 v, .int .i64 p, .int .i64 d, .int .i64 c, .int .i64 x, .int .i64 y]] w fun e w' => e = .returned (.bool true) ∧ Below w.heap.size w w' := by
  have HR1 := fun W => Lib.hid (evright_any a0 a1 a2 a3 a4 a5 a6 a7 a8 a9 a10 a11 W)
  have HR2 := fun W => Lib.hid (refright_any a0 a1 a2 a3 a4 a5 a6 a7 a8 a9 a10 a11 W)
  have HP1 := fun W => Lib.hid (evpack_any a0 a1 a2 a3 a4 a5 a6 a7 a8 a9 a10 a11 W)
  have HP2 := fun W => Lib.hid (refpack_any a0 a1 a2 a3 a4 a5 a6 a7 a8 a9 a10 a11 W)
  have HA1 := fun W => Lib.hid (anspack_any e v p d c x y W)
  have HA2 := fun W => Lib.hid (refanspack_any e v p d c x y W)
  have by1 : Byt (if evRight [a0, a1, a2, a3, a4, a5, a6, a7, a8, a9, a10, a11] = true then evPack [a0, a1, a2, a3, a4, a5, a6, a7, a8, a9, a10, a11] else []) := byt_if (byt_evPack _)
  have by2 : Byt (if ansRight e v p d c x y = true then ansPack e v p d c x y else []) := byt_if (byt_ansPack _ _ _ _ _ _ _)
  have hp0 := Blk.new w 46 #[.int .i64 a0, .int .i64 a1, .int .i64 a2, .int .i64 a3, .int .i64 a4, .int .i64 a5, .int .i64 a6, .int .i64 a7, .int .i64 a8, .int .i64 a9, .int .i64 a10, .int .i64 a11]
  have hq0 := Blk.new (w.alloc (.cells #[.int .i64 a0, .int .i64 a1, .int .i64 a2, .int .i64 a3, .int .i64 a4, .int .i64 a5, .int .i64 a6, .int .i64 a7, .int .i64 a8, .int .i64 a9, .int .i64 a10, .int .i64 a11] 46)) 50 #[.int .i64 e, .int .i64 v, .int .i64 p, .int .i64 d, .int .i64 c, .int .i64 x, .int .i64 y]
  have e1 : (w.alloc (.cells #[.int .i64 a0, .int .i64 a1, .int .i64 a2, .int .i64 a3, .int .i64 a4, .int .i64 a5, .int .i64 a6, .int .i64 a7, .int .i64 a8, .int .i64 a9, .int .i64 a10, .int .i64 a11] 46)).heap.size = w.heap.size + 1 := by simp
  rw [e1] at hq0
  generalize hx1 : (if evRight [a0, a1, a2, a3, a4, a5, a6, a7, a8, a9, a10, a11] = true then evPack [a0, a1, a2, a3, a4, a5, a6, a7, a8, a9, a10, a11] else []) = L1 at *
  generalize hx2 : (if ansRight e v p d c x y = true then ansPack e v p d c x y else []) = L2 at *
  generalize hx3 : (if evRight [a0, a1, a2, a3, a4, a5, a6, a7, a8, a9, a10, a11] = true then (0 : Int) else 10) = E1 at *
  generalize hx4 : (if ansRight e v p d c x y = true then (0 : Int) else 10) = E2 at *
  generalize hx5 : evRight [a0, a1, a2, a3, a4, a5, a6, a7, a8, a9, a10, a11] = R1 at *
  have BY1 := Lib.hid by1
  have BY2 := Lib.hid by2
  clear hx1 hx2 hx3 hx4 hx5 by1 by2 e1
  go_enter Try.func7, Try.ntmps7
  go_wp2_with fail
  refine (HP1 _).out.mono ?_
  rintro r w1 ⟨v1, rfl, o1, b1⟩
  have hp1 := (hp0.alloc _).below b1 (by simp; omega)
  have hq1 := hq0.below b1 (by simp)
  have b01 := bt (two_below w 0 _ _) b1
  have c1 := Lib.hid (ev_cells hp1)
  clear hp0 hq0 b1
  obtain ⟨X1, k1, rfl, _, n1⟩ := o1.reads
  have ⟨p0, p1, p2, p3, p4, p5, p6, p7, p8, p9, p10, p11⟩ := c1.out
  go_wp2_with fail
  refine (HP2 _).out.mono ?_
  rintro r w2 ⟨v2, rfl, o2, b2⟩
  have hq2 := hq1.below b2 hq1.lt
  have hp2 := hp1.below b2 hp1.lt
  have b02 := bt b01 b2
  obtain ⟨X2, k2, rfl, _, n2⟩ := o2.reads
  have n1b := n1.below b2
  have q0 := hq2.cell 0
  have q1 := hq2.cell 1
  have q2 := hq2.cell 2
  have q3 := hq2.cell 3
  have q4 := hq2.cell 4
  have q5 := hq2.cell 5
  have q6 := hq2.cell 6
  go_wp2_with fail
  refine (HA1 _).out.mono ?_
  rintro r w3 ⟨v3, rfl, o3, b3⟩
  have hq3 := hq2.below b3 hq2.lt
  have hp3 := hp2.below b3 hp2.lt
  have b03 := bt b02 b3
  obtain ⟨X3, k3, rfl, _, n3⟩ := o3.reads
  have r0 := hq3.cell 0
  have r1 := hq3.cell 1
  have r2 := hq3.cell 2
  have r3 := hq3.cell 3
  have r4 := hq3.cell 4
  have r5 := hq3.cell 5
  have r6 := hq3.cell 6
  go_wp2_with fail
  refine (HA2 _).out.mono ?_
  rintro r w4 ⟨v4, rfl, o4, b4⟩
  have hp4 := hp3.below b4 hp3.lt
  have b04 := bt b03 b4
  obtain ⟨X4, k4, rfl, _, n4⟩ := o4.reads
  have m1 := (n1b.below b3).below b4
  have m2 := (n2.below b3).below b4
  have m3 := n3.below b4
  go_wp2_with fail
  have Hp4 := Lib.hid (ev_cells hp4)
  clear c1 n1 n1b n2 n3 q0 q1 q2 q3 q4 q5 q6 r0 r1 r2 r3 r4 r5 r6 p0 p1 p2 p3 p4 p5 p6 p7 p8 p9 p10 p11 hp1 hp2 hp3 hq1 hq2 hq3 b01 b02 b03 b2 b3 b4
  go_region_held3 (fun W => W.cell? ⟨w.heap.size, 0, none⟩ = some (.int .i64 a0) ∧ W.cell? ⟨w.heap.size, 1, none⟩ = some (.int .i64 a1) ∧ W.cell? ⟨w.heap.size, 2, none⟩ = some (.int .i64 a2) ∧ W.cell? ⟨w.heap.size, 3, none⟩ = some (.int .i64 a3) ∧ W.cell? ⟨w.heap.size, 4, none⟩ = some (.int .i64 a4) ∧ W.cell? ⟨w.heap.size, 5, none⟩ = some (.int .i64 a5) ∧ W.cell? ⟨w.heap.size, 6, none⟩ = some (.int .i64 a6) ∧ W.cell? ⟨w.heap.size, 7, none⟩ = some (.int .i64 a7) ∧ W.cell? ⟨w.heap.size, 8, none⟩ = some (.int .i64 a8) ∧ W.cell? ⟨w.heap.size, 9, none⟩ = some (.int .i64 a9) ∧ W.cell? ⟨w.heap.size, 10, none⟩ = some (.int .i64 a10) ∧ W.cell? ⟨w.heap.size, 11, none⟩ = some (.int .i64 a11)) (first | exact Hp4.out | exact ev_cells (by assumption)) (first
    | (go_at_call 33; refine (awake27_any _).mono ?_; rintro r w5 ⟨rfl, b5⟩; have hp5 := (hp4.drewN 1).below b5 hp4.lt; have b05 := bt (below_drewN b04 1) b5; have i1 := (m1.drewN 1).below b5; have i2 := (m2.drewN 1).below b5; have i3 := (m3.drewN 1).below b5; have i4 := (n4.drewN 1).below b5)
    | (go_at_call_of 18 X1; refine (bytes_any _ _ _ _ _ _ L1 L1 _ i1 i2 BY1.out BY1.out).mono ?_; rintro r w6 ⟨rfl, rfl⟩; rw [decide_eq_true rfl])
    | (go_at_call_of 18 X3; refine (bytes_any _ _ _ _ _ _ L2 L2 _ i3 i4 BY2.out BY2.out).mono ?_; rintro r w6 ⟨rfl, rfl⟩; rw [decide_eq_true rfl])
    | (go_at_call 34; refine (HR1 _).out.mono ?_; rintro r w7 ⟨rfl, b7⟩; first | (have hp7 := hp8.below b7 hp8.lt; have b07 := bt b08 b7) | (have hp7 := hp5.below b7 hp5.lt; have b07 := bt b05 b7))
    | (go_at_call 35; refine (HR2 _).out.mono ?_; rintro r w8 ⟨rfl, b8⟩; first | (have hp8 := hp7.below b8 hp7.lt; have b08 := bt b07 b8) | (have hp8 := hp5.below b8 hp5.lt; have b08 := bt b05 b8)))
  all_goals go_wp2_with fail
  all_goals go_ret
  all_goals first | exact ⟨rfl, b08⟩ | exact ⟨rfl, b07⟩
end Go.Proofs.Ytggoigdlggenfaa
