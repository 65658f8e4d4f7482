/- What the reference of package event does: the bytes of an event and of an answer. -/
import Derived.Test.YtggoigdlggenfaaEvG
namespace Go.Proofs.Ytggoigdlggenfaa
open Go.RowKit Go.Proofs.Ytggoigdlggenfaa.Plain

theorem encs_app (l k : List Int) : encs (l ++ k) = encs l ++ encs k := by simp [encs]
theorem encs_nil : encs [] = [] := rfl
theorem encs_one (x : Int) : encs [x] = encI (x % 18446744073709551616) := by simp [encs]

set_option maxHeartbeats 2000000 in
set_option maxRecDepth 100000 in
theorem refpack_any (a0 a1 a2 a3 a4 a5 a6 a7 a8 a9 a10 a11 : Int) (w : World) :
    Calls Try.prog 30 #[.agg #[.int .i64 a0, .int .i64 a1, .int .i64 a2, .int .i64 a3, .int .i64 a4, .int .i64 a5, .int .i64 a6, .int .i64 a7, .int .i64 a8, .int .i64 a9, .int .i64 a10, .int .i64 a11]] w fun e w' => ∃ v, e = .returned (.tuple #[v, .int .i64 (if evRight [a0, a1, a2, a3, a4, a5, a6, a7, a8, a9, a10, a11] = true then 0 else 10)]) ∧
      OwnB w' w.heap.size v (if evRight [a0, a1, a2, a3, a4, a5, a6, a7, a8, a9, a10, a11] = true then evPack [a0, a1, a2, a3, a4, a5, a6, a7, a8, a9, a10, a11] else []) ∧ Below w.heap.size w w' := by
  have hp0 := Blk.new w 46 #[.int .i64 a0, .int .i64 a1, .int .i64 a2, .int .i64 a3, .int .i64 a4, .int .i64 a5, .int .i64 a6, .int .i64 a7, .int .i64 a8, .int .i64 a9, .int .i64 a10, .int .i64 a11]
  have HR := fun W => Lib.hid (refright_any a0 a1 a2 a3 a4 a5 a6 a7 a8 a9 a10 a11 W)
  cases hrt : evRight [a0, a1, a2, a3, a4, a5, a6, a7, a8, a9, a10, a11] with
  | false =>
    rw [hrt] at HR
    clear hrt
    go_enter Try.func30, Try.ntmps30
    go_wp2_with fail
    refine (HR _).out.mono ?_
    rintro e w1 ⟨rfl, b1⟩
    go_wp2_with fail
    go_ret2
    exact ⟨_, rfl, World.ownsRow_nil _ _ _ _, bt (one_below _ _) b1⟩
  | true =>
    rw [hrt] at HR
    have hkind : a0 = 1 ∨ a0 = 2 ∨ a0 = 4 ∨ a0 = 5 ∨ a0 = 3 := by
      by_cases k1 : a0 = 1
      · omega
      by_cases k2 : a0 = 2
      · omega
      by_cases k4 : a0 = 4
      · omega
      by_cases k5 : a0 = 5
      · omega
      by_cases k3 : a0 = 3
      · omega
      · simp [evRight, evIdx, k1, k2, k3, k4, k5] at hrt
    clear hrt
    rcases hkind with rfl | rfl | rfl | rfl | rfl
    · have hfin : Hid (evPack [1, a1, a2, a3, a4, a5, a6, a7, a8, a9, a10, a11] = ([7] ++ encs [1]) ++ encs [a1, a2, a3, a4]) := by
        unfold Hid evPack
        simp [evIdx, valsAt, encs]
      go_enter Try.func30, Try.ntmps30
      go_wp2_with fail
      refine (HR _).out.mono ?_
      rintro r w1 ⟨rfl, b1⟩
      have hp1 := hp0.below b1 hp0.lt
      have b01 := bt (one_below w _) b1
      have c0 : w1.cell? ⟨w.heap.size, 0, none⟩ = some (.int .i64 1) := hp1.cell 0
      have hplt : w.heap.size < w1.heap.size := hp1.lt
      have B01 := Lib.hid b01
      have ho := own_lit w1 w1.heap.size 7 (Nat.le_refl _)
      clear hp0 b1
      go_wp2_with fail
      refine (refnums_b _ w1.heap.size [7] [1] _ _ _ _ 1 (by simp) rfl ho (by simp) (by simp) (by simp)).mono ?_
      rintro r w2 ⟨v2, rfl, o2, b2⟩
      have b12 := (one_below w1 (.cells #[.int .u8 7] 5)).trans b2
      have hp2 := hp1.below b12 hplt
      have b02 := bt b01 b12
      have q0 : w2.cell? ⟨w.heap.size, 0, none⟩ = some (.int .i64 1) := hp2.cell 0
      have q1 : w2.cell? ⟨w.heap.size, 1, none⟩ = some (.int .i64 a1) := hp2.cell 1
      have q2 : w2.cell? ⟨w.heap.size, 2, none⟩ = some (.int .i64 a2) := hp2.cell 2
      have q3 : w2.cell? ⟨w.heap.size, 3, none⟩ = some (.int .i64 a3) := hp2.cell 3
      have q4 : w2.cell? ⟨w.heap.size, 4, none⟩ = some (.int .i64 a4) := hp2.cell 4
      have hp2lt := hp2.lt
      have hs12 := b12.size
      generalize hL : [7] ++ encs [1] = L at o2 hfin
      have hLl : L.length ≤ 20 := by
        rw [← hL, List.length_append]
        have := encs_len [1]
        simp at this
        simp; omega
      clear hL b2 hp2 hp1 c0 b01 ho
      go_wp2_with fail
      refine (refnums_b _ w1.heap.size L [a1, a2, a3, a4] _ _ _ _ 4 (by simp) rfl o2 (by first | omega | (simp; omega)) (by omega) (by simp)).mono ?_
      rintro r w3 ⟨v3, rfl, o3, b3⟩
      go_wp2_with fail
      go_ret2
      rw [hfin.out]
      exact ⟨_, rfl, o3.lower B01.out.size, b02.trans (b3.mono B01.out.size)⟩
    · have hfin : Hid (evPack [2, a1, a2, a3, a4, a5, a6, a7, a8, a9, a10, a11] = ([7] ++ encs [2]) ++ encs [a1]) := by
        unfold Hid evPack
        simp [evIdx, valsAt, encs]
      go_enter Try.func30, Try.ntmps30
      go_wp2_with fail
      refine (HR _).out.mono ?_
      rintro r w1 ⟨rfl, b1⟩
      have hp1 := hp0.below b1 hp0.lt
      have b01 := bt (one_below w _) b1
      have c0 : w1.cell? ⟨w.heap.size, 0, none⟩ = some (.int .i64 2) := hp1.cell 0
      have hplt : w.heap.size < w1.heap.size := hp1.lt
      have B01 := Lib.hid b01
      have ho := own_lit w1 w1.heap.size 7 (Nat.le_refl _)
      clear hp0 b1
      go_wp2_with fail
      refine (refnums_b _ w1.heap.size [7] [2] _ _ _ _ 1 (by simp) rfl ho (by simp) (by simp) (by simp)).mono ?_
      rintro r w2 ⟨v2, rfl, o2, b2⟩
      have b12 := (one_below w1 (.cells #[.int .u8 7] 5)).trans b2
      have hp2 := hp1.below b12 hplt
      have b02 := bt b01 b12
      have q0 : w2.cell? ⟨w.heap.size, 0, none⟩ = some (.int .i64 2) := hp2.cell 0
      have q1 : w2.cell? ⟨w.heap.size, 1, none⟩ = some (.int .i64 a1) := hp2.cell 1
      have hp2lt := hp2.lt
      have hs12 := b12.size
      generalize hL : [7] ++ encs [2] = L at o2 hfin
      have hLl : L.length ≤ 20 := by
        rw [← hL, List.length_append]
        have := encs_len [2]
        simp at this
        simp; omega
      clear hL b2 hp2 hp1 c0 b01 ho
      go_wp2_with fail
      refine (refnums_b _ w1.heap.size L [a1] _ _ _ _ 1 (by simp) rfl o2 (by first | omega | (simp; omega)) (by omega) (by simp)).mono ?_
      rintro r w3 ⟨v3, rfl, o3, b3⟩
      go_wp2_with fail
      go_ret2
      rw [hfin.out]
      exact ⟨_, rfl, o3.lower B01.out.size, b02.trans (b3.mono B01.out.size)⟩
    · have hfin : Hid (evPack [4, a1, a2, a3, a4, a5, a6, a7, a8, a9, a10, a11] = ([7] ++ encs [4]) ++ encs [a1]) := by
        unfold Hid evPack
        simp [evIdx, valsAt, encs]
      go_enter Try.func30, Try.ntmps30
      go_wp2_with fail
      refine (HR _).out.mono ?_
      rintro r w1 ⟨rfl, b1⟩
      have hp1 := hp0.below b1 hp0.lt
      have b01 := bt (one_below w _) b1
      have c0 : w1.cell? ⟨w.heap.size, 0, none⟩ = some (.int .i64 4) := hp1.cell 0
      have hplt : w.heap.size < w1.heap.size := hp1.lt
      have B01 := Lib.hid b01
      have ho := own_lit w1 w1.heap.size 7 (Nat.le_refl _)
      clear hp0 b1
      go_wp2_with fail
      refine (refnums_b _ w1.heap.size [7] [4] _ _ _ _ 1 (by simp) rfl ho (by simp) (by simp) (by simp)).mono ?_
      rintro r w2 ⟨v2, rfl, o2, b2⟩
      have b12 := (one_below w1 (.cells #[.int .u8 7] 5)).trans b2
      have hp2 := hp1.below b12 hplt
      have b02 := bt b01 b12
      have q0 : w2.cell? ⟨w.heap.size, 0, none⟩ = some (.int .i64 4) := hp2.cell 0
      have q1 : w2.cell? ⟨w.heap.size, 1, none⟩ = some (.int .i64 a1) := hp2.cell 1
      have hp2lt := hp2.lt
      have hs12 := b12.size
      generalize hL : [7] ++ encs [4] = L at o2 hfin
      have hLl : L.length ≤ 20 := by
        rw [← hL, List.length_append]
        have := encs_len [4]
        simp at this
        simp; omega
      clear hL b2 hp2 hp1 c0 b01 ho
      go_wp2_with fail
      refine (refnums_b _ w1.heap.size L [a1] _ _ _ _ 1 (by simp) rfl o2 (by first | omega | (simp; omega)) (by omega) (by simp)).mono ?_
      rintro r w3 ⟨v3, rfl, o3, b3⟩
      go_wp2_with fail
      go_ret2
      rw [hfin.out]
      exact ⟨_, rfl, o3.lower B01.out.size, b02.trans (b3.mono B01.out.size)⟩
    · have hfin : Hid (evPack [5, a1, a2, a3, a4, a5, a6, a7, a8, a9, a10, a11] = ([7] ++ encs [5]) ++ encs [a5]) := by
        unfold Hid evPack
        simp [evIdx, valsAt, encs]
      go_enter Try.func30, Try.ntmps30
      go_wp2_with fail
      refine (HR _).out.mono ?_
      rintro r w1 ⟨rfl, b1⟩
      have hp1 := hp0.below b1 hp0.lt
      have b01 := bt (one_below w _) b1
      have c0 : w1.cell? ⟨w.heap.size, 0, none⟩ = some (.int .i64 5) := hp1.cell 0
      have hplt : w.heap.size < w1.heap.size := hp1.lt
      have B01 := Lib.hid b01
      have ho := own_lit w1 w1.heap.size 7 (Nat.le_refl _)
      clear hp0 b1
      go_wp2_with fail
      refine (refnums_b _ w1.heap.size [7] [5] _ _ _ _ 1 (by simp) rfl ho (by simp) (by simp) (by simp)).mono ?_
      rintro r w2 ⟨v2, rfl, o2, b2⟩
      have b12 := (one_below w1 (.cells #[.int .u8 7] 5)).trans b2
      have hp2 := hp1.below b12 hplt
      have b02 := bt b01 b12
      have q0 : w2.cell? ⟨w.heap.size, 0, none⟩ = some (.int .i64 5) := hp2.cell 0
      have q5 : w2.cell? ⟨w.heap.size, 5, none⟩ = some (.int .i64 a5) := hp2.cell 5
      have hp2lt := hp2.lt
      have hs12 := b12.size
      generalize hL : [7] ++ encs [5] = L at o2 hfin
      have hLl : L.length ≤ 20 := by
        rw [← hL, List.length_append]
        have := encs_len [5]
        simp at this
        simp; omega
      clear hL b2 hp2 hp1 c0 b01 ho
      go_wp2_with fail
      refine (refnums_b _ w1.heap.size L [a5] _ _ _ _ 1 (by simp) rfl o2 (by first | omega | (simp; omega)) (by omega) (by simp)).mono ?_
      rintro r w3 ⟨v3, rfl, o3, b3⟩
      go_wp2_with fail
      go_ret2
      rw [hfin.out]
      exact ⟨_, rfl, o3.lower B01.out.size, b02.trans (b3.mono B01.out.size)⟩
    · have hfin : Hid (evPack [3, a1, a2, a3, a4, a5, a6, a7, a8, a9, a10, a11] = ([7] ++ encs [3]) ++ encs [a6, a7, a8, a9, a10, a11]) := by
        unfold Hid evPack
        simp [evIdx, valsAt, encs]
      go_enter Try.func30, Try.ntmps30
      go_wp2_with fail
      refine (HR _).out.mono ?_
      rintro r w1 ⟨rfl, b1⟩
      have hp1 := hp0.below b1 hp0.lt
      have b01 := bt (one_below w _) b1
      have c0 : w1.cell? ⟨w.heap.size, 0, none⟩ = some (.int .i64 3) := hp1.cell 0
      have hplt : w.heap.size < w1.heap.size := hp1.lt
      have B01 := Lib.hid b01
      have ho := own_lit w1 w1.heap.size 7 (Nat.le_refl _)
      clear hp0 b1
      go_wp2_with fail
      refine (refnums_b _ w1.heap.size [7] [3] _ _ _ _ 1 (by simp) rfl ho (by simp) (by simp) (by simp)).mono ?_
      rintro r w2 ⟨v2, rfl, o2, b2⟩
      have b12 := (one_below w1 (.cells #[.int .u8 7] 5)).trans b2
      have hp2 := hp1.below b12 hplt
      have b02 := bt b01 b12
      have q0 : w2.cell? ⟨w.heap.size, 0, none⟩ = some (.int .i64 3) := hp2.cell 0
      have q6 : w2.cell? ⟨w.heap.size, 6, none⟩ = some (.int .i64 a6) := hp2.cell 6
      have q7 : w2.cell? ⟨w.heap.size, 7, none⟩ = some (.int .i64 a7) := hp2.cell 7
      have q8 : w2.cell? ⟨w.heap.size, 8, none⟩ = some (.int .i64 a8) := hp2.cell 8
      have q9 : w2.cell? ⟨w.heap.size, 9, none⟩ = some (.int .i64 a9) := hp2.cell 9
      have q10 : w2.cell? ⟨w.heap.size, 10, none⟩ = some (.int .i64 a10) := hp2.cell 10
      have q11 : w2.cell? ⟨w.heap.size, 11, none⟩ = some (.int .i64 a11) := hp2.cell 11
      have hp2lt := hp2.lt
      have hs12 := b12.size
      generalize hL : [7] ++ encs [3] = L at o2 hfin
      have hLl : L.length ≤ 20 := by
        rw [← hL, List.length_append]
        have := encs_len [3]
        simp at this
        simp; omega
      clear hL b2 hp2 hp1 c0 b01 ho
      go_wp2_with fail
      refine (refnums_b _ w1.heap.size L [a6, a7, a8, a9, a10, a11] _ _ _ _ 6 (by simp) rfl (World.ownsRow.alloc o2 _) (by first | omega | (simp; omega)) (by omega) (by simp)).mono ?_
      rintro r w3 ⟨v3, rfl, o3, b3⟩
      go_wp2_with fail
      go_ret2
      rw [hfin.out]
      exact ⟨_, rfl, o3.lower B01.out.size, (b02.trans ((one_below w2 _).mono b02.size)).trans (b3.mono B01.out.size)⟩
end Go.Proofs.Ytggoigdlggenfaa
