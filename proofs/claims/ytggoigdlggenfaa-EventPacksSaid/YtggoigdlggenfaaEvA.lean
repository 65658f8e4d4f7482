/- What package event does: an answer, and its bytes. -/
import Derived.Test.YtggoigdlggenfaaEvE
namespace Go.Proofs.Ytggoigdlggenfaa
open Go.RowKit Go.Proofs.Ytggoigdlggenfaa.Plain

theorem reads_new (w : World) (xs : List Value) (t : TypeId) : Reads (w.alloc (.cells xs.toArray t)) (fun b => b = w.heap.size) 1 (some ⟨w.heap.size, 0, none⟩) xs.length xs := by
  refine ⟨by simp, fun _ => ⟨w.heap.size, 0, rfl, rfl, by simp, fun j v hv => ?_⟩⟩
  rw [Nat.zero_add, cell_of_row _ _ _ _ _ (0, 0) (heap_alloc_new w _)]
  simpa using hv
theorem fits_three (g x y z : Int) (w : World) (t : TypeId) (c b : Nat) (hb : b = w.heap.size) :
    Calls Try.prog 61 #[.int .i64 g, .slice (some ⟨b, 0, none⟩) 3 c] (w.alloc (.cells #[.int .i64 x, .int .i64 y, .int .i64 z] t)) fun e w' => e = .returned (.bool (fitsB g [x, y, z])) ∧ w' = w.alloc (.cells #[.int .i64 x, .int .i64 y, .int .i64 z] t) := by
  subst hb
  exact fits_any g _ c _ [x, y, z] _ (reads_new w (i64s [x, y, z]) t) (by simp)

/-- May an answer be, its seven numbers in a row? -/
def ansRight (e v p d c x y : Int) : Bool :=
  if e ≠ 0 then decide (0 < e) && decide (e ≤ 12) && decide ([v, p, d, c, x, y] = [0, 0, 0, 0, 0, 0]) else fitsB 2147483647 [v, p, d] && fitsB 4611686018427387904 [c, x, y]

set_option maxHeartbeats 800000 in
set_option maxRecDepth 100000 in
theorem ansright_any (e v p d c x y : Int) (w : World) :
    Calls Try.prog 59 #[.agg #[.int .i64 e, .int .i64 v, .int .i64 p, .int .i64 d, .int .i64 c, .int .i64 x, .int .i64 y]] w fun r w' => r = .returned (.bool (ansRight e v p d c x y)) ∧ Below w.heap.size w w' := by
  by_cases he : e = 0
  · subst he
    have hfin : Hid (ansRight 0 v p d c x y = (fitsB 2147483647 [v, p, d] && fitsB 4611686018427387904 [c, x, y])) := by unfold Hid ansRight; rw [if_neg (by omega)]
    generalize hf1 : fitsB 2147483647 [v, p, d] = f1 at hfin
    generalize hf2 : fitsB 4611686018427387904 [c, x, y] = f2 at hfin
    have Hf1 := Lib.hid hf1
    have Hf2 := Lib.hid hf2
    clear hf1 hf2
    go_enter Try.func59, Try.ntmps59
    go_wp2_with fail
    refine (fits_three 2147483647 v p d _ _ _ _ (by simp)).mono ?_
    rintro r w1 ⟨rfl, rfl⟩
    rw [Hf1.out]
    cases f1 with
    | true =>
      go_wp2_with fail
      refine (fits_three 4611686018427387904 c x y _ _ _ _ (by simp)).mono ?_
      rintro r w2 ⟨rfl, rfl⟩
      rw [Hf2.out]
      go_wp2_with fail
      go_ret
      rw [hfin.out]
      exact ⟨rfl, (((Below.refl _ _).alloc (Nat.le_refl _) _).alloc (by simp) _).alloc (by simp; omega) _ |>.alloc (by simp; omega) _⟩
    | false =>
      go_wp2_with fail
      go_ret
      rw [hfin.out]
      exact ⟨rfl, (((Below.refl _ _).alloc (Nat.le_refl _) _).alloc (by simp) _).alloc (by simp; omega) _⟩
  · have he1 : (e != 0) = true := by rw [bne_iff_ne]; exact he
    have hev := fun W => run_eql_plan v p d c x y 0 0 0 0 0 0 W
    have hfin : Hid (ansRight e v p d c x y = (decide (0 < e) && decide (e ≤ 12) && decide ([v, p, d, c, x, y] = [0, 0, 0, 0, 0, 0]))) := by unfold Hid ansRight; rw [if_pos he]
    generalize hz : decide ([v, p, d, c, x, y] = [0, 0, 0, 0, 0, 0]) = z at hev hfin
    clear hz he
    by_cases h1 : 0 < e
    · have d1 : decide (0 < e) = true := by simp [h1]
      by_cases h2 : e ≤ 12
      · have d2 : decide (e ≤ 12) = true := by simp [h2]
        go_enter Try.func59, Try.ntmps59
        go_wp2_with fail
        go_ret
        rw [hfin.out]
        exact ⟨ret1 (congrArg Value.bool (by simp [h1, h2])), two_below w 0 _ _⟩
      · have d2 : decide (e ≤ 12) = false := by simp [h2]
        go_enter Try.func59, Try.ntmps59
        go_wp2_with fail
        go_ret
        rw [hfin.out]
        exact ⟨ret1 (congrArg Value.bool (by rw [d1, d2]; rfl)), two_below w 0 _ _⟩
    · have d1 : decide (0 < e) = false := by simp [h1]
      go_enter Try.func59, Try.ntmps59
      go_wp2_with fail
      go_ret
      rw [hfin.out]
      exact ⟨ret1 (congrArg Value.bool (by rw [d1]; rfl)), two_below w 0 _ _⟩

theorem nums_b (v : Value) (base : Nat) (l xs : List Int) (w : World) (t : TypeId) (c b n : Nat) (hb : b = w.heap.size) (hn : n = xs.length) (ho : OwnB w base v l) (hbase : base ≤ w.heap.size) (hl : l.length ≤ 100000) (hx : xs.length ≤ 100000) :
    Calls Try.prog 57 #[v, .slice (some ⟨b, 0, none⟩) n c] (w.alloc (.cells (i64s xs).toArray t)) fun e w' => ∃ v', e = .returned v' ∧ OwnB w' base v' (l ++ encs xs) ∧ Below base w w' := by
  subst hb; subst hn
  have hr := reads_new w (i64s xs) t
  rw [show (i64s xs).length = xs.length by simp [i64s]] at hr
  have := nums_any v base l _ c _ xs (w.alloc (.cells (i64s xs).toArray t)) (World.ownsRow.alloc ho _) (by simp; omega) hr (fun b hb e => by have := ho.lt b e; omega) (by omega)
  refine this.mono ?_
  rintro e w' ⟨v', he, h1, h2, _⟩
  refine ⟨v', he, h1, ?_⟩
  exact below_frm ((Below.refl base w).alloc hbase _) h2 hbase (fun b hb e => by have := ho.lt b e; omega)

/-- The bytes of an answer. -/
def ansPack (e v p d c x y : Int) : List Int := ([7] ++ encs [e]) ++ (if e = 0 then encs [v, p, d, c, x, y] else [])

set_option maxHeartbeats 800000 in
set_option maxRecDepth 100000 in
theorem anspack_any (e v p d c x y : Int) (w : World) :
    Calls Try.prog 31 #[.agg #[.int .i64 e, .int .i64 v, .int .i64 p, .int .i64 d, .int .i64 c, .int .i64 x, .int .i64 y]] w fun r w' => ∃ b,
      r = .returned (.tuple #[b, .int .i64 (if ansRight e v p d c x y = true then 0 else 10)]) ∧ OwnB w' w.heap.size b (if ansRight e v p d c x y = true then ansPack e v p d c x y else []) ∧ Below w.heap.size w w' := by
  have HR := fun W => Lib.hid (ansright_any e v p d c x y W)
  cases hrt : ansRight e v p d c x y with
  | false =>
    rw [hrt] at HR
    clear hrt
    go_enter Try.func31, Try.ntmps31
    go_wp2_with fail
    refine (HR _).out.mono ?_
    rintro r w1 ⟨rfl, b1⟩
    go_wp2_with fail
    go_ret2
    exact ⟨_, rfl, World.ownsRow_nil _ _ _ _, bt (one_below _ _) b1⟩
  | true =>
    rw [hrt] at HR
    clear hrt
    have hp0 := Blk.new w 50 #[.int .i64 e, .int .i64 v, .int .i64 p, .int .i64 d, .int .i64 c, .int .i64 x, .int .i64 y]
    go_enter Try.func31, Try.ntmps31
    go_wp2_with fail
    refine (HR _).out.mono ?_
    rintro r w1 ⟨rfl, b1⟩
    have hp1 := hp0.below b1 hp0.lt
    have b01 := bt (one_below w _) b1
    have c0 : w1.cell? ⟨w.heap.size, 0, none⟩ = some (.int .i64 e) := hp1.cell 0
    have hplt : w.heap.size < w1.heap.size := hp1.lt
    have B01 := Lib.hid b01
    have ho := own_lit w1 w1.heap.size 7 (Nat.le_refl _)
    clear hp0 b1
    go_wp2_with fail
    refine (nums_b _ w1.heap.size [7] [e] _ _ _ _ 1 (by simp) rfl ho (by simp) (by simp) (by simp)).mono ?_
    rintro r w2 ⟨v2, rfl, o2, b2⟩
    have b12 := (one_below w1 (.cells #[.int .u8 7] 5)).trans b2
    have hp2 := hp1.below b12 hplt
    have b02 := bt b01 b12
    have q0 : w2.cell? ⟨w.heap.size, 0, none⟩ = some (.int .i64 e) := hp2.cell 0
    have q1 : w2.cell? ⟨w.heap.size, 1, none⟩ = some (.int .i64 v) := hp2.cell 1
    have q2 : w2.cell? ⟨w.heap.size, 2, none⟩ = some (.int .i64 p) := hp2.cell 2
    have q3 : w2.cell? ⟨w.heap.size, 3, none⟩ = some (.int .i64 d) := hp2.cell 3
    have q4 : w2.cell? ⟨w.heap.size, 4, none⟩ = some (.int .i64 c) := hp2.cell 4
    have q5 : w2.cell? ⟨w.heap.size, 5, none⟩ = some (.int .i64 x) := hp2.cell 5
    have q6 : w2.cell? ⟨w.heap.size, 6, none⟩ = some (.int .i64 y) := hp2.cell 6
    have hp2lt := hp2.lt
    generalize hL : [7] ++ encs [e] = L at o2
    have hLl : L.length ≤ 20 := by
      rw [← hL, List.length_append]
      have := encs_len [e]
      simp at this
      simp; omega
    have HL := Lib.hid hL
    clear hL b2 hp2 hp1 c0 b01 ho
    by_cases he : e = 0
    · subst he
      have hfin : Hid (ansPack 0 v p d c x y = L ++ encs [v, p, d, c, x, y]) := by unfold Hid ansPack; rw [if_pos rfl, HL.out]
      go_wp2_with fail
      refine (nums_b _ w1.heap.size L [v, p, d, c, x, y] _ _ _ _ 6 (by simp) rfl (World.ownsRow.alloc o2 _) (by simp; have := b12.size; omega) (by omega) (by simp)).mono ?_
      rintro r w3 ⟨v3, rfl, o3, b3⟩
      go_wp2_with fail
      go_ret2
      rw [hfin.out]
      exact ⟨_, rfl, o3.lower B01.out.size, (b02.trans ((one_below w2 _).mono b02.size)).trans (b3.mono B01.out.size)⟩
    · have he1 : (e == 0) = false := by simp [he]
      have hfin : Hid (ansPack e v p d c x y = L) := by unfold Hid ansPack; rw [if_neg he, HL.out, List.append_nil]
      go_wp2_with fail
      go_ret2
      rw [hfin.out]
      exact ⟨_, rfl, own_lower (World.ownsRow.alloc o2 _) B01.out.size, b02.trans ((one_below w2 _).mono b02.size)⟩
end Go.Proofs.Ytggoigdlggenfaa
