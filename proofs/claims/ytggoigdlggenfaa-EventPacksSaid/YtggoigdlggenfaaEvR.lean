/- What package event does: an event's fields, and whether it may be. -/
import Derived.Test.YtggoigdlggenfaaEvent
import Derived.Deep.RegionHeld3
namespace Go.Proofs.Ytggoigdlggenfaa
open Go.RowKit Go.Proofs.Ytggoigdlggenfaa.Plain

/-- Which of an event's twelve numbers its kind has: those of 31 bits, the wide ones, and is it a kind? -/
def evIdx (k : Int) : List Nat × List Nat × Bool :=
  if k = 1 then ([1, 2, 3], [4], true) else if k = 2 ∨ k = 4 then ([1], [], true) else if k = 5 then ([], [5], true) else if k = 3 then ([6, 7, 8, 9], [10, 11], true) else ([], [], false)

/-- A row of pointers to cells of block p. -/
def Ptrs (w : World) (F : Nat → Prop) (v : Value) (p : Nat) (l : List Nat) : Prop :=
  ∃ A c, v = .slice A l.length c ∧ Reads w F 1 A l.length (l.map fun i => Value.pointer (some ⟨p, i, none⟩))

theorem ptrs_blk {w' : World} {B g p : Nat} {t : TypeId} {l : List Nat} (h : Blk w' g t (l.map fun i => Value.pointer (some ⟨p, i, none⟩)).toArray) (hg : B ≤ g) : Ptrs w' (fun b => B ≤ b) (.slice (some ⟨g, 0, none⟩) l.length l.length) p l := by
  refine ⟨_, _, rfl, by simp, fun _ => ⟨g, 0, rfl, hg, h.lt, fun j u hu => ?_⟩⟩
  rw [Nat.zero_add, h.cell j, List.getElem?_toArray]
  exact hu
theorem ptrs_nil (w' : World) (F : Nat → Prop) (p : Nat) : Ptrs w' F (.slice none 0 0) p [] := ⟨none, 0, rfl, Reads.none_⟩
theorem blk_two1 (w : World) (cs : Array Value) (t : TypeId) (o : Obj) : Blk ((w.alloc (.cells cs t)).alloc o) w.heap.size t cs := (Blk.new w t cs).alloc o
theorem blk_two2 (w : World) (o : Obj) (cs : Array Value) (t : TypeId) : Blk ((w.alloc o).alloc (.cells cs t)) (w.heap.size + 1) t cs := by
  have := Blk.new (w.alloc o) t cs
  simpa using this
theorem two_below (w : World) (n : Nat) (o o' : Obj) : Below w.heap.size w (((w.drewN n).alloc o).alloc o') := ((below_drewN (Below.refl _ _) n).alloc (Nat.le_refl _) o).alloc (by simp [World.drewN]) o'
theorem two_below' (w : World) (o o' : Obj) : Below w.heap.size w ((w.drew.alloc o).alloc o') := two_below w 1 o o'
theorem one_below (w : World) (o : Obj) : Below w.heap.size w (w.alloc o) := (Below.refl _ _).alloc (Nat.le_refl _) o
theorem one_below' (w : World) (n : Nat) (o : Obj) : Below w.heap.size w ((w.drewN n).alloc o) := (below_drewN (Below.refl _ _) n).alloc (Nat.le_refl _) o

set_option maxHeartbeats 400000 in
set_option maxRecDepth 100000 in
theorem fields_any (p : Nat) (k : Int) (w : World) (hk : w.cell? ⟨p, 0, none⟩ = some (.int .i64 k)) :
    Calls Try.prog 56 #[.pointer (some ⟨p, 0, none⟩)] w fun e w' => ∃ vi vw, e = .returned (.tuple #[vi, vw, .bool (evIdx k).2.2]) ∧
      Ptrs w' (fun b => w.heap.size ≤ b) vi p (evIdx k).1 ∧ Ptrs w' (fun b => w.heap.size ≤ b) vw p (evIdx k).2.1 ∧ Below w.heap.size w w' := by
  by_cases k1 : k = 1
  · subst k1
    have he : evIdx 1 = ([1, 2, 3], [4], true) := rfl
    rw [he]
    clear he
    go_enter Try.func56, Try.ntmps56
    go_wp2_with fail
    go_region_held3 (fun _ => True) (trivial) (fail)
    all_goals go_wp2_with fail
    all_goals go_ret3
    · exact ⟨_, _, rfl, ptrs_blk (l := [1, 2, 3]) (blk_two1 _ _ _ _) (Nat.le_refl _), ptrs_blk (l := [4]) (blk_two2 _ _ _ _) (Nat.le_succ _), two_below' _ _ _⟩
    · exact ⟨_, _, rfl, ptrs_blk (l := [1, 2, 3]) (blk_two2 _ _ _ _) (Nat.le_succ _), ptrs_blk (l := [4]) (blk_two1 _ _ _ _) (Nat.le_refl _), two_below' _ _ _⟩
  by_cases k2 : k = 2
  · subst k2
    have he : evIdx 2 = ([1], [], true) := rfl
    rw [he]
    clear he
    go_enter Try.func56, Try.ntmps56
    go_wp2_with fail
    go_ret3
    exact ⟨_, _, rfl, ptrs_blk (l := [1]) (Blk.new _ _ _) (Nat.le_refl _), ptrs_nil _ _ _, one_below _ _⟩
  by_cases k4 : k = 4
  · subst k4
    have he : evIdx 4 = ([1], [], true) := rfl
    rw [he]
    clear he
    go_enter Try.func56, Try.ntmps56
    go_wp2_with fail
    go_ret3
    exact ⟨_, _, rfl, ptrs_blk (l := [1]) (Blk.new _ _ _) (Nat.le_refl _), ptrs_nil _ _ _, one_below _ _⟩
  by_cases k5 : k = 5
  · subst k5
    have he : evIdx 5 = ([], [5], true) := rfl
    rw [he]
    clear he
    go_enter Try.func56, Try.ntmps56
    go_wp2_with fail
    go_region_held3 (fun _ => True) (trivial) (fail)
    go_wp2_with fail
    go_ret3
    exact ⟨_, _, rfl, ptrs_nil _ _ _, ptrs_blk (l := [5]) (Blk.new _ _ _) (Nat.le_refl _), one_below' _ 1 _⟩
  by_cases k3 : k = 3
  · subst k3
    have he : evIdx 3 = ([6, 7, 8, 9], [10, 11], true) := rfl
    rw [he]
    clear he
    go_enter Try.func56, Try.ntmps56
    go_wp2_with fail
    go_region_held3 (fun _ => True) (trivial) (fail)
    all_goals go_wp2_with fail
    all_goals go_ret3
    · exact ⟨_, _, rfl, ptrs_blk (l := [6, 7, 8, 9]) (blk_two1 _ _ _ _) (Nat.le_refl _), ptrs_blk (l := [10, 11]) (blk_two2 _ _ _ _) (Nat.le_succ _), two_below' _ _ _⟩
    · exact ⟨_, _, rfl, ptrs_blk (l := [6, 7, 8, 9]) (blk_two2 _ _ _ _) (Nat.le_succ _), ptrs_blk (l := [10, 11]) (blk_two1 _ _ _ _) (Nat.le_refl _), two_below' _ _ _⟩
  · have he : evIdx k = ([], [], false) := by unfold evIdx; rw [if_neg k1, if_neg (by omega), if_neg k5, if_neg k3]
    rw [he]
    clear he
    have h1 : (k == 1) = false := by simp [k1]
    have h2 : (k == 2) = false := by simp [k2]
    have h3 : (k == 3) = false := by simp [k3]
    have h4 : (k == 4) = false := by simp [k4]
    have h5 : (k == 5) = false := by simp [k5]
    go_enter Try.func56, Try.ntmps56
    go_wp2_with fail
    go_ret3
    exact ⟨_, _, rfl, ptrs_nil _ _ _, ptrs_nil _ _ _, Below.refl _ _⟩

end Go.Proofs.Ytggoigdlggenfaa
