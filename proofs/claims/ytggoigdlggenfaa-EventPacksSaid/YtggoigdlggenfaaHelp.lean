/- What the helpers of the references do over bytes, the second part: copies with spare room, and whether they are as they were. -/
import Derived.Test.YtggoigdlggenfaaHelpA
namespace Go.Proofs.Ytggoigdlggenfaa
open Go.RowKit Go.Proofs.Ytggoigdlggenfaa.Plain

/-- A copy with spare room behind it. -/
def OwnC (w : World) (g : Nat) (bs : List Int) (x : Int) : Prop := Blk w g 5 (u8s (bs ++ [x, x, x])).toArray

theorem set_spare {bs : List Int} {x : Int} {i : Nat} {cur : Array Value} (hs : cur.size = bs.length + 3) (ht : cur.toList.take i = (u8s (bs ++ [x, x, x])).take i) (h0 : bs.length ≤ i) (h1 : i < bs.length + 3) :
    (cur.setIfInBounds i (.int .u8 x)).toList.take (i + 1) = (u8s (bs ++ [x, x, x])).take (i + 1) := by
  have hL : i < (u8s (bs ++ [x, x, x])).length := by simp [u8s]; omega
  have hl : i < (cur.setIfInBounds i (.int .u8 x)).toList.length := by simp [hs]; omega
  rw [List.take_succ_eq_append_getElem hl, List.take_succ_eq_append_getElem hL, ← ht]
  congr 1
  · simp [List.take_set_of_le]
  · have hg : (u8s (bs ++ [x, x, x]))[i]? = some (.int .u8 x) := by
      rw [u8s, List.getElem?_map, List.getElem?_append_right h0]
      have : i - bs.length = 0 ∨ i - bs.length = 1 ∨ i - bs.length = 2 := by omega
      rcases this with e | e | e <;> rw [e] <;> rfl
    rw [List.getElem?_eq_getElem hL] at hg
    injection hg with hg
    rw [hg]
    simp

set_option maxHeartbeats 400000 in
set_option maxRecDepth 100000 in
theorem own_any (A : Option Addr) (c : Nat) (F : Nat → Prop) (bs : List Int) (x : Int) (w : World) (hr : Reads w F 1 A bs.length (u8s bs)) (hl : bs.length < 140737488355300) :
    Calls Try.prog 16 #[.slice A bs.length c, .int .u8 x] w fun e w' => ∃ g, e = .returned (.slice (some ⟨g, 0, none⟩) bs.length (bs.length + 3)) ∧ w.heap.size ≤ g ∧ OwnC w' g bs x ∧ Below w.heap.size w w' := by
  go_enter Try.func16, Try.ntmps16
  go_wp2_with (first
    | (at_make; refine wpList_make0 (bs.length + 3) Try.elt_u8 rfl rfl rfl rfl (by omega) (by omega) (Nat.le_refl _) ?_; intro w1 hown hf; have hr1 := hr.frm hf (fun _ _ h => h))
    | (at_builtin; refine wpList_append_fits Try.elt_u8 hown hr1 (u8s_one _) (by omega) rfl rfl rfl rfl ?_; intro w2 hown2 hf2; rw [Nat.zero_add, List.nil_append] at hown2))
  obtain ⟨cur, hcur, hsz, hta⟩ : ∃ cur : Array Value, Blk w2 w.heap.size 5 cur ∧ cur.size = bs.length + 3 ∧ cur.toList.take bs.length = u8s bs := by
    rcases hown2.2 with ⟨h, _⟩ | ⟨g', cap', cur, hv, _, hg, _, _, hcs, htake⟩
    · cases h
    · injection hv with hv1 hv2 hv3
      injection hv1 with hv1
      injection hv1 with hv1
      subst hv1; subst hv3
      exact ⟨cur, hg, by omega, by simpa using htake⟩
  have hb2 : Below w.heap.size w w2 := below_frm (below_frm (Below.refl w.heap.size w) hf (Nat.le_refl _) (fun _ _ h => h)) hf2 (Nat.le_refl _) (fun b hb e => by omega)
  have ht0 : Hid (cur.toList.take bs.length = (u8s (bs ++ [x, x, x])).take bs.length) := by
    unfold Hid; rw [hta]; simp [u8s]
  have Hsz := Lib.hid hsz
  clear hta hsz hown2 hown hf hf2 hr1
  go_loopw [7] (fun iv wr => ∃ (i : Nat) (cu : Array Value), iv = .int .i64 i ∧ bs.length ≤ i ∧ i ≤ bs.length + 3 ∧ Blk wr w.heap.size 5 cu ∧ Hid (cu.size = bs.length + 3) ∧ Hid (cu.toList.take i = (u8s (bs ++ [x, x, x])).take i) ∧ Below w.heap.size w wr) (fun iv _ => bs.length + 3 - (intOf iv).toNat)
  case atStart => exact ⟨bs.length, cur, rfl, Nat.le_refl _, by omega, hcur, Hsz, ht0, hb2⟩
  case round =>
    obtain ⟨i, cu, rfl, hi0, hi1, hcu, hs, ht, hb⟩ := hrel
    by_cases hlt : i < bs.length + 3
    · have hcell : ∃ u, wr.cell? ⟨w.heap.size, i, none⟩ = some u := ⟨_, (hcu.cell i).trans (Array.getElem?_eq_getElem (by have := hs.out; omega))⟩
      obtain ⟨u, hcell⟩ := hcell
      have hfz := hcu.frozen i
      go_wp2_with fail
      go_roundw
      case rel => exact ⟨i + 1, _, by go_num, by omega, by omega, hcu.set_ i _, by have := hs.out; unfold Hid; simpa using this, set_spare hs.out ht.out hi0 hlt, hb.setCell (Nat.le_refl _) _⟩
      case measure => simp [intOf]; omega
    · go_wp2_with fail
      go_ret
      have he : cu = (u8s (bs ++ [x, x, x])).toArray := by
        have h1 := ht.out
        have h2 := hs.out
        have h3 : (u8s (bs ++ [x, x, x])).length = bs.length + 3 := by simp [u8s]
        rw [List.take_of_length_le (by simp; omega), List.take_of_length_le (by omega)] at h1
        exact Array.ext' (by simpa using h1)
      exact ⟨_, rfl, Nat.le_refl _, by rw [he] at hcu; exact hcu, hb⟩

set_option maxHeartbeats 400000 in
set_option maxRecDepth 100000 in
theorem kept_any (g : Nat) (B : Option Addr) (d : Nat) (G : Nat → Prop) (bs : List Int) (x : Int) (w : World) (hx : OwnC w g bs x) (hy : Reads w G 1 B bs.length (u8s bs)) (hl : bs.length < 140737488355300) :
    Calls Try.prog 22 #[.slice (some ⟨g, 0, none⟩) bs.length (bs.length + 3), .slice B bs.length d, .int .u8 x] w fun e w' => e = .returned (.bool true) ∧ ∃ n, w' = w.drewN n := by
  unfold OwnC at hx
  have hrx : Reads w (fun b => b = g) 1 (some ⟨g, 0, none⟩) bs.length (u8s bs) := by
    refine ⟨by simp [u8s], fun _ => ⟨g, 0, rfl, rfl, hx.lt, fun j u hu => ?_⟩⟩
    rw [Nat.zero_add, hx.cell j, List.getElem?_toArray, ← u8s_app, List.getElem?_append_left]
    · exact hu
    · exact (List.getElem?_eq_some_iff.1 hu).1
  have HP := Lib.hid (plain_any (some ⟨g, 0, none⟩) B (bs.length + 3) d _ G bs bs w hrx hy (by omega))
  rw [decide_eq_true rfl] at HP
  have hl3 : decide (((bs.length + 3 : Nat) : Int) < (bs.length : Int) + 3) = false := by simp
  go_enter Try.func22, Try.ntmps22
  go_wp2_with fail
  refine HP.out.mono ?_
  rintro e w1 ⟨rfl, n1, rfl⟩
  go_wp2_with fail
  go_loopw [6, 8] (fun _ iv wr => ∃ (i m : Nat), iv = .int .i64 i ∧ bs.length ≤ i ∧ i ≤ bs.length + 3 ∧ wr = w.drewN m) (fun _ iv _ => bs.length + 3 - (intOf iv).toNat)
  case atStart => exact ⟨bs.length, n1, rfl, Nat.le_refl _, by omega, rfl⟩
  case round =>
    obtain ⟨i, m, rfl, hi0, hi1, rfl⟩ := hrel
    by_cases hlt : i < bs.length + 3
    · have hcell : w.cell? ⟨g, i, none⟩ = some (.int .u8 x) := by
        rw [hx.cell i, List.getElem?_toArray, u8s, List.getElem?_map, List.getElem?_append_right hi0]
        have : i - bs.length = 0 ∨ i - bs.length = 1 ∨ i - bs.length = 2 := by omega
        rcases this with e | e | e <;> rw [e] <;> rfl
      go_wp2_with fail
      go_roundw
      case rel => exact ⟨i + 1, _, by go_num, by omega, by omega, rfl⟩
      case measure => simp [intOf]; omega
    · go_wp2_with fail
      go_ret
      exact ⟨rfl, drawn1 _ _⟩

theorem OwnC.own {w : World} {g : Nat} {bs : List Int} {x : Int} (h : OwnC w g bs x) {base : Nat} (hb : base ≤ g) (hl : bs.length < 140737488355300) : OwnB w base (.slice (some ⟨g, 0, none⟩) bs.length (bs.length + 3)) bs := by
  refine ⟨by simp [u8s], .inr ⟨g, bs.length + 3, _, rfl, hb, h, by omega, by unfold maxLen; omega, by simp [u8s], ?_⟩⟩
  rw [Nat.mul_one, List.toList_toArray, ← u8s_app, ← u8s_len bs, List.take_left]

set_option maxHeartbeats 400000 in
set_option maxRecDepth 100000 in
/-- Each byte is another one: of what they become nothing need be said. -/
theorem spoil_any (v : Value) (base : Nat) (l : List Int) (w : World) (hx : OwnB w base v l) (hl : l.length < 140737488355300) :
    Calls Try.prog 38 #[v] w fun e w' => e = .returned (.tuple #[]) ∧ Frm (fun b => v.ownBlock = some b) w w' := by
  rcases hx.2 with ⟨rfl, hn⟩ | ⟨g, cap, cur, rfl, hb, hgg, hnc, hcm, hcs, hta⟩
  · go_enter Try.func38, Try.ntmps38
    go_wp2_with fail
    go_loopw [2] (fun iv wr => iv = .int .i64 0 ∧ wr = w) (fun _ _ => 0)
    case atStart => exact ⟨rfl, rfl⟩
    case round =>
      obtain ⟨rfl, rfl⟩ := hrel
      go_wp2_with fail
      go_end0
      exact ⟨rfl, Frm.refl _ _⟩
  · have hcells : Hid (∀ i, i < l.length → ∃ y, cur[i]? = some (Value.int .u8 y)) := by
      intro i hi
      have h1 : (cur.toList.take (l.length * 1))[i]? = (u8s l)[i]? := by rw [hta]
      rw [Nat.mul_one, List.getElem?_take_of_lt hi, u8s, List.getElem?_map, List.getElem?_eq_getElem hi] at h1
      exact ⟨_, by simpa using h1⟩
    have hblk : Blk w g 5 cur := hgg
    clear hgg hcs hta hx hcm
    go_enter Try.func38, Try.ntmps38
    go_wp2_with fail
    go_loopw [2] (fun iv wr => ∃ (i : Nat) (cu : Array Value), iv = .int .i64 i ∧ i ≤ l.length ∧ Blk wr g 5 cu ∧ Hid (∀ i, i < l.length → ∃ y, cu[i]? = some (Value.int .u8 y)) ∧ Frm (fun b => (Value.slice (some ⟨g, 0, none⟩) l.length cap).ownBlock = some b) w wr) (fun iv _ => l.length - (intOf iv).toNat)
    case atStart => exact ⟨0, cur, rfl, Nat.zero_le _, hblk, hcells, Frm.refl _ _⟩
    case round =>
      obtain ⟨i, cu, rfl, hi, hcu, hc, hf⟩ := hrel
      by_cases hlt : i < l.length
      · obtain ⟨y, hy⟩ := hc.out i hlt
        have hcell : wr.cell? ⟨g, i, none⟩ = some (.int .u8 y) := (hcu.cell i).trans hy
        have hfz := hcu.frozen i
        have Hy := Lib.hid hy
        clear hy
        go_wp2_with fail
        go_roundw
        case rel =>
          refine ⟨i + 1, _, by go_num, by omega, hcu.set_ i _, ?_, hf.set (p := ⟨g, i, none⟩) (fun _ => rfl) _⟩
          intro k hk
          by_cases e : i = k
          · subst e
            exact ⟨_, Array.getElem?_setIfInBounds_self_of_lt (Array.getElem?_eq_some_iff.1 Hy.out).1⟩
          · rw [Array.getElem?_setIfInBounds_ne e]
            exact hc.out k hk
        case measure => simp [intOf]; omega
      · go_wp2_with fail
        go_end0
        exact ⟨rfl, hf⟩
end Go.Proofs.Ytggoigdlggenfaa
