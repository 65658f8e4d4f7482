/- What the helpers of the references do over bytes: compare, copy, spoil, and look whether a copy is as it was. -/
import Derived.Test.YtggoigdlggenfaaCodeW
import Derived.Laws.BytesArg
namespace Go.Proofs.Ytggoigdlggenfaa
open Go.RowKit Go.Proofs.Ytggoigdlggenfaa.Plain

theorem run_conv_bytes {w : World} {F : Nat → Prop} {A : Option Addr} {bs : List Int} (hr : Reads w F 1 A bs.length (u8s bs)) (c : Nat) :
    (convert 24 9 (.slice A bs.length c)).run Try.prog w = .ok (.string (strOfNums bs)) w := by
  rcases Nat.eq_zero_or_pos bs.length with h0 | h0
  · have e : bs = [] := List.eq_nil_of_length_eq_zero h0
    subst e
    cases A with
    | none => exact run_convert_bytes_nil w _ _ Try.underlying24 Try.underlying5 _ _ _ Try.underlying9
    | some a =>
      rw [run_convert_bytes_string w _ _ _ _ _ _ Try.underlying24 Try.underlying5 Try.underlying9]
      rw [run_bytesToString w a _ _ [] (by simp [loadCells, loadCellsFrom])]
      rfl
  · obtain ⟨b, off, rfl, _, _, hc⟩ := hr.2 h0
    refine run_convert_bytes_arg w _ _ Try.underlying24 Try.underlying5 b off _ c bs rfl (fun i hi => ?_) _ Try.underlying9
    refine hc i _ ?_
    rw [u8s, List.getElem?_map, List.getElem?_eq_getElem hi, List.getD_eq_getElem?_getD, List.getElem?_eq_getElem hi]
    rfl

theorem str_eq {xs ys : List Int} (hx : Byt xs) (hy : Byt ys) : ((strOfNums xs).toList == (strOfNums ys).toList) = decide (xs = ys) := by
  have key : ∀ xs ys : List Int, Byt xs → Byt ys → xs.map (fun n => UInt8.ofNat n.toNat) = ys.map (fun n => UInt8.ofNat n.toNat) → xs = ys := by
    intro xs
    induction xs with
    | nil => intro ys _ _ h; cases ys with
      | nil => rfl
      | cons y ys => simp at h
    | cons x xs ih =>
      intro ys hx hy h
      cases ys with
      | nil => simp at h
      | cons y ys =>
        simp only [List.map_cons, List.cons.injEq] at h
        have h1 := hx x (by simp)
        have h2 := hy y (by simp)
        have h3 := congrArg UInt8.toNat h.1
        simp only [UInt8.toNat_ofNat'] at h3
        have e : x = y := by omega
        rw [e, ih ys (fun z hz => hx z (by simp [hz])) (fun z hz => hy z (by simp [hz])) h.2]
  rw [ByteArray.toList_eq, ByteArray.toList_eq, strOfNums_data, strOfNums_data]
  by_cases h : xs = ys
  · subst h; simp
  · rw [decide_eq_false h, beq_eq_false_iff_ne]
    exact fun e => h (key _ _ hx hy e)

set_option maxHeartbeats 400000 in
theorem bytes_any (A B : Option Addr) (c d : Nat) (F G : Nat → Prop) (xs ys : List Int) (w : World) (hx : Reads w F 1 A xs.length (u8s xs)) (hy : Reads w G 1 B ys.length (u8s ys)) (bx : Byt xs) (by_ : Byt ys) :
    Calls Try.prog 18 #[.slice A xs.length c, .slice B ys.length d] w fun e w' => e = .returned (.bool (decide (xs = ys))) ∧ w' = w := by
  have h1 := run_conv_bytes hx c
  have h2 := run_conv_bytes hy d
  go_enter Try.func18, Try.ntmps18
  go_wp2_with fail
  go_ret
  exact ⟨ret1 (congrArg Value.bool (str_eq bx by_)), rfl⟩

theorem same_cell {xs : List Int} {w : World} {F : Nat → Prop} {A : Option Addr} (hx : Reads w F 1 A xs.length (u8s xs)) {k : Nat} (hk : k < xs.length) : ∃ b off, A = some ⟨b, off, none⟩ ∧ w.cell? ⟨b, off + k, none⟩ = some (.int .u8 (xs.getD k 0)) := by
  obtain ⟨b, off, u, rfl, _, _, hu, hc⟩ := hx.at_ hk
  refine ⟨b, off, rfl, ?_⟩
  rw [hc, ← hu, u8s, List.getElem?_map, List.getD_eq_getElem?_getD, List.getElem?_eq_getElem hk]
  rfl

set_option maxHeartbeats 400000 in
theorem plain1_any (x y : Int) (w : World) : Calls Try.prog 82 #[.int .u8 x, .int .u8 y] w fun e w' => e = .returned (.bool (x == y)) ∧ w' = w := by
  go_enter Try.func82, Try.ntmps82
  go_wp2_with fail
  go_ret
  exact ⟨rfl, rfl⟩

theorem take_succ_iff {xs ys : List Int} {k : Nat} (h1 : k < xs.length) (h2 : k < ys.length) (h : xs.take k = ys.take k) : xs.take (k + 1) = ys.take (k + 1) ↔ xs.getD k 0 = ys.getD k 0 := by
  have e2 : ys.take (k + 1) = ys.take k ++ [ys[k]] := List.take_succ_eq_append_getElem h2
  rw [List.take_succ_eq_append_getElem h1, e2, h, List.getD_eq_getElem?_getD, List.getD_eq_getElem?_getD, List.getElem?_eq_getElem h1, List.getElem?_eq_getElem h2, ← e2]
  rw [e2]
  simp only [List.append_cancel_left_eq, List.cons.injEq, and_true, Option.getD_some]

set_option maxHeartbeats 400000 in
set_option maxRecDepth 100000 in
theorem same_any (A B : Option Addr) (c d : Nat) (F G : Nat → Prop) (xs ys : List Int) (w : World) (hx : Reads w F 1 A xs.length (u8s xs)) (hy : Reads w G 1 B ys.length (u8s ys)) (hl : xs.length < 140737488355328) :
    Calls Try.prog 81 #[.slice A xs.length c, .slice B ys.length d, .func (.func 82) #[] #[]] w fun e w' => e = .returned (.bool (decide (xs = ys))) ∧ ∃ n, w' = w.drewN n := by
  by_cases hlen : xs.length = ys.length
  · have Hlen := Lib.hid hlen
    have hl1 : ((xs.length : Int) != (ys.length : Int)) = false := by simp; omega
    go_enter Try.func81, Try.ntmps81
    clear hlen
    go_wp2_with fail
    go_loopw [6, 7] (fun _ kv wr => ∃ (k m : Nat), kv = .int .i64 k ∧ k ≤ xs.length ∧ Hid (xs.take k = ys.take k) ∧ wr = w.drewN m) (fun _ kv _ => xs.length - (intOf kv).toNat)
    case atStart => exact ⟨0, 0, rfl, Nat.zero_le _, by unfold Hid; simp, rfl⟩
    case round =>
      obtain ⟨k, m, rfl, hk, ht, rfl⟩ := hrel
      by_cases hlt : k < xs.length
      · have hlt2 : k < ys.length := by have := Hlen.out; omega
        obtain ⟨b, off, rfl, hcx⟩ := same_cell hx hlt
        obtain ⟨b2, off2, rfl, hcy⟩ := same_cell hy hlt2
        have Hiff := Lib.hid (take_succ_iff hlt hlt2 ht.out)
        generalize hgx : xs.getD k 0 = x at hcx Hiff
        generalize hgy : ys.getD k 0 = y at hcy Hiff
        clear hgx hgy
        by_cases hxy : x = y
        · have hb : (x == y) = true := by simp [hxy]
          have Hxy := Lib.hid hxy
          clear hxy
          go_wp2_with fail
          go_quiet ((go_at_call 82; first | exact quiet_same (fun W _ => drawn_eq (plain1_any _ _ W)) | exact quiet_add (fun W _ => drawn_eq (plain1_any _ _ W))))
          go_wp2_with fail
          go_roundw
          case rel => exact ⟨k + 1, _, by go_num, by omega, Hiff.out.2 Hxy.out, rfl⟩
          case measure => simp [intOf]; omega
        · have hb : (x == y) = false := by simp [hxy]
          have hne : Hid (xs ≠ ys) := fun e => hxy (Hiff.out.1 (by rw [e]))
          clear hxy
          go_wp2_with fail
          go_quiet ((go_at_call 82; first | exact quiet_same (fun W _ => drawn_eq (plain1_any _ _ W)) | exact quiet_add (fun W _ => drawn_eq (plain1_any _ _ W))))
          go_wp2_with fail
          go_ret
          rw [decide_eq_false hne.out]
          exact ⟨rfl, drawn2 _ _ _⟩
      · go_wp2_with fail
        go_ret
        have he : xs = ys := by
          have h1 := ht.out
          rw [List.take_of_length_le (by omega), List.take_of_length_le (by have := Hlen.out; omega)] at h1
          exact h1
        rw [decide_eq_true he]
        exact ⟨rfl, drawn1 _ _⟩
  · have hl1 : ((xs.length : Int) != (ys.length : Int)) = true := by simp; omega
    have hne : xs ≠ ys := fun e => hlen (by rw [e])
    rw [decide_eq_false hne]
    go_enter Try.func81, Try.ntmps81
    go_wp2_with fail
    go_ret
    exact ⟨rfl, drawn0 _⟩

set_option maxHeartbeats 400000 in
theorem plain_any (A B : Option Addr) (c d : Nat) (F G : Nat → Prop) (xs ys : List Int) (w : World) (hx : Reads w F 1 A xs.length (u8s xs)) (hy : Reads w G 1 B ys.length (u8s ys)) (hl : xs.length < 140737488355328) :
    Calls Try.prog 54 #[.slice A xs.length c, .slice B ys.length d] w fun e w' => e = .returned (.bool (decide (xs = ys))) ∧ ∃ n, w' = w.drewN n := by
  have HS := Lib.hid (same_any A B c d F G xs ys w hx hy hl)
  go_enter Try.func54, Try.ntmps54
  go_wp2_with fail
  refine HS.out.mono ?_
  rintro e w1 ⟨rfl, n, rfl⟩
  go_wp2_with fail
  go_ret
  exact ⟨rfl, drawn1 _ _⟩
end Go.Proofs.Ytggoigdlggenfaa
