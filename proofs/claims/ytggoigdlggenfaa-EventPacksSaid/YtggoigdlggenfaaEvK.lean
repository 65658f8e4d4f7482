/- How an event and an answer that come in read. -/
import Derived.Test.YtggoigdlggenfaaLawE1
import Derived.Test.YtggoigdlggenfaaKind
namespace Go.Proofs.Ytggoigdlggenfaa
open Go.RowKit Go.Proofs.Ytggoigdlggenfaa.Plain

abbrev askT := (Kind.pair (Kind.int .i64) (Kind.pair (Kind.int .i64) (Kind.pair (Kind.int .i64) (Kind.pair (Kind.int .i64) (Kind.pair (Kind.int .i64) (Kind.pair (Kind.int .i64) Kind.unit))))))
theorem askT_opens {H : Type} {enc : TypeId × Value → H} {W : World} : Opens enc Try.prog W 44 askT :=
  opens_struct Try.underlying44 (by kernel_rfl) ⟨by kernel_rfl, by kernel_rfl, by kernel_rfl, by kernel_rfl, by kernel_rfl, by kernel_rfl, trivial⟩ (opens_cons (opens_int Try.underlying3) (by kernel_rfl) (opens_cons (opens_int Try.underlying3) (by kernel_rfl) (opens_cons (opens_int Try.underlying3) (by kernel_rfl) (opens_cons (opens_int Try.underlying3) (by kernel_rfl) (opens_cons (opens_int Try.underlying2) (by kernel_rfl) (opens_cons (opens_int Try.underlying2) (by kernel_rfl) opens_nil))))))
theorem askT_sees {w : World} {F : Nat → Prop} {x : _} {cs : List Value} (h : askT.sees w F x cs) : cs = [.int .i64 x.1, .int .i64 x.2.1, .int .i64 x.2.2.1, .int .i64 x.2.2.2.1, .int .i64 x.2.2.2.2.1, .int .i64 x.2.2.2.2.2.1] := by
  obtain ⟨_, _, rfl, rfl, _, _, rfl, rfl, _, _, rfl, rfl, _, _, rfl, rfl, _, _, rfl, rfl, _, _, rfl, rfl, rfl⟩ := h
  rfl
abbrev planT := (Kind.pair (Kind.int .i64) (Kind.pair (Kind.int .i64) (Kind.pair (Kind.int .i64) (Kind.pair (Kind.int .i64) (Kind.pair (Kind.int .i64) (Kind.pair (Kind.int .i64) Kind.unit))))))
theorem planT_opens {H : Type} {enc : TypeId × Value → H} {W : World} : Opens enc Try.prog W 48 planT :=
  opens_struct Try.underlying48 (by kernel_rfl) ⟨by kernel_rfl, by kernel_rfl, by kernel_rfl, by kernel_rfl, by kernel_rfl, by kernel_rfl, trivial⟩ (opens_cons (opens_int Try.underlying3) (by kernel_rfl) (opens_cons (opens_int Try.underlying3) (by kernel_rfl) (opens_cons (opens_int Try.underlying3) (by kernel_rfl) (opens_cons (opens_int Try.underlying2) (by kernel_rfl) (opens_cons (opens_int Try.underlying2) (by kernel_rfl) (opens_cons (opens_int Try.underlying2) (by kernel_rfl) opens_nil))))))
theorem planT_sees {w : World} {F : Nat → Prop} {x : _} {cs : List Value} (h : planT.sees w F x cs) : cs = [.int .i64 x.1, .int .i64 x.2.1, .int .i64 x.2.2.1, .int .i64 x.2.2.2.1, .int .i64 x.2.2.2.2.1, .int .i64 x.2.2.2.2.2.1] := by
  obtain ⟨_, _, rfl, rfl, _, _, rfl, rfl, _, _, rfl, rfl, _, _, rfl, rfl, _, _, rfl, rfl, _, _, rfl, rfl, rfl⟩ := h
  rfl
abbrev evT := (Kind.pair (Kind.int .i64) (Kind.pair (Kind.int .i64) (Kind.pair (Kind.int .i64) (Kind.pair (Kind.int .i64) (Kind.pair (Kind.int .i64) (Kind.pair (Kind.int .i64) (Kind.pair askT Kind.unit)))))))
theorem evT_opens {H : Type} {enc : TypeId × Value → H} {W : World} : Opens enc Try.prog W 46 evT :=
  opens_struct Try.underlying46 (by kernel_rfl) ⟨by kernel_rfl, by kernel_rfl, by kernel_rfl, by kernel_rfl, by kernel_rfl, by kernel_rfl, by kernel_rfl, trivial⟩ (opens_cons (opens_int Try.underlying3) (by kernel_rfl) (opens_cons (opens_int Try.underlying3) (by kernel_rfl) (opens_cons (opens_int Try.underlying3) (by kernel_rfl) (opens_cons (opens_int Try.underlying3) (by kernel_rfl) (opens_cons (opens_int Try.underlying2) (by kernel_rfl) (opens_cons (opens_int Try.underlying2) (by kernel_rfl) (opens_cons askT_opens (by kernel_rfl) opens_nil)))))))
theorem evT_sees {w : World} {F : Nat → Prop} {x : _} {cs : List Value} (h : evT.sees w F x cs) : cs = [.int .i64 x.1, .int .i64 x.2.1, .int .i64 x.2.2.1, .int .i64 x.2.2.2.1, .int .i64 x.2.2.2.2.1, .int .i64 x.2.2.2.2.2.1, .int .i64 x.2.2.2.2.2.2.1.1, .int .i64 x.2.2.2.2.2.2.1.2.1, .int .i64 x.2.2.2.2.2.2.1.2.2.1, .int .i64 x.2.2.2.2.2.2.1.2.2.2.1, .int .i64 x.2.2.2.2.2.2.1.2.2.2.2.1, .int .i64 x.2.2.2.2.2.2.1.2.2.2.2.2.1] := by
  obtain ⟨_, _, rfl, rfl, _, _, rfl, rfl, _, _, rfl, rfl, _, _, rfl, rfl, _, _, rfl, rfl, _, _, rfl, rfl, _, _, rfl, h, rfl⟩ := h
  rw [askT_sees h]
  rfl
abbrev ansT := (Kind.pair (Kind.int .i64) (Kind.pair planT Kind.unit))
theorem ansT_opens {H : Type} {enc : TypeId × Value → H} {W : World} : Opens enc Try.prog W 50 ansT :=
  opens_struct Try.underlying50 (by kernel_rfl) ⟨by kernel_rfl, by kernel_rfl, trivial⟩ (opens_cons (opens_int Try.underlying37) (by kernel_rfl) (opens_cons planT_opens (by kernel_rfl) opens_nil))
theorem ansT_sees {w : World} {F : Nat → Prop} {x : _} {cs : List Value} (h : ansT.sees w F x cs) : cs = [.int .i64 x.1, .int .i64 x.2.1.1, .int .i64 x.2.1.2.1, .int .i64 x.2.1.2.2.1, .int .i64 x.2.1.2.2.2.1, .int .i64 x.2.1.2.2.2.2.1, .int .i64 x.2.1.2.2.2.2.2.1] := by
  obtain ⟨_, _, rfl, rfl, _, _, rfl, h, rfl⟩ := h
  rw [planT_sees h]
  rfl
theorem arr_of_list {c : Array Value} {l : List Value} (h : c.toList = l) : c = l.toArray := by rw [← h]

theorem EventPacks_row (c0 : Array Value) (z0 : _) (c1 : Array Value) (z1 : _) (W : World) (_w0 : evT.ok z0) (s0 : evT.sees W (fun b => b < W.heap.size) z0 c0.toList) (_w1 : ansT.ok z1) (s1 : ansT.sees W (fun b => b < W.heap.size) z1 c1.toList) :
    Calls Try.prog 7 #[.agg c0, .agg c1] W fun e w' => e = .returned (.bool true) ∧ Below W.heap.size W w' := by
  rw [arr_of_list (evT_sees s0), arr_of_list (ansT_sees s1)]
  exact EventPacks_walk _ _ _ _ _ _ _ _ _ _ _ _ _ _ _ _ _ _ _ W
end Go.Proofs.Ytggoigdlggenfaa
