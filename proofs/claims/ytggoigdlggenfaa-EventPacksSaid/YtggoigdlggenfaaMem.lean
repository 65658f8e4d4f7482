/- Words for memory: a slice that reads as a list of cells, a block that is known whole, appends onto rows of the call's own; plain facts, no program in sight. -/
import Derived.WalkKit
import Derived.WalkSpells
import Derived.WalkLawsBesides
import Derived.Lib.Hide
import Derived.Maps.AppendAt
import Derived.Deep.AppendLies
import Derived.Deep.Draws
import Derived.Deep.QuietTactic
import Derived.BigQuiet
import Derived.RegionTactic
import Derived.Laws.Rows
namespace Go.Proofs.Ytggoigdlggenfaa
open Go.RowKit

/-- A number of 64 bits without a sign, kept from the walk's arithmetic. -/
def U64 (q : Int) : Prop := 0 ≤ q ∧ q < 18446744073709551616
theorem U64.lo {q : Int} (h : U64 q) : 0 ≤ q := h.1
def I64 (q : Int) : Prop := -9223372036854775808 ≤ q ∧ q ≤ 9223372036854775807

theorem block_add (a : Addr) (n : Nat) : (a.add n).block = a.block := by unfold Addr.add; split <;> rfl
theorem add_add' (a : Addr) (i j : Nat) : (a.add i).add j = a.add (i + j) := by
  unfold Addr.add
  by_cases hi : i = 0 <;> by_cases hj : j = 0 <;> simp [hi, hj, Nat.add_assoc]
theorem add_lit' (b o n : Nat) : (⟨b, o, none⟩ : Addr).add n = ⟨b, o + n, none⟩ := by
  unfold Addr.add; split <;> simp_all

/-- The slice value '.slice A n c' holds the cells xs (n elements of that size), in a block that F tells. -/
def Reads (w : World) (F : Nat → Prop) (size : Nat) (A : Option Addr) (n : Nat) (xs : List Value) : Prop :=
  xs.length = n * size ∧ (0 < n → ∃ b off, A = some ⟨b, off, none⟩ ∧ F b ∧ b < w.heap.size ∧ ∀ j u, xs[j]? = some u → w.cell? ⟨b, off + j, none⟩ = some u)

section
variable {w w' : World} {F F' : Nat → Prop} {size n : Nat} {A : Option Addr} {xs : List Value}
theorem Reads.none_ : Reads w F size A 0 [] := ⟨by simp, fun h => absurd h (by omega)⟩
theorem Reads.keep (h : Reads w F size A n xs) (hs : w.heap.size ≤ w'.heap.size) (hk : ∀ b, F b → b < w.heap.size → w'.heap[b]? = w.heap[b]?) : Reads w' F size A n xs :=
  ⟨h.1, fun hn => by
    obtain ⟨b, off, e, hF, hb, hc⟩ := h.2 hn
    exact ⟨b, off, e, hF, by omega, fun j u hu => (World.cell?_of_block (w := w) (hk b hF hb)).trans (hc j u hu)⟩⟩
theorem Reads.more (h : Reads w F size A n xs) (hF : ∀ b, F b → b < w.heap.size → F' b) : Reads w F' size A n xs :=
  ⟨h.1, fun hn => by
    obtain ⟨b, off, e, hb, hl, hc⟩ := h.2 hn
    exact ⟨b, off, e, hF b hb hl, hl, hc⟩⟩
theorem Reads.drewN (h : Reads w F size A n xs) (k : Nat) : Reads (w.drewN k) F size A n xs := h
theorem Reads.drew (h : Reads w F size A n xs) : Reads w.drew F size A n xs := h
theorem Reads.alloc (h : Reads w F size A n xs) (o : Obj) : Reads (w.alloc o) F size A n xs :=
  h.keep (by simp) fun b _ hb => Below.heap_alloc w o b hb
theorem Reads.below (h : Reads w F size A n xs) (hb : Below w.heap.size w w') : Reads w' F size A n xs := h.keep hb.size fun b _ hl => hb.block b hl
theorem Reads.far (h : Reads w F size A n xs) {p : Addr} (hp : ∀ b, F b → b ≠ p.block) (u : Value) : Reads (w.setCell p u) F size A n xs :=
  h.keep (by simp [World.setCell]) fun b hF _ => Below.heap_setCell w p u b (hp b hF)
theorem Reads.grown (h : Reads w F size A n xs) {row : Option Nat} (hg : w.grownBy w' row) (hr : ∀ b, F b → some b ≠ row) : Reads w' F size A n xs :=
  h.keep hg.size fun b hF hl => hg.block b hl (hr b hF)
theorem Reads.at_ {k : Nat} (h : Reads w F 1 A n xs) (hk : k < n) : ∃ b off u, A = some ⟨b, off, none⟩ ∧ F b ∧ b < w.heap.size ∧ xs[k]? = some u ∧ w.cell? ⟨b, off + k, none⟩ = some u := by
  obtain ⟨b, off, e, hF, hb, hc⟩ := h.2 (by omega)
  have hl : k < xs.length := by have := h.1; omega
  exact ⟨b, off, xs[k], e, hF, hb, List.getElem?_eq_getElem hl, hc k _ (List.getElem?_eq_getElem hl)⟩
theorem Reads.cut (h : Reads w F size A n xs) {k cap : Nat} (hk : k ≤ n) (hc : n ≤ cap) :
    Reads w F size (if cap = k then A else A.map (·.add (k * size))) (n - k) (xs.drop (k * size)) := by
  refine ⟨by rw [List.length_drop, h.1, Nat.sub_mul], fun hn => ?_⟩
  obtain ⟨b, off, rfl, hF, hb, hcell⟩ := h.2 (by omega)
  rw [if_neg (by omega)]
  refine ⟨b, off + k * size, by simp [add_lit'], hF, hb, fun j u hu => ?_⟩
  rw [Nat.add_assoc]
  exact hcell _ u (by rw [← hu, List.getElem?_drop])
theorem Reads.slice (h : Reads w F size A n xs) {l k cap : Nat} (hl : l ≤ k) (hk : k ≤ n) (hc : n ≤ cap) :
    Reads w F size (if cap = l then A else A.map (·.add (l * size))) (k - l) ((xs.drop (l * size)).take ((k - l) * size)) := by
  refine ⟨?_, fun hn => ?_⟩
  · have e : n * size = l * size + (n - l) * size := by rw [← Nat.add_mul]; congr 1; omega
    have h2 : (k - l) * size ≤ (n - l) * size := Nat.mul_le_mul_right _ (by omega)
    rw [List.length_take, List.length_drop, h.1]
    omega
  obtain ⟨b, off, rfl, hF, hb, hcell⟩ := h.2 (by omega)
  rw [if_neg (by omega)]
  refine ⟨b, off + l * size, by simp [add_lit'], hF, hb, fun j u hu => ?_⟩
  rw [Nat.add_assoc]
  refine hcell _ u ?_
  rw [List.getElem?_take] at hu
  split at hu
  · rw [← hu, List.getElem?_drop]
  · cases hu
theorem Reads.slice1 (h : Reads w F 1 A n xs) {l k cap : Nat} (hl : l ≤ k) (hk : k ≤ n) (hc : n ≤ cap) :
    Reads w F 1 (if cap = l then A else A.map (·.add l)) (k - l) ((xs.drop l).take (k - l)) := by
  have := h.slice hl hk hc
  simpa only [Nat.mul_one] using this
theorem Reads.of_own {base : Nat} {e : TypeId} {c : Nat} (h : w.ownsRow base e size (.slice A n c) n xs) (hF : ∀ b, (Value.slice A n c).ownBlock = some b → F b) : Reads w F size A n xs := by
  refine ⟨h.1, fun hn => ?_⟩
  obtain ⟨g, cap, hv, _, hlt⟩ := h.form hn
  have hA : A = some ⟨g, 0, none⟩ := by injection hv
  subst hA
  refine ⟨g, 0, rfl, hF g rfl, hlt, fun j u hu => ?_⟩
  have := h.cells (g := g) rfl j u hu
  rw [add_lit'] at this
  exact this
end

/-- Block g is just the cells cs of element type t, none frozen. -/
def Blk (w : World) (g : Nat) (t : TypeId) (cs : Array Value) : Prop := w.heap[g]? = some (.cells cs t (0, 0))
section
variable {w w' : World} {g : Nat} {t : TypeId} {cs : Array Value}
theorem Blk.lt (h : Blk w g t cs) : g < w.heap.size := by
  rcases Nat.lt_or_ge g w.heap.size with hlt | hge
  · exact hlt
  · unfold Blk at h; rw [Array.getElem?_eq_none hge] at h; cases h
theorem Blk.cell (h : Blk w g t cs) (i : Nat) : w.cell? ⟨g, i, none⟩ = cs[i]? := cell_of_row w g i cs t (0, 0) h
theorem Blk.frozen (h : Blk w g t cs) (i : Nat) : w.frozen? ⟨g, i, none⟩ = false := by
  unfold Blk at h
  simp [World.frozen?, h]
theorem Blk.new (w : World) (t : TypeId) (cs : Array Value) : Blk (w.alloc (.cells cs t)) w.heap.size t cs := heap_alloc_new w _
theorem Blk.drewN (h : Blk w g t cs) (n : Nat) : Blk (w.drewN n) g t cs := h
theorem Blk.drew (h : Blk w g t cs) : Blk w.drew g t cs := h
theorem Blk.alloc (h : Blk w g t cs) (o : Obj) : Blk (w.alloc o) g t cs := (Below.heap_alloc w o g h.lt).trans h
theorem Blk.set_ (h : Blk w g t cs) (i : Nat) (u : Value) : Blk (w.setCell ⟨g, i, none⟩ u) g t (cs.setIfInBounds i u) := by
  unfold Blk at h ⊢
  simp [World.setCell, Array.getElem?_modify, h]
theorem Blk.far (h : Blk w g t cs) {p : Addr} (hp : g ≠ p.block) (u : Value) : Blk (w.setCell p u) g t cs := (Below.heap_setCell w p u g hp).trans h
theorem Blk.below {B : Nat} (h : Blk w g t cs) (hb : Below B w w') (hg : g < B) : Blk w' g t cs := (hb.block g hg).trans h
theorem Blk.grown {row : Option Nat} (h : Blk w g t cs) (hb : w.grownBy w' row) (hg : some g ≠ row) : Blk w' g t cs := (hb.block g h.lt hg).trans h
theorem Blk.ne_ {g' : Nat} {t' : TypeId} {cs' : Array Value} (h : Blk w g t cs) (h' : Blk w g' t' cs') (hne : t ≠ t') : g ≠ g' := by
  rintro rfl
  unfold Blk at h h'
  rw [h] at h'
  injection h' with h'
  injection h' with _ ht
  exact hne ht
theorem own_blk_ne {base : Nat} {e : TypeId} {size n : Nat} {v : Value} {xs : List Value} (h : w.ownsRow base e size v n xs) (hg : Blk w g t cs) (hne : e ≠ t) : v.ownBlock ≠ some g := by
  rcases h.2 with ⟨rfl, _⟩ | ⟨g', cap, cur, rfl, _, hh, _⟩
  · simp [Value.ownBlock]
  · intro he
    have : g' = g := by simpa [Value.ownBlock] using he
    subst this
    exact Blk.ne_ (t := e) hh hg hne rfl
end

/-- Of what was there only blocks that M tells may have turned. -/
structure Frm (M : Nat → Prop) (w w' : World) : Prop where
  os : w'.os = w.os
  tape : w'.tape = w.tape
  output : w'.output = w.output
  size : w.heap.size ≤ w'.heap.size
  block : ∀ k, k < w.heap.size → ¬ M k → w'.heap[k]? = w.heap[k]?

section
variable {M M' : Nat → Prop} {a w w' : World}
theorem Frm.refl (M : Nat → Prop) (w : World) : Frm M w w := ⟨rfl, rfl, rfl, Nat.le_refl _, fun _ _ _ => rfl⟩
theorem Frm.trans (h : Frm M a w) (k : Frm M' w w') (hm : ∀ b, b < a.heap.size → M' b → M b) : Frm M a w' :=
  ⟨k.os.trans h.os, k.tape.trans h.tape, k.output.trans h.output, Nat.le_trans h.size k.size, fun i hi hn =>
    (k.block i (Nat.lt_of_lt_of_le hi h.size) (fun e => hn (hm i hi e))).trans (h.block i hi hn)⟩
theorem Frm.mono (h : Frm M a w) (hm : ∀ b, b < a.heap.size → M b → M' b) : Frm M' a w := ⟨h.os, h.tape, h.output, h.size, fun i hi hn => h.block i hi (fun e => hn (hm i hi e))⟩
theorem Frm.drewN (h : Frm M a w) (n : Nat) : Frm M a (w.drewN n) := ⟨h.os, h.tape, h.output, h.size, h.block⟩
theorem Frm.drew (h : Frm M a w) : Frm M a w.drew := ⟨h.os, h.tape, h.output, h.size, h.block⟩
theorem Frm.alloc (h : Frm M a w) (o : Obj) : Frm M a (w.alloc o) :=
  ⟨h.os, h.tape, h.output, Nat.le_trans h.size (by simp), fun i hi hn => (Below.heap_alloc w o i (Nat.lt_of_lt_of_le hi h.size)).trans (h.block i hi hn)⟩
theorem Frm.set (h : Frm M a w) {p : Addr} (hp : p.block < a.heap.size → M p.block) (u : Value) : Frm M a (w.setCell p u) :=
  ⟨h.os, h.tape, h.output, by simpa [World.setCell] using h.size, fun i hi hn => (Below.heap_setCell w p u i (fun e => hn (e ▸ hp (e ▸ hi)))).trans (h.block i hi hn)⟩
theorem Frm.of_below (h : Below a.heap.size a w) (M : Nat → Prop) : Frm M a w := ⟨h.os, h.tape, h.output, h.size, fun i hi _ => h.block i hi⟩
theorem Frm.below (h : Frm M a w) {B : Nat} (hB : B ≤ a.heap.size) (hm : ∀ b, b < B → ¬ M b) : Below B a w := ⟨h.os, h.tape, h.output, h.size, fun i hi => h.block i (by omega) (hm i hi)⟩
theorem Frm.grown {row : Option Nat} (h : Frm M a w) (k : w.grownBy w' row) (hm : ∀ b, row = some b → b < a.heap.size → M b) : Frm M a w' :=
  ⟨k.os.trans h.os, k.tape.trans h.tape, k.output.trans h.output, Nat.le_trans h.size k.size, fun i hi hn =>
    (k.block i (Nat.lt_of_lt_of_le hi h.size) (fun e => hn (hm i e.symm hi))).trans (h.block i hi hn)⟩
theorem below_frm {B : Nat} (h : Below B a w) (k : Frm M w w') (hB : B ≤ a.heap.size) (hm : ∀ b, b < B → ¬ M b) : Below B a w' :=
  h.trans ⟨k.os, k.tape, k.output, k.size, fun i hi => k.block i (by have := h.size; omega) (hm i hi)⟩
theorem Reads.frm {F : Nat → Prop} {size n : Nat} {A : Option Addr} {xs : List Value} (h : Reads w F size A n xs) (k : Frm M w w') (hd : ∀ b, F b → ¬ M b) : Reads w' F size A n xs :=
  h.keep k.size fun b hF hl => k.block b hl (hd b hF)
theorem Blk.frm {g : Nat} {t : TypeId} {cs : Array Value} (h : Blk w g t cs) (k : Frm M w w') (hd : ¬ M g) : Blk w' g t cs := (k.block g h.lt hd).trans h
theorem own_frm {base e size n : Nat} {v : Value} {xs : List Value} (h : w.ownsRow base e size v n xs) (k : Frm M w w') (hd : ∀ b, v.ownBlock = some b → ¬ M b) : w'.ownsRow base e size v n xs := by
  refine ⟨h.1, ?_⟩
  rcases h.2 with hn | ⟨g, cap, cur, rfl, hb, hgg, rest⟩
  · exact .inl hn
  · refine .inr ⟨g, cap, cur, rfl, hb, ?_, rest⟩
    rw [k.block g (Array.getElem?_eq_some_iff.1 hgg).1 (hd g rfl)]
    exact hgg
theorem own_below {base e size n : Nat} {v : Value} {xs : List Value} (h : w.ownsRow base e size v n xs) (k : Below w.heap.size w w') : w'.ownsRow base e size v n xs :=
  own_frm h (Frm.of_below k (fun _ => False)) (fun _ _ h => h)
theorem own_drewN {base e size n : Nat} {v : Value} {xs : List Value} (h : w.ownsRow base e size v n xs) (k : Nat) : (w.drewN k).ownsRow base e size v n xs := h
theorem own_lower {base base' e size n : Nat} {v : Value} {xs : List Value} (h : w.ownsRow base e size v n xs) (hb : base' ≤ base) : w.ownsRow base' e size v n xs := by
  refine ⟨h.1, ?_⟩
  rcases h.2 with hn | ⟨g, cap, cur, rfl, hg, rest⟩
  · exact .inl hn
  · exact .inr ⟨g, cap, cur, rfl, by omega, rest⟩
end

section
variable {P : Program} (w : World)
theorem run_append_of_nil (base : Nat) (t ty e : TypeId) (i : TypeInfo) (size : Nat) (ht : P.underlying t = some (.slice e)) (hi : P.info? e = some i)
    (v : Value) (n : Nat) (xs : List Value) (hown : w.ownsRow base e size v n xs) (c : Nat) : (Builtin.append_ #[t, t] ty #[v, .slice none 0 c]).run P w = .ok v w := by
  rcases hown.2 with ⟨rfl, rfl⟩ | ⟨g, cap, cur, rfl, _, _, hnc, _⟩
  · simp [Builtin.append_, run_underlying ht, sizeOf, typeInfo, hi, Builtin.lenOf, Builtin.firstCells]
  · simp [Builtin.append_, run_underlying ht, sizeOf, typeInfo, hi, Builtin.lenOf, Builtin.firstCells, hnc, storeCells]
theorem run_append_any (base : Nat) (t ty e : TypeId) (i : TypeInfo) (z : Value) (size bytes : Nat) (ht : P.underlying t = some (.slice e)) (hi : P.info? e = some i) (hz : i.zero = some z)
    (hsize : i.size = size) (hby : i.bytes = bytes) (hzs : z.cells.size = size) (hsz : 0 < size)
    (v : Value) (n : Nat) (xs : List Value) (hown : w.ownsRow base e size v n xs)
    (F : Nat → Prop) (A : Option Addr) (m c : Nat) (news : List Value) (hr : Reads w F size A m news) (h1 : ∀ u ∈ news, u.oneCell' = true)
    (h63 : n + m ≤ maxLen) (hbytes : (n + m) * bytes ≤ 140737488355328) (hbase : base ≤ w.heap.size) :
    ∃ v' w', (Builtin.append_ #[t, t] ty #[v, .slice A m c]).run P w = .ok v' w' ∧ w'.ownsRow base e size v' (n + m) (xs ++ news) ∧ w.grownBy w' v.ownBlock ∧
      (v'.ownBlock = v.ownBlock ∨ v'.ownBlock = some w.heap.size) := by
  rcases Nat.eq_zero_or_pos m with h0 | h0
  · subst h0
    have hn : news = [] := List.eq_nil_of_length_eq_zero (by simpa using hr.1)
    subst hn
    rcases A with _ | ad
    · exact ⟨v, w, run_append_of_nil w base t ty e i size ht hi v n xs hown c, by simpa using hown, World.grownBy.refl w _, .inl rfl⟩
    · obtain ⟨v', w', hrun, h2, h3, _, h5⟩ := run_append_own_at (P := P) w base t ty e i z size bytes ht hi hz hsize hby hzs hsz v n xs hown ad 0 c [] hr.1 (by simp) h1 h63 hbytes hbase
      exact ⟨v', w', hrun, h2, h3, h5⟩
  · obtain ⟨b, off, rfl, _, _, hc⟩ := hr.2 h0
    obtain ⟨v', w', hrun, h2, h3, _, h5⟩ := run_append_own_at (P := P) w base t ty e i z size bytes ht hi hz hsize hby hzs hsz v n xs hown ⟨b, off, none⟩ m c news hr.1 (by intro j u hu; rw [add_lit']; exact hc j u hu) h1 h63 hbytes hbase
    exact ⟨v', w', hrun, h2, h3, h5⟩

end

/-- Behind an append the row is where it was, or in block n. -/
def NewOr (v v' : Value) (n : Nat) : Prop := v'.ownBlock = v.ownBlock ∨ v'.ownBlock = some n

/-- What the program's tables say of a slice type t and its element type e: how many cells, how many bytes. -/
def Elt (P : Program) (t e : TypeId) (size bytes : Nat) : Prop :=
  ∃ i z, P.underlying t = some (.slice e) ∧ P.info? e = some i ∧ i.zero = some z ∧ i.size = size ∧ i.bytes = bytes ∧ z.cells.size = size ∧ 0 < size ∧ 0 < bytes
theorem Elt.mk {P : Program} {t e : TypeId} {z : Value} {size bytes : Nat} (ht : P.underlying t = some (.slice e)) (h : (P.info? e).map (fun i => (i.zero, i.size, i.bytes)) = some (some z, size, bytes))
    (hz : z.cells.size = size) (hs : 0 < size) (hb : 0 < bytes) : Elt P t e size bytes := by
  obtain ⟨i, hi, h0, h1, h2⟩ := info_parts h
  exact ⟨i, z, ht, hi, h0, h1, h2, hz, hs, hb⟩

section
variable {P : Program} {w : World}
theorem fits_maxLen {n m bytes : Nat} (hb : 0 < bytes) (h : (n + m) * bytes ≤ 140737488355328) : n + m ≤ maxLen := by
  have : (n + m) * 1 ≤ (n + m) * bytes := Nat.mul_le_mul_left _ hb
  unfold maxLen; omega

theorem wp_append_any {o : Oper} {a : Act} {K : Act → World → Prop} {Q : Exit → Act → World → Prop} {s x : Operand} {t e : TypeId} {base size bytes : Nat} {v : Value} {n : Nat} {xs : List Value}
    {F : Nat → Prop} {A : Option Addr} {m c : Nat} {news : List Value} (E : Elt P t e size bytes) (hown : w.ownsRow base e size v n xs) (hr : Reads w F size A m news) (h1 : ∀ u ∈ news, u.oneCell' = true)
    (ho : o.op = .call { callee := .builtin .append, args := #[s, x], argTypes := #[t, t] }) (hs : a.eval s = v) (hx : a.eval x = .slice A m c)
    (hbytes : (n + m) * bytes ≤ 140737488355328) (hbase : base ≤ w.heap.size)
    (h : ∀ v' w', w'.ownsRow base e size v' (n + m) (xs ++ news) → Frm (fun k => v.ownBlock = some k) w w' → NewOr v v' w.heap.size → K (a.put o.dst v') w') : o.wp P a w K Q := by
  obtain ⟨i, z, ht, hi, hz, hsize, hby, hzs, hsz, hb⟩ := E
  obtain ⟨v', w', hrun, h2, h3, h4⟩ := run_append_any (P := P) w base t o.type e i z size bytes ht hi hz hsize hby hzs hsz v n xs hown F A m c news hr h1 (fits_maxLen hb hbytes) hbytes hbase
  unfold Oper.wp execOp
  simp only [ho, resolve, invoke, builtin, Sem.run_bind, Sem.run_pure, Result.andThen_ok, List.map_toArray, List.map_cons, List.map_nil, hs, hx, hrun]
  exact h v' w' h2 ((Frm.refl _ w).grown h3 (fun b hb _ => hb)) h4

theorem wpList_append_any {ops : Array Oper} {rest : List Oper} {o : Oper} {a : Act} {Q : Exit → Act → World → Prop} {s x : Operand} {t e : TypeId} {base size bytes : Nat} {v : Value} {n : Nat} {xs : List Value}
    {F : Nat → Prop} {A : Option Addr} {m c : Nat} {news : List Value} (E : Elt P t e size bytes) (hown : w.ownsRow base e size v n xs) (hr : Reads w F size A m news) (h1 : ∀ u ∈ news, u.oneCell' = true)
    (hgd : o.guard = none) (ho : o.op = .call { callee := .builtin .append, args := #[s, x], argTypes := #[t, t] }) (hs : a.eval s = v) (hx : a.eval x = .slice A m c)
    (hbytes : (n + m) * bytes ≤ 140737488355328) (hbase : base ≤ w.heap.size)
    (h : ∀ v' w', w'.ownsRow base e size v' (n + m) (xs ++ news) → Frm (fun k => v.ownBlock = some k) w w' → NewOr v v' w.heap.size → wpList P ops Q rest (a.put o.dst v') w') : wpList P ops Q (o :: rest) a w :=
  wpList_plain hgd fun _ hK => wp_append_any E hown hr h1 ho hs hx hbytes hbase fun v' w' h2 h3 h4 => hK _ _ (h v' w' h2 h3 h4)

/-- 'append(s, x)' of one element, x of some cells: the walk has laid x into a new block. -/
theorem wpList_push {ops : Array Oper} {rest : List Oper} {o : Oper} {a : Act} {Q : Exit → Act → World → Prop} {s x : Operand} {t e te : TypeId} {base size bytes : Nat} {v : Value} {n : Nat} {xs : List Value}
    {us : List Value} {c : Nat} (E : Elt P t e size bytes) (hown : w.ownsRow base e size v n xs)
    (hgd : o.guard = none) (ho : o.op = .call { callee := .builtin .append, args := #[s, x], argTypes := #[t, t] }) (hs : a.eval s = v) (hx : a.eval x = .slice (some ⟨w.heap.size, 0, none⟩) 1 c)
    (hus : us.length = size) (h1 : ∀ u ∈ us, u.oneCell' = true) (hbytes : (n + 1) * bytes ≤ 140737488355328) (hbase : base ≤ w.heap.size)
    (h : ∀ v' w', w'.ownsRow base e size v' (n + 1) (xs ++ us) → Frm (fun k => v.ownBlock = some k) w w' → NewOr v v' (w.heap.size + 1) → wpList P ops Q rest (a.put o.dst v') w') :
    wpList P ops Q (o :: rest) a (w.alloc (.cells us.toArray te)) := by
  refine wpList_append_any (w := w.alloc (.cells us.toArray te)) (F := fun _ => True) (m := 1) (news := us) E (hown.alloc _) ?_ h1 hgd ho hs hx hbytes (by simp; omega) ?_
  · refine ⟨by omega, fun _ => ⟨w.heap.size, 0, rfl, trivial, by simp, fun j y hy => ?_⟩⟩
    rw [Nat.zero_add, cell_of_row _ _ _ _ _ (0, 0) (heap_alloc_new w _)]
    simpa using hy
  · intro v' w' hown' hg hat
    exact h v' w' hown' (((Frm.refl _ w).alloc _).trans hg (fun b _ hb => hb)) (by simpa [NewOr] using hat)
end

section
variable {P : Program} {w : World}
/-- 'append' within the capacity, onto a row of the call's own. -/
theorem run_append_fits {t ty e : TypeId} {size bytes base g k cap m c : Nat} {xs news : List Value} {F : Nat → Prop} {A : Option Addr} (E : Elt P t e size bytes)
    (hown : w.ownsRow base e size (.slice (some ⟨g, 0, none⟩) k cap) k xs) (hr : Reads w F size A m news) (h1 : ∀ u ∈ news, u.oneCell' = true) (hroom : k + m ≤ cap) :
    ∃ w', (Builtin.append_ #[t, t] ty #[.slice (some ⟨g, 0, none⟩) k cap, .slice A m c]).run P w = .ok (.slice (some ⟨g, 0, none⟩) (k + m) cap) w' ∧
      w'.ownsRow base e size (.slice (some ⟨g, 0, none⟩) (k + m) cap) (k + m) (xs ++ news) ∧ Frm (· = g) w w' := by
  obtain ⟨i, z, ht, hi, hz, hsize, hby, hzs, hsz, hb⟩ := E
  subst hsize
  rcases Nat.eq_zero_or_pos m with h0 | h0
  · subst h0
    have hn : news = [] := List.eq_nil_of_length_eq_zero (by simpa using hr.1)
    subst hn
    refine ⟨w, ?_, by simpa using hown, Frm.refl _ _⟩
    have hk : k ≤ cap := by omega
    cases A with
    | none => simp [Builtin.append_, run_underlying ht, sizeOf, typeInfo, hi, Builtin.lenOf, Builtin.firstCells, hk, storeCells]
    | some a => simp [Builtin.append_, run_underlying ht, sizeOf, typeInfo, hi, Builtin.lenOf, Builtin.firstCells, hk, storeCells, loadCells, loadCellsFrom]
  · obtain ⟨b, off, rfl, _, _, hc⟩ := hr.2 h0
    rcases hown.2 with ⟨h, _⟩ | ⟨g', cap', cur, hv, hbg, hg, hnc, hcm, hcs, htake⟩
    · cases h
    · injection hv with hv1 hv2 hv3
      injection hv1 with hv1
      injection hv1 with hv1
      subst hv1; subst hv3
      have hfit : k * i.size + news.length ≤ cur.size := by rw [hr.1, hcs, ← Nat.add_mul]; exact Nat.mul_le_mul_right _ hroom
      have hrun := run_append_room (P := P) w t ty e i ht hi g k cap cur hg ⟨b, off, none⟩ m c news hr.1 (by intro j u hu; rw [add_lit']; exact hc j u hu) h1 hroom hfit
      have hlen : (xs ++ news).length = (k + m) * i.size := by rw [List.length_append, hown.1, hr.1, Nat.add_mul]
      refine ⟨_, hrun, ⟨hlen, .inr ⟨g, cap, _, rfl, hbg, setRow_heap w g cur _ e _ hg, hroom, hcm, ?_, ?_⟩⟩, ⟨rfl, rfl, rfl, by simp, fun j _ hj => setRow_other w g j _ (fun e => hj e)⟩⟩
      · simp only [List.size_toArray, List.length_append, List.length_take, List.length_drop, Array.length_toList]
        omega
      · rw [htake, ← hlen]
        exact List.take_left

theorem wpList_append_fits {ops : Array Oper} {rest : List Oper} {o : Oper} {a : Act} {Q : Exit → Act → World → Prop} {s x : Operand} {t e : TypeId} {size bytes base g k cap m c : Nat} {xs news : List Value} {F : Nat → Prop} {A : Option Addr} (E : Elt P t e size bytes)
    (hown : w.ownsRow base e size (.slice (some ⟨g, 0, none⟩) k cap) k xs) (hr : Reads w F size A m news) (h1 : ∀ u ∈ news, u.oneCell' = true) (hroom : k + m ≤ cap)
    (hgd : o.guard = none) (ho : o.op = .call { callee := .builtin .append, args := #[s, x], argTypes := #[t, t] }) (hs : a.eval s = .slice (some ⟨g, 0, none⟩) k cap) (hx : a.eval x = .slice A m c)
    (h : ∀ w', w'.ownsRow base e size (.slice (some ⟨g, 0, none⟩) (k + m) cap) (k + m) (xs ++ news) → Frm (· = g) w w' → wpList P ops Q rest (a.put o.dst (.slice (some ⟨g, 0, none⟩) (k + m) cap)) w') : wpList P ops Q (o :: rest) a w := by
  obtain ⟨w', hrun, h2, h3⟩ := run_append_fits (P := P) (c := c) (ty := o.type) E hown hr h1 hroom
  refine wpList_plain hgd fun K hK => ?_
  unfold Oper.wp execOp
  simp only [ho, resolve, invoke, builtin, Sem.run_bind, Sem.run_pure, Result.andThen_ok, List.map_toArray, List.map_cons, List.map_nil, hs, hx, hrun]
  exact hK _ _ (h w' h2 h3)

/-- 'make([]T, 0, c)': an empty row of the call's own with room for c. -/
theorem wpList_make0 {ops : Array Oper} {rest : List Oper} {o : Oper} {a : Act} {Q : Exit → Act → World → Prop} {l c : Operand} {t e : TypeId} {size bytes base : Nat} {kl kc : IntKind} {Ci : Int} (C : Nat) (E : Elt P t e size bytes)
    (hgd : o.guard = none) (hop : o.op = Op.makeSlice t l c) (hl : a.eval l = .int kl 0) (hc : a.eval c = .int kc Ci) (hC : Ci = (C : Int)) (hb : bytes * C ≤ 140737488355328) (hbase : base ≤ w.heap.size)
    (h : ∀ w', w'.ownsRow base e size (.slice (some ⟨w.heap.size, 0, none⟩) 0 C) 0 [] → Frm (fun _ => False) w w' → wpList P ops Q rest (a.put o.dst (.slice (some ⟨w.heap.size, 0, none⟩) 0 C)) w') : wpList P ops Q (o :: rest) a w := by
  obtain ⟨i, z, ht, hi, hz, hsize, hby, hzs, hsz, hb0⟩ := E
  have hC2 : C ≤ 140737488355328 := by
    have : 1 * C ≤ bytes * C := Nat.mul_le_mul_right _ hb0
    omega
  exact wpList_make_own w hgd l c t hop base e i z size ht hi hz hsize kl kc Ci C hl hc hC (by rw [hby]; omega) (by unfold maxLen; omega) hbase fun w' h1 h2 => h w' h1 ((Frm.refl _ w).grown h2 (fun b hb => by cases hb))
end

theorem below_drewN {B : Nat} {a w : World} (h : Below B a w) (n : Nat) : Below B a (w.drewN n) := ⟨h.os, h.tape, h.output, h.size, h.block⟩
/-- Nothing that was there has turned, twice. -/
theorem bt {a b c : World} (h : Below a.heap.size a b) (k : Below b.heap.size b c) : Below a.heap.size a c := h.trans (k.mono h.size)
theorem below_of_drawn {a b : World} (h : ∃ n, b = a.drewN n) : Below a.heap.size a b := by
  obtain ⟨n, rfl⟩ := h
  exact below_drewN (Below.refl _ _) n

/-- A quiet callee in a quiet region, whether or not draws have been made before. -/
theorem quiet_same {P : Program} {f : FuncId} {args : Array Value} {w : World} {n : Nat} {v : Value}
    (h : ∀ W : World, W = w.drewN n → Calls P f args W fun e w' => e = .returned v ∧ ∃ k, w' = W.drewN k) : Calls P f args (w.drewN n) fun e w'' => e = .returned v ∧ ∃ m, w'' = w.drewN m :=
  (h _ rfl).mono fun _ _ ⟨he, k, hm⟩ => ⟨he, n + k, by rw [hm, World.drewN_drewN]⟩
theorem quiet_add {P : Program} {f : FuncId} {args : Array Value} {w : World} {a n : Nat} {v : Value}
    (h : ∀ W : World, W = w.drewN (a + n) → Calls P f args W fun e w' => e = .returned v ∧ ∃ k, w' = W.drewN k) : Calls P f args (w.drewN (a + n)) fun e w'' => e = .returned v ∧ ∃ m, w'' = w.drewN (a + m) :=
  (h _ rfl).mono fun _ _ ⟨he, k, hm⟩ => ⟨he, n + k, by rw [hm, World.drewN_drewN, Nat.add_assoc]⟩
theorem drawn_eq {P : Program} {f : FuncId} {args : Array Value} {w : World} {v : Value}
    (h : Calls P f args w fun e w' => e = .returned v ∧ w' = w) : Calls P f args w fun e w' => e = .returned v ∧ ∃ k, w' = w.drewN k :=
  h.mono fun _ _ ⟨he, hm⟩ => ⟨he, 0, hm⟩

/-- Only draws have been made. -/
theorem drawn0 (w : World) : ∃ n, w = w.drewN n := ⟨0, rfl⟩
theorem drawn1 (w : World) (m : Nat) : ∃ n, w.drewN m = w.drewN n := ⟨m, rfl⟩
theorem drawn2 (w : World) (m k : Nat) : ∃ n, (w.drewN m).drewN k = w.drewN n := ⟨m + k, World.drewN_drewN _ _ _⟩

theorem ret1 {a a' : Value} (h : a = a') : Ending.returned a = .returned a' := by rw [h]
theorem ret2 {a b a' b' : Value} (h : a = a') (k : b = b') : Ending.returned (.tuple #[a, b]) = .returned (.tuple #[a', b']) := by rw [h, k]
theorem ret3 {a b c a' b' c' : Value} (h : a = a') (k : b = b') (l : c = c') : Ending.returned (.tuple #[a, b, c]) = .returned (.tuple #[a', b', c']) := by rw [h, k, l]
theorem vi {k : IntKind} {a b : Int} (h : a = b) : Value.int k a = Value.int k b := by rw [h]

end Go.Proofs.Ytggoigdlggenfaa
