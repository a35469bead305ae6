/- Parts of the proof: Words on memory that every other text of this seat uses: a relation that says which blocks may have changed, a block known whole, a slice that owns its block, and the laws for the operations that read or write several cells at once. Conditions stand in each lemma. -/
import Derived.WalkKit
import Derived.Laws.CopyOwn
import Derived.Laws.BytesArg
import Derived.Laws.MakeOwn

/- Words on memory that every other text of this seat uses: a relation that says which blocks may have changed, a block known whole, a slice that owns its block, and the laws for the operations that read or write several cells at once. Conditions stand in each lemma. -/
namespace Go.Proofs.YtnffnpndnaofhaaGreatDoor
open Go.RowKit

/-- A fact behind a name: the walk's simp does not take it for a rule. -/
theorem hid {p : Prop} (h : p) : Hid p := h

/-- The blocks in 'fp' may have changed, and new ones may have come; all else is as it was. -/
structure Pres (fp : List Nat) (w w' : World) : Prop where
  os : w'.os = w.os
  tape : w'.tape = w.tape
  output : w'.output = w.output
  size : w.heap.size ≤ w'.heap.size
  block : ∀ k, k < w.heap.size → k ∉ fp → w'.heap[k]? = w.heap[k]?

theorem Pres.refl (fp : List Nat) (w : World) : Pres fp w w := ⟨rfl, rfl, rfl, Nat.le_refl _, fun _ _ _ => rfl⟩

/-- Two steps; the second one's blocks are the first one's, or new. -/
theorem Pres.trans {fp fq : List Nat} {a b c : World} (h : Pres fp a b) (k : Pres fq b c) (hs : ∀ x ∈ fq, x ∈ fp ∨ a.heap.size ≤ x) : Pres fp a c :=
  ⟨k.os.trans h.os, k.tape.trans h.tape, k.output.trans h.output, Nat.le_trans h.size k.size, fun i hi hn =>
    (k.block i (Nat.lt_of_lt_of_le hi h.size) (fun hm => by rcases hs i hm with h1 | h1 <;> first | exact hn h1 | omega)).trans (h.block i hi hn)⟩

theorem Pres.then {fp : List Nat} {a b c : World} (h : Pres fp a b) (k : Pres [] b c) : Pres fp a c := h.trans k (by simp)

theorem Pres.wider {fp fq : List Nat} {a b : World} (h : Pres fp a b) (hs : ∀ x ∈ fp, x ∈ fq ∨ a.heap.size ≤ x) : Pres fq a b :=
  ⟨h.os, h.tape, h.output, h.size, fun i hi hn => h.block i hi (fun hm => by rcases hs i hm with h1 | h1 <;> first | exact hn h1 | omega)⟩

theorem Pres.of_none {fp : List Nat} {a b : World} (h : Pres [] a b) : Pres fp a b := h.wider (by simp)

theorem Pres.drew {fp : List Nat} {a b : World} (h : Pres fp a b) : Pres fp a b.drew := ⟨h.os, h.tape, h.output, h.size, h.block⟩

theorem Pres.alloc {fp : List Nat} {a b : World} (h : Pres fp a b) (o : Obj) : Pres fp a (b.alloc o) :=
  h.trans (fq := []) ⟨rfl, rfl, rfl, by simp, fun k hk _ => Below.heap_alloc _ _ _ hk⟩ (by simp)

theorem Pres.setCell {fp : List Nat} {a b : World} (h : Pres fp a b) {p : Addr} (hp : p.block ∈ fp ∨ a.heap.size ≤ p.block) (u : Value) : Pres fp a (b.setCell p u) :=
  h.trans (fq := [p.block]) ⟨rfl, rfl, rfl, by simp [World.setCell], fun k _ hk => Below.heap_setCell _ _ _ _ (by simpa using hk)⟩ (by simpa using hp)

theorem Pres.setRow {fp : List Nat} {a b : World} (h : Pres fp a b) {g : Nat} (hp : g ∈ fp ∨ a.heap.size ≤ g) (cs : Array Value) : Pres fp a (b.setRow g cs) :=
  h.trans (fq := [g]) ⟨rfl, rfl, rfl, by simp [World.setRow], fun k _ hk => setRow_other b g k cs (by simpa using hk)⟩ (by simpa using hp)

theorem Pres.grown {fp : List Nat} {a b c : World} {row : Option Nat} (h : Pres fp a b) (hg : b.grownBy c row) (hr : ∀ k, row = some k → k ∈ fp ∨ a.heap.size ≤ k) : Pres fp a c :=
  h.trans (fq := row.toList) ⟨hg.os, hg.tape, hg.output, hg.size, fun k hk hn => hg.block k hk (fun e => hn (by simp [← e]))⟩ (by intro x hx; exact hr x (by simpa using hx))

/-- What is asked at the end of a law: nothing that was there has changed. -/
theorem Pres.below {a b : World} (h : Pres [] a b) : Below a.heap.size a b := ⟨h.os, h.tape, h.output, h.size, fun k hk => h.block k hk (by simp)⟩

theorem Pres.of_below {a b : World} (h : Below a.heap.size a b) : Pres [] a b := ⟨h.os, h.tape, h.output, h.size, fun k hk _ => h.block k hk⟩

theorem Pres.cell {fp : List Nat} {a b : World} (h : Pres fp a b) {p : Addr} {v : Value} (hc : a.cell? p = some v) (hn : p.block ∉ fp) : b.cell? p = some v :=
  (World.cell?_of_block (h.block p.block (World.block_lt_of_cell? a p hc) hn)).trans hc

/-! ## A block known whole -/

/-- Block b holds the cells cs, of element type E, none of them frozen. -/
def At (w : World) (b : Nat) (cs : List Value) (E : TypeId) : Prop := w.heap[b]? = some (.cells cs.toArray E (0, 0))

theorem At.lt {w : World} {b : Nat} {cs : List Value} {E : TypeId} (h : At w b cs E) : b < w.heap.size := (Array.getElem?_eq_some_iff.1 h).1

theorem At.cell {w : World} {b : Nat} {cs : List Value} {E : TypeId} (h : At w b cs E) (i : Nat) : w.cell? ⟨b, i, none⟩ = cs[i]? := by
  simp [cell_of_row w b i _ E (0, 0) h]

theorem At.frozen {w : World} {b : Nat} {cs : List Value} {E : TypeId} (h : At w b cs E) (i : Nat) : w.frozen? ⟨b, i, none⟩ = false := frozen_of_row w b i _ E h

theorem At.keep {w w' : World} {b : Nat} {cs : List Value} {E : TypeId} (h : At w b cs E) (hk : w'.heap[b]? = w.heap[b]?) : At w' b cs E := hk.trans h

theorem At.pres {fp : List Nat} {w w' : World} {b : Nat} {cs : List Value} {E : TypeId} (h : At w b cs E) (hp : Pres fp w w') (hn : b ∉ fp) : At w' b cs E := (hp.block b h.lt hn).trans h

theorem At.drew {w : World} {b : Nat} {cs : List Value} {E : TypeId} (h : At w b cs E) : At w.drew b cs E := h

theorem At.alloc {w : World} {b : Nat} {cs : List Value} {E : TypeId} (h : At w b cs E) (o : Obj) : At (w.alloc o) b cs E := (Below.heap_alloc _ _ _ h.lt).trans h

theorem At.new (w : World) (cs : List Value) (E : TypeId) : At (w.alloc (.cells cs.toArray E)) w.heap.size cs E := heap_alloc_new w _

theorem At.setCell {w : World} {b : Nat} {cs : List Value} {E : TypeId} (h : At w b cs E) (i : Nat) (v : Value) : At (w.setCell ⟨b, i, none⟩ v) b (cs.set i v) E := by
  have := heap_setCell_same w b i _ E v h
  unfold At
  rw [this]
  simp

theorem At.setOther {w : World} {b : Nat} {cs : List Value} {E : TypeId} (h : At w b cs E) (p : Addr) (v : Value) (hn : b ≠ p.block) : At (w.setCell p v) b cs E :=
  (Below.heap_setCell _ _ _ _ hn).trans h

theorem At.setRow {w : World} {b : Nat} {cs : List Value} {E : TypeId} (h : At w b cs E) (ds : List Value) : At (w.setRow b ds.toArray) b ds E := setRow_heap w b _ _ E _ h

theorem At.unique {w : World} {b : Nat} {cs ds : List Value} {E F : TypeId} (h : At w b cs E) (k : At w b ds F) : cs = ds := by
  have := h.symm.trans k
  simp at this
  exact this.1

theorem addr_add (b off j : Nat) : (⟨b, off, none⟩ : Addr).add j = ⟨b, off + j, none⟩ := by unfold Addr.add; split <;> simp_all

/-- The cells of a piece of a known block. -/
theorem At.piece {w : World} {b : Nat} {cs : List Value} {E : TypeId} (h : At w b cs E) (off n : Nat) :
    ∀ j u, ((cs.drop off).take n)[j]? = some u → w.cell? ((⟨b, off, none⟩ : Addr).add j) = some u := by
  intro j u hu
  rw [addr_add, h.cell]
  rw [List.getElem?_take] at hu
  split at hu
  · rwa [List.getElem?_drop] at hu
  · cases hu

theorem splice_all {α : Type} (L D : List α) (h : L.length = D.length) : splice L 0 D = D := by
  simp [splice, h]

/-! ## Several cells at once: laws for one operation -/

def IsAgg (P : Program) (t : TypeId) : Prop := ∃ d, P.underlying t = some d ∧ (match d with | .struct _ | .array _ _ => true | _ => false) = true

theorem run_isAgg {P : Program} {t : TypeId} (h : IsAgg P t) (w : World) : (isAgg t).run P w = .ok true w := by
  obtain ⟨d, hu, hd⟩ := h
  unfold isAgg
  rw [Sem.run_bind, run_underlying hu w]
  cases d <;> simp_all

theorem run_sizeOf {P : Program} {t n : Nat} (h : (P.info? t).map (·.size) = some n) (w : World) : (sizeOf t).run P w = .ok n w := by
  cases hq : P.info? t with
  | none => simp [hq] at h
  | some i =>
    have hs : i.size = n := by simpa [hq] using h
    simp [sizeOf, typeInfo, hq, hs]

theorem run_loadVar_piece {P : Program} {w : World} {b off n : Nat} {cs : List Value} {E ty : TypeId} (h : At w b cs E) (ha : IsAgg P ty) (hs : (P.info? ty).map (·.size) = some n)
    (hb : off + n ≤ cs.length) : (loadVar ty ⟨b, off, none⟩).run P w = .ok (.agg ((cs.drop off).take n).toArray) w := by
  have hl : (loadCells ⟨b, off, none⟩ ((cs.drop off).take n).length).run P w = .ok ((cs.drop off).take n).toArray w := run_loadCells_list (P := P) w _ _ (h.piece off n)
  have hlen : ((cs.drop off).take n).length = n := by simp; omega
  rw [hlen] at hl
  simp [loadVar, Sem.run_bind, run_isAgg ha, run_sizeOf hs, hl]

theorem run_storeVar_piece {P : Program} {w : World} {b off n : Nat} {cs vs : List Value} {E ty : TypeId} (h : At w b cs E) (hs : (P.info? ty).map (·.size) = some n)
    (hn : vs.length = n) (hb : off + n ≤ cs.length) (h1 : ∀ v ∈ vs, v.oneCell' = true) :
    (storeVar ty ⟨b, off, none⟩ (.agg vs.toArray)).run P w = .ok () (w.setRow b (splice cs off vs).toArray) := by
  have hst := run_storeCells_at P b off E vs 0 cs.toArray w h (by simp; omega) h1
  simp only [Nat.add_zero] at hst
  have e : (Value.agg vs.toArray).cells = vs.toArray := rfl
  simp [storeVar, Sem.run_bind, run_sizeOf hs, e, hn, hst, splice]

section
variable {P : Program} {ops : Array Oper} {rest : List Oper} {o : Oper} {a : Act} {w : World} {Q : Exit → Act → World → Prop} {K : Act → World → Prop}

theorem wp_value {v : Value} {w' : World} (hr : (execOp a.eval o).run P w = .ok (.value v) w') (h : K (a.put o.dst v) w') : o.wp P a w K Q := by
  unfold Oper.wp; rw [hr]; exact h

theorem wp_skip' {w' : World} (hr : (execOp a.eval o).run P w = .ok .skip w') (h : K (a.put o.dst undef) w') : o.wp P a w K Q := by
  unfold Oper.wp; rw [hr]; exact h

theorem run_load_agg {b off n : Nat} {cs : List Value} {E ty : TypeId} {x : Operand} (ho : o.op = .load ty x) (hx : a.eval x = .pointer (some ⟨b, off, none⟩)) (h : At w b cs E)
    (ha : IsAgg P ty) (hs : (P.info? ty).map (·.size) = some n) (hb : off + n ≤ cs.length) :
    (execOp a.eval o).run P w = .ok (.value (.agg ((cs.drop off).take n).toArray)) w := by
  unfold execOp
  simp only [ho, hx, Instr.loadAt, Instr.sureAddr, Sem.run_bind, Sem.run_pure, Result.andThen_ok, run_loadVar_piece h ha hs hb]

/-- Loading a struct or an array that lies in a known block. -/
theorem wpL_load (hgd : o.guard = none) (ty : TypeId) (x : Operand) (ho : o.op = .load ty x) (b off n : Nat) (hx : a.eval x = .pointer (some ⟨b, off, none⟩)) (cs : List Value) (E : TypeId) (h : At w b cs E)
    (ha : IsAgg P ty) (hs : (P.info? ty).map (·.size) = some n) (hb : off + n ≤ cs.length)
    (hk : wpList P ops Q rest (a.put o.dst (.agg ((cs.drop off).take n).toArray)) w) : wpList P ops Q (o :: rest) a w :=
  wpList_plain hgd fun _ hK => wp_value (run_load_agg ho hx h ha hs hb) (hK _ _ hk)

theorem run_store_agg {b off n : Nat} {cs vs : List Value} {E ty : TypeId} {x y : Operand} (ho : o.op = .store ty x y) (hx : a.eval x = .pointer (some ⟨b, off, none⟩)) (hy : a.eval y = .agg vs.toArray) (h : At w b cs E)
    (hs : (P.info? ty).map (·.size) = some n) (hn : vs.length = n) (hb : off + n ≤ cs.length) (h1 : ∀ v ∈ vs, v.oneCell' = true) :
    (execOp a.eval o).run P w = .ok .skip (w.setRow b (splice cs off vs).toArray) := by
  unfold execOp
  simp only [ho, hx, hy, Instr.storeAt, Instr.sureAddr, Sem.run_bind, Sem.run_pure, Result.andThen_ok, run_storeVar_piece h hs hn hb h1]

/-- Storing a struct or an array into a known block. -/
theorem wpL_store (hgd : o.guard = none) (ty : TypeId) (x y : Operand) (ho : o.op = .store ty x y) (b off n : Nat) (hx : a.eval x = .pointer (some ⟨b, off, none⟩)) (vs : List Value) (hy : a.eval y = .agg vs.toArray)
    (cs : List Value) (E : TypeId) (h : At w b cs E) (hs : (P.info? ty).map (·.size) = some n) (hn : vs.length = n) (hb : off + n ≤ cs.length) (h1 : ∀ v ∈ vs, v.oneCell' = true)
    (hk : ∀ w', At w' b (splice cs off vs) E → Pres [b] w w' → w'.heap.size = w.heap.size → wpList P ops Q rest (a.put o.dst undef) w') : wpList P ops Q (o :: rest) a w :=
  wpList_plain hgd fun _ hK => wp_skip' (run_store_agg ho hx hy h hs hn hb h1) (hK _ _ (hk _ (h.setRow _) ((Pres.refl _ _).setRow (by simp) _) (by simp)))

theorem run_alloc_agg {E : TypeId} {zs : List Value} (ho : o.op = .alloc E) (hz : (P.info? E).bind (·.zero) = some (.agg zs.toArray)) :
    (execOp a.eval o).run P w = .ok (.value (.pointer (some ⟨w.heap.size, 0, none⟩))) (w.alloc (.cells zs.toArray E)) := by
  cases hq : P.info? E with
  | none => simp [hq] at hz
  | some i =>
    have hs : i.zero = some (.agg zs.toArray) := by simpa [hq] using hz
    have hzv : (zeroValue E).run P w = .ok (.agg zs.toArray) w := by simp [zeroValue, typeInfo, hq, hs]
    unfold execOp
    simp [ho, Instr.alloc, Sem.run_bind, hzv, newVar, newRow, Value.cells]

/-- A new variable of a struct or array type. -/
theorem wpL_alloc (hgd : o.guard = none) (E : TypeId) (ho : o.op = .alloc E) (zs : List Value) (hz : (P.info? E).bind (·.zero) = some (.agg zs.toArray))
    (hk : ∀ w', At w' w.heap.size zs E → Pres [] w w' → w'.heap.size = w.heap.size + 1 → wpList P ops Q rest (a.put o.dst (.pointer (some ⟨w.heap.size, 0, none⟩))) w') : wpList P ops Q (o :: rest) a w :=
  wpList_plain hgd fun _ hK => wp_value (run_alloc_agg ho hz) (hK _ _ (hk _ (At.new w zs E) ((Pres.refl _ _).alloc _) (by simp)))

/-! ## Bytes -/

/-- A byte as a cell. -/
def byteV (b : UInt8) : Value := .int .u8 (b.toNat : Int)

theorem byte_one (b : UInt8) : (byteV b).oneCell' = true := rfl

theorem bytes_one {bs : List UInt8} : ∀ v ∈ bs.map byteV, v.oneCell' = true := by
  intro v hv
  obtain ⟨b, _, rfl⟩ := List.mem_map.1 hv
  rfl

theorem run_bytes_string {src dst e : TypeId} (hs : P.underlying src = some (.slice e)) (he : P.underlying e = some (.int .u8)) (hd : P.underlying dst = some .string)
    {b off len cap : Nat} {bs : List UInt8} (hl : bs.length = len) (hc : ∀ j u, (bs.map byteV)[j]? = some u → w.cell? ((⟨b, off, none⟩ : Addr).add j) = some u) :
    (convert src dst (.slice (some ⟨b, off, none⟩) len cap)).run P w = .ok (.string ⟨bs.toArray⟩) w := by
  have h := run_convert_bytes_arg (P := P) w src e hs he b off len cap (bs.map fun b => (b.toNat : Int)) (by simpa using hl) (by
    intro i hi
    have := hc i (.int .u8 ((bs.map fun b => (b.toNat : Int)).getD i 0)) (by
      have hi' : i < bs.length := by omega
      simp [byteV, hi', List.getD])
    rwa [addr_add] at this) dst hd
  rw [h]
  congr 2
  simp [strOfNums, Function.comp_def]

/-- string(bytes), the bytes a piece of a known block. -/
theorem wpL_bytes_string (hgd : o.guard = none) (src dst : TypeId) (x : Operand) (ho : o.op = .convert src dst x) (e : TypeId) (hs : P.underlying src = some (.slice e)) (he : P.underlying e = some (.int .u8)) (hd : P.underlying dst = some .string)
    (b off len cap : Nat) (hx : a.eval x = .slice (some ⟨b, off, none⟩) len cap) (bs : List UInt8) (hl : bs.length = len) (cs : List Value) (E : TypeId) (h : At w b cs E) (hp : (cs.drop off).take len = bs.map byteV)
    (hk : wpList P ops Q rest (a.put o.dst (.string ⟨bs.toArray⟩)) w) : wpList P ops Q (o :: rest) a w :=
  wpList_plain hgd fun _ hK => wp_value (v := .string ⟨bs.toArray⟩) (w' := w) (by
    have hr := run_bytes_string (P := P) (w := w) (src := src) (dst := dst) hs he hd (b := b) (off := off) (len := len) (cap := cap) hl (by rw [← hp]; exact h.piece off len)
    unfold execOp
    simp only [ho, hx, Sem.run_bind, Sem.run_pure, Result.andThen_ok, hr]) (hK _ _ hk)

theorem wpL_bytes_string_nil (hgd : o.guard = none) (src dst : TypeId) (x : Operand) (ho : o.op = .convert src dst x) (e : TypeId) (hs : P.underlying src = some (.slice e)) (he : P.underlying e = some (.int .u8)) (hd : P.underlying dst = some .string)
    (l c : Nat) (hx : a.eval x = .slice none l c)
    (hk : wpList P ops Q rest (a.put o.dst (.string ByteArray.empty)) w) : wpList P ops Q (o :: rest) a w :=
  wpList_plain hgd fun _ hK => wp_value (v := .string ByteArray.empty) (w' := w) (by
    have hr := run_convert_bytes_nil (P := P) w src e hs he l c dst hd
    unfold execOp
    simp only [ho, hx, Sem.run_bind, Sem.run_pure, Result.andThen_ok, hr]) (hK _ _ hk)

theorem firstCells_string (s : ByteArray) (n : Nat) : (Builtin.firstCells 1 n (.string s)).run P w = .ok ((s.data.toList.take n).map byteV).toArray w := by
  simp only [Builtin.firstCells, Sem.run_pure]
  congr 1
  apply Array.ext'
  simp [ByteArray.data_extract]
  rfl

/-- copy(bytes, text) into a known block. -/
theorem wpL_copy_string (hgd : o.guard = none) (d s : Operand) (dT sT : TypeId) (ho : o.op = .call { callee := .builtin .copy, args := #[d, s], argTypes := #[dT, sT] })
    (elem : TypeId) (hu : P.underlying dT = some (.slice elem)) (hsz : (P.info? elem).map (·.size) = some 1)
    (b off dLen dCap : Nat) (hd : a.eval d = .slice (some ⟨b, off, none⟩) dLen dCap) (t : ByteArray) (hx : a.eval s = .string t)
    (cs : List Value) (E : TypeId) (h : At w b cs E) (hb : off + dLen ≤ cs.length)
    (hk : ∀ w', At w' b (splice cs off ((t.data.toList.take dLen).map byteV)) E → Pres [b] w w' → w'.heap.size = w.heap.size → wpList P ops Q rest (a.put o.dst (goInt (Nat.min t.size dLen : Nat))) w') : wpList P ops Q (o :: rest) a w :=
  wpList_plain hgd fun _ hK => wp_value (v := goInt (Nat.min t.size dLen : Nat)) (w' := w.setRow b (splice cs off ((t.data.toList.take dLen).map byteV)).toArray) (by
    have hm : t.data.toList.take (Nat.min t.size dLen) = t.data.toList.take dLen := by
      by_cases hle : t.size ≤ dLen
      · have e : Nat.min t.size dLen = t.size := Nat.min_eq_left hle
        have : t.data.toList.length ≤ dLen := by simpa using hle
        rw [e, List.take_of_length_le this, List.take_of_length_le (by simp)]
      · have e : Nat.min t.size dLen = dLen := Nat.min_eq_right (by omega)
        rw [e]
    have hst := run_storeCells_at P b off E ((t.data.toList.take dLen).map byteV) 0 cs.toArray w h (by simp; omega) bytes_one
    simp only [Nat.add_zero] at hst
    have hf := firstCells_string (P := P) (w := w) t (Nat.min t.size dLen)
    rw [hm] at hf
    generalize (t.data.toList.take dLen).map byteV = L at hst hf ⊢
    unfold execOp
    simp [ho, hd, hx, resolve, invoke, builtin, Builtin.copy_, run_underlying hu, run_sizeOf hsz, Builtin.lenOf, hf, hst, splice]) (hK _ _ (hk _ (h.setRow _) ((Pres.refl _ _).setRow (by simp) _) (by simp)))

end

/-! ## A slice that owns its block -/

/-- The block of a slice's value, if it has one. -/
def fpv : Value → List Nat
  | .slice (some a) _ _ => [a.block]
  | _ => []

/-- Slice v has n elements of type E (sz cells each), its cells are xs; it is nil, or begins its block. -/
def Sl (w : World) (E : TypeId) (sz : Nat) (v : Value) (n : Nat) (xs : List Value) : Prop :=
  xs.length = n * sz ∧
  ((v = .slice none 0 0 ∧ n = 0) ∨
   ∃ g cap cur, v = .slice (some ⟨g, 0, none⟩) n cap ∧ At w g cur E ∧ n ≤ cap ∧ cap ≤ maxLen ∧ cur.length = cap * sz ∧ cur.take (n * sz) = xs)

theorem Sl.nil (w : World) (E : TypeId) (sz : Nat) : Sl w E sz (.slice none 0 0) 0 [] := ⟨by simp, .inl ⟨rfl, rfl⟩⟩

theorem Sl.shape {w : World} {E : TypeId} {sz : Nat} {v : Value} {n : Nat} {xs : List Value} (h : Sl w E sz v n xs) : ∃ ao cap, v = .slice ao n cap ∧ n ≤ cap ∧ cap ≤ maxLen := by
  rcases h.2 with ⟨rfl, rfl⟩ | ⟨g, cap, cur, rfl, _, h1, h2, _⟩
  · exact ⟨none, 0, rfl, Nat.le_refl _, by simp [maxLen]⟩
  · exact ⟨_, cap, rfl, h1, h2⟩

theorem Sl.lt {w : World} {E : TypeId} {sz : Nat} {v : Value} {n : Nat} {xs : List Value} (h : Sl w E sz v n xs) : ∀ k ∈ fpv v, k < w.heap.size := by
  intro k hk
  rcases h.2 with ⟨rfl, _⟩ | ⟨g, cap, cur, rfl, hg, _⟩
  · simp [fpv] at hk
  · simp [fpv] at hk; subst hk; exact hg.lt

theorem Sl.keep {w w' : World} {E : TypeId} {sz : Nat} {v : Value} {n : Nat} {xs : List Value} (h : Sl w E sz v n xs) (hk : ∀ k ∈ fpv v, w'.heap[k]? = w.heap[k]?) : Sl w' E sz v n xs := by
  refine ⟨h.1, ?_⟩
  rcases h.2 with h1 | ⟨g, cap, cur, rfl, hg, h2⟩
  · exact .inl h1
  · exact .inr ⟨g, cap, cur, rfl, hg.keep (hk g (by simp [fpv])), h2⟩

theorem Sl.pres {fp : List Nat} {w w' : World} {E : TypeId} {sz : Nat} {v : Value} {n : Nat} {xs : List Value} (h : Sl w E sz v n xs) (hp : Pres fp w w') (hn : ∀ k ∈ fpv v, k ∉ fp) : Sl w' E sz v n xs :=
  h.keep fun k hk => hp.block k (h.lt k hk) (hn k hk)

/-- Not empty: its block, whole. -/
theorem Sl.get {w : World} {E : TypeId} {sz : Nat} {v : Value} {n : Nat} {xs : List Value} (h : Sl w E sz v n xs) (h0 : 0 < n) :
    ∃ g cap cur, v = .slice (some ⟨g, 0, none⟩) n cap ∧ At w g cur E ∧ n ≤ cap ∧ cap ≤ maxLen ∧ cur.length = cap * sz ∧ cur.take (n * sz) = xs := by
  rcases h.2 with ⟨_, h1⟩ | h1
  · omega
  · exact h1

theorem take_drop_take {α : Type} {cur xs : List α} {m off n : Nat} (h : cur.take m = xs) (hm : off + n ≤ m) : (cur.drop off).take n = (xs.drop off).take n := by
  subst h
  rw [List.drop_take, List.take_take, Nat.min_eq_left (by omega)]

/-- append of m elements: what it comes to. -/
theorem run_append_sl {P : Program} {w : World} {t ty E : TypeId} {i : TypeInfo} {z : Value} {sz : Nat} (ht : P.underlying t = some (.slice E)) (hi : P.info? E = some i) (hz : i.zero = some z)
    (hsize : i.size = sz) (hzs : z.cells.size = sz) {v : Value} {n : Nat} {xs : List Value} (hs : Sl w E sz v n xs)
    {ad : Addr} {m c : Nat} {news : List Value} (hl : news.length = m * sz) (hnews : ∀ j u, news[j]? = some u → w.cell? (ad.add j) = some u) (h1 : ∀ u ∈ news, u.oneCell' = true)
    (h63 : n + m ≤ maxLen) (hbytes : (n + m) * i.bytes ≤ 140737488355328) :
    ∃ v' w', (Builtin.append_ #[t, t] ty #[v, .slice (some ad) m c]).run P w = .ok v' w' ∧ Sl w' E sz v' (n + m) (xs ++ news) ∧ Pres (fpv v) w w' ∧ (∀ k ∈ fpv v', k ∈ fpv v ∨ w.heap.size ≤ k) := by
  subst hsize
  have hsmall : n + m ≤ 9223372036854775807 := by simp only [maxLen] at h63; omega
  have hlen : (xs ++ news).length = (n + m) * i.size := by rw [List.length_append, hs.1, hl, Nat.add_mul]
  have grown : ∀ (old : Nat) (fp : List Nat),
      Sl (w.drew.alloc (.cells (xs.toArray ++ news.toArray ++ Builtin.zeroCells z.cells (grownCap w (n + m) old E - (n + m))) E)) E i.size
        (.slice (some ⟨w.heap.size, 0, none⟩) (n + m) (grownCap w (n + m) old E)) (n + m) (xs ++ news) ∧
      Pres fp w (w.drew.alloc (.cells (xs.toArray ++ news.toArray ++ Builtin.zeroCells z.cells (grownCap w (n + m) old E - (n + m))) E)) := by
    intro old fp
    have hge := grownCap_ge w (n + m) old E
    have hcm : grownCap w (n + m) old E ≤ maxLen := grownCap_le_maxLen w (n + m) old E h63
    refine ⟨⟨hlen, .inr ⟨w.heap.size, _, xs ++ news ++ (Builtin.zeroCells z.cells (grownCap w (n + m) old E - (n + m))).toList, rfl, ?_, hge, hcm, ?_, ?_⟩⟩, ((Pres.refl _ _).drew).alloc _⟩
    · unfold At
      rw [show w.heap.size = w.drew.heap.size from rfl, heap_alloc_new]
      simp
    · have h2 : (Builtin.zeroCells z.cells (grownCap w (n + m) old E - (n + m))).toList.length = (grownCap w (n + m) old E - (n + m)) * i.size := by
        rw [Array.length_toList, size_zeroCells, hzs]
      rw [List.length_append, hlen, h2, ← Nat.add_mul]
      congr 1
      omega
    · rw [← hlen]; exact List.take_left
  rcases hs.2 with ⟨rfl, rfl⟩ | ⟨g, cap, cur, rfl, hg, hnc, hcm, hcs, htake⟩
  · have hx : xs = [] := List.eq_nil_of_length_eq_zero (by simpa using hs.1)
    subst hx
    by_cases hm : m = 0
    · subst hm
      have hn : news = [] := List.eq_nil_of_length_eq_zero (by simpa using hl)
      subst hn
      refine ⟨.slice none 0 0, w, ?_, Sl.nil w E i.size, Pres.refl _ _, by simp [fpv]⟩
      simp [Builtin.append_, run_underlying ht, sizeOf, typeInfo, hi, Builtin.lenOf, Builtin.firstCells, loadCells, loadCellsFrom]
    · have hr := run_append_nil (P := P) w t ty E i z ht hi hz ad m c news hl hnews (by omega) (by omega) (by have hb := hbytes; simp only [Nat.zero_add] at hb; omega)
      have hgr := grown 0 (fpv (.slice none 0 0))
      simp only [Nat.zero_add, List.nil_append, Array.empty_append] at hgr ⊢
      exact ⟨_, _, hr, hgr.1, hgr.2, by simp [fpv]⟩
  · by_cases hroom : n + m ≤ cap
    · have hfit : n * i.size + news.length ≤ cur.toArray.size := by rw [hl, List.size_toArray, hcs, ← Nat.add_mul]; exact Nat.mul_le_mul_right _ hroom
      have hr := run_append_room (P := P) w t ty E i ht hi g n cap cur.toArray hg ad m c news hl hnews h1 hroom hfit
      refine ⟨_, _, hr, ⟨hlen, .inr ⟨g, cap, _, rfl, hg.setRow _, hroom, hcm, ?_, ?_⟩⟩, (Pres.refl _ _).setRow (by simp [fpv]) _, by simp [fpv]⟩
      · simp only [List.length_append, List.length_take, List.length_drop, List.size_toArray] at hfit ⊢
        omega
      · have : List.take (n * i.size) cur.toArray.toList = xs := htake
        rw [this, ← hlen]
        exact List.take_left
    · have holds : ∀ j u, xs[j]? = some u → w.cell? ((⟨g, 0, none⟩ : Addr).add j) = some u := by
        rw [← htake]; simpa using hg.piece 0 (n * i.size)
      have hr := run_append_grow (P := P) w t ty E i z ht hi hz ⟨g, 0, none⟩ n cap xs hs.1 holds ad m c news hl hnews (by omega) (by omega) (growslice_fits (by omega) hbytes)
      have hgr := grown cap (fpv (.slice (some ⟨g, 0, none⟩) n cap))
      exact ⟨_, _, hr, hgr.1, hgr.2, by simp [fpv]⟩

section
variable {P : Program} {ops : Array Oper} {rest : List Oper} {o : Oper} {a : Act} {w : World} {Q : Exit → Act → World → Prop} {K : Act → World → Prop}

theorem wp_append (s x : Operand) (t : TypeId) (ho : o.op = .call { callee := .builtin .append, args := #[s, x], argTypes := #[t, t] })
    (E : TypeId) (i : TypeInfo) (z : Value) (sz : Nat) (ht : P.underlying t = some (.slice E)) (hi : P.info? E = some i) (hz : i.zero = some z) (hsize : i.size = sz) (hzs : z.cells.size = sz)
    (v : Value) (n : Nat) (xs : List Value) (hsv : a.eval s = v) (hs : Sl w E sz v n xs)
    (ad : Addr) (m c : Nat) (news : List Value) (hx : a.eval x = .slice (some ad) m c) (hl : news.length = m * sz) (hnews : ∀ j u, news[j]? = some u → w.cell? (ad.add j) = some u) (h1 : ∀ u ∈ news, u.oneCell' = true)
    (h63 : n + m ≤ maxLen) (hbytes : (n + m) * i.bytes ≤ 140737488355328)
    (hk : ∀ v' w', Sl w' E sz v' (n + m) (xs ++ news) → Pres (fpv v) w w' → (∀ k ∈ fpv v', k ∈ fpv v ∨ w.heap.size ≤ k) → K (a.put o.dst v') w') : o.wp P a w K Q := by
  obtain ⟨v', w', hr, h2, h3, h4⟩ := run_append_sl (P := P) (ty := o.type) ht hi hz hsize hzs hs (c := c) hl hnews h1 h63 hbytes
  unfold Oper.wp execOp
  simp only [ho, resolve, invoke, builtin, Sem.run_bind, Sem.run_pure, Result.andThen_ok, List.map_toArray, List.map_cons, List.map_nil, hsv, hx, hr]
  exact hk v' w' h2 h3 h4

/-- append in a plain list of operations. -/
theorem wpL_append (hgd : o.guard = none) (s x : Operand) (t : TypeId) (ho : o.op = .call { callee := .builtin .append, args := #[s, x], argTypes := #[t, t] })
    (E : TypeId) (i : TypeInfo) (z : Value) (sz : Nat) (ht : P.underlying t = some (.slice E)) (hi : P.info? E = some i) (hz : i.zero = some z) (hsize : i.size = sz) (hzs : z.cells.size = sz)
    (v : Value) (n : Nat) (xs : List Value) (hsv : a.eval s = v) (hs : Sl w E sz v n xs)
    (ad : Addr) (m c : Nat) (news : List Value) (hx : a.eval x = .slice (some ad) m c) (hl : news.length = m * sz) (hnews : ∀ j u, news[j]? = some u → w.cell? (ad.add j) = some u) (h1 : ∀ u ∈ news, u.oneCell' = true)
    (h63 : n + m ≤ maxLen) (hbytes : (n + m) * i.bytes ≤ 140737488355328)
    (hk : ∀ v' w', Sl w' E sz v' (n + m) (xs ++ news) → Pres (fpv v) w w' → (∀ k ∈ fpv v', k ∈ fpv v ∨ w.heap.size ≤ k) → wpList P ops Q rest (a.put o.dst v') w') : wpList P ops Q (o :: rest) a w :=
  wpList_plain hgd fun _ hK => wp_append s x t ho E i z sz ht hi hz hsize hzs v n xs hsv hs ad m c news hx hl hnews h1 h63 hbytes fun v' w' a1 a2 a3 => hK _ _ (hk v' w' a1 a2 a3)

/-- append as one step of a region that draws its order. -/
theorem step_append (hgd : o.guard = none) {E' : Prop} (s x : Operand) (t : TypeId) (ho : o.op = .call { callee := .builtin .append, args := #[s, x], argTypes := #[t, t] })
    (E : TypeId) (i : TypeInfo) (z : Value) (sz : Nat) (ht : P.underlying t = some (.slice E)) (hi : P.info? E = some i) (hz : i.zero = some z) (hsize : i.size = sz) (hzs : z.cells.size = sz)
    (v : Value) (n : Nat) (xs : List Value) (hsv : a.eval s = v) (hs : Sl w E sz v n xs)
    (ad : Addr) (m c : Nat) (news : List Value) (hx : a.eval x = .slice (some ad) m c) (hl : news.length = m * sz) (hnews : ∀ j u, news[j]? = some u → w.cell? (ad.add j) = some u) (h1 : ∀ u ∈ news, u.oneCell' = true)
    (h63 : n + m ≤ maxLen) (hbytes : (n + m) * i.bytes ≤ 140737488355328)
    (hk : ∀ v' w', Sl w' E sz v' (n + m) (xs ++ news) → Pres (fpv v) w w' → (∀ k ∈ fpv v', k ∈ fpv v ∨ w.heap.size ≤ k) → K (a.put o.dst v') w') : if Region.wanted o (yielded ops a.tmps) = true then Oper.wp P o a w K Q else E' := by
  have hw : Region.wanted o (yielded ops a.tmps) = true := by simp [Region.wanted, hgd]
  rw [if_pos hw]
  exact wp_append s x t ho E i z sz ht hi hz hsize hzs v n xs hsv hs ad m c news hx hl hnews h1 h63 hbytes hk
end

theorem info_of {P : Program} {t : TypeId} {n b : Nat} {zs : List Value} (h : (P.info? t).map (fun i => (i.zero, i.size, i.bytes)) = some (some (.agg zs.toArray), n, b)) :
    ∃ i, P.info? t = some i ∧ i.zero = some (.agg zs.toArray) ∧ i.size = n ∧ i.bytes = b := by
  cases hq : P.info? t with
  | none => simp [hq] at h
  | some i => exact ⟨i, rfl, by simpa [hq] using h⟩

theorem madeCells_same (c : Value) (sz n : Nat) (h : 0 < sz) : madeCells (List.replicate sz c).toArray n = (List.replicate n c).toArray := by
  apply Array.ext
  · simp [madeCells]
  · intro i h1 h2
    have : i % sz < sz := Nat.mod_lt _ h
    simp [madeCells, this]

/-- make([]T, n), T of equal cells. -/
theorem wpL_make {P : Program} {ops : Array Oper} {rest : List Oper} {o : Oper} {a : Act} {w : World} {Q : Exit → Act → World → Prop} (hgd : o.guard = none) (t : TypeId) (l c : Operand) (ho : o.op = .makeSlice t l c)
    (E : TypeId) (i : TypeInfo) (z : Value) (c0 : Value) (ht : P.underlying t = some (.slice E)) (hi : P.info? E = some i) (hz : i.zero = some z) (hzs : z.cells = (List.replicate i.size c0).toArray) (hsz : 0 < i.size)
    (n : Nat) (hl : a.eval l = .int .i64 (n : Int)) (hc : a.eval c = .int .i64 (n : Int)) (hbytes : (i.bytes : Int) * n ≤ 281474976710656) (h63 : (n : Int) ≤ 9223372036854775807)
    (hk : ∀ w', At w' w.heap.size (List.replicate (n * i.size) c0) E → Pres [] w w' → w'.heap.size = w.heap.size + 1 → wpList P ops Q rest (a.put o.dst (.slice (some ⟨w.heap.size, 0, none⟩) n n)) w') : wpList P ops Q (o :: rest) a w :=
  wpList_plain hgd fun _ hK => wp_value (v := .slice (some ⟨w.heap.size, 0, none⟩) n n) (w' := w.alloc (.cells (List.replicate (n * i.size) c0).toArray E)) (by
    have hr := run_make (P := P) w t E i z ht hi hz .i64 .i64 n n (by omega) (by omega) hbytes h63
    rw [Int.toNat_natCast, hzs, madeCells_same c0 i.size _ hsz] at hr
    unfold execOp
    simp only [ho, hl, hc, hr, Sem.run_bind, Sem.run_pure, Result.andThen_ok]) (hK _ _ (hk _ (At.new w _ E) ((Pres.refl _ _).alloc _) (by simp)))

/-- A struct's or an array's value, built of its parts. -/
theorem wpL_build {P : Program} {ops : Array Oper} {rest : List Oper} {o : Oper} {a : Act} {w : World} {Q : Exit → Act → World → Prop} (hgd : o.guard = none) (t : TypeId) (parts : List (Nat × Operand)) (ho : o.op = .build t parts.toArray) (v : Value)
    (hr : (Instr.build t (parts.map fun p => (p.1, a.eval p.2)).toArray).run P w = .ok v w) (hk : wpList P ops Q rest (a.put o.dst v) w) : wpList P ops Q (o :: rest) a w :=
  wpList_plain hgd fun _ hK => wp_value (v := v) (w' := w) (by
    unfold execOp
    simp only [ho, List.map_toArray, hr, Sem.run_bind, Sem.run_pure, Result.andThen_ok]) (hK _ _ hk)

theorem fill_one (place : Nat → Option (Nat × Nat)) (cells : Array Value) (v : Value) (n : Nat) (hp : place 0 = some (0, n)) (h1 : v.cells.size = n) (h2 : cells.size = n) :
    Instr.fill place cells [(0, v)] = some v.cells := by
  have key : ∀ (l : List Value) (k : Nat) (cs : Array Value), k + l.length ≤ cs.size →
      ((l.zipIdx k).foldl (fun cs (p : Value × Nat) => cs.setIfInBounds (0 + p.2) p.1) cs).toList = splice cs.toList k l := by
    intro l
    induction l with
    | nil => intro k cs _; simp [splice]
    | cons x l ih =>
      intro k cs hk
      simp only [List.length_cons] at hk
      rw [List.zipIdx_cons, List.foldl_cons, ih (k + 1) _ (by simp; omega)]
      have h := list_seg_step cs.toList k x l (by simpa using hk)
      simp only [List.append_assoc] at h
      simp only [splice, Nat.zero_add, Array.toList_setIfInBounds, List.length_cons]
      exact h
  simp only [Instr.fill, hp, h1, h2]
  rw [if_neg (by simp)]
  congr 1
  apply Array.ext'
  have e := key v.cells.toList 0 cells (by simp [h1, h2])
  rw [← Array.foldl_toList, Array.toList_zipIdx, e]
  exact splice_all _ _ (by simp [h1, h2])

/-- []T{v}, T a struct or an array. -/
theorem run_buildSlice_one {P : Program} {w : World} {t E : TypeId} {n : Nat} {z v : Value} (ht : P.underlying t = some (.slice E)) (hs : (P.info? E).map (·.size) = some n) (hz : (P.info? E).bind (·.zero) = some z)
    (hzn : z.cells.size = n) (hn : 0 < n) (hn2 : n ≤ 16777216) (hv : v.cells.size = n) :
    (Instr.buildSlice t 1 #[(0, v)]).run P w = .ok (.slice (some ⟨w.heap.size, 0, none⟩) 1 1) (w.alloc (.cells v.cells E)) := by
  cases hq : P.info? E with
  | none => simp [hq] at hs
  | some i =>
    have h1 : i.size = n := by simpa [hq] using hs
    have h2 : i.zero = some z := by simpa [hq] using hz
    have hf := fill_one (fun i => some (i * n, n)) ((Array.range n).map (z.cells[· % n]!)) v n (by simp) hv (by simp)
    have hlt : ¬ 16777216 < n := by omega
    have hne : ¬ n = 0 := by omega
    simp [Instr.buildSlice, run_underlying ht, sizeOf, typeInfo, zeroValue, hq, h1, h2, hlt, hne, hzn, hf, newRow]

/-! ## Guards: the next operation is of this kind -/
section
variable {P : Program} {ops : Array Oper} {rest : List Oper} {a : Act} {w : World} {Q : Exit → Act → World → Prop} {d : Option Tmp} {ty : TypeId} {pos : String} {af : Array Edge} {g : Option (Nat × Bool)}
theorem at_load {t : TypeId} {x : Operand} (h : wpList P ops Q (⟨d, .load t x, ty, pos, af, g⟩ :: rest) a w) : wpList P ops Q (⟨d, .load t x, ty, pos, af, g⟩ :: rest) a w := h
theorem at_store {t : TypeId} {x y : Operand} (h : wpList P ops Q (⟨d, .store t x y, ty, pos, af, g⟩ :: rest) a w) : wpList P ops Q (⟨d, .store t x y, ty, pos, af, g⟩ :: rest) a w := h
theorem at_alloc {t : TypeId} (h : wpList P ops Q (⟨d, .alloc t, ty, pos, af, g⟩ :: rest) a w) : wpList P ops Q (⟨d, .alloc t, ty, pos, af, g⟩ :: rest) a w := h
theorem at_box {t : TypeId} {x : Operand} (h : wpList P ops Q (⟨d, .box t x, ty, pos, af, g⟩ :: rest) a w) : wpList P ops Q (⟨d, .box t x, ty, pos, af, g⟩ :: rest) a w := h
theorem at_build {t : TypeId} {x : Array (Nat × Operand)} (h : wpList P ops Q (⟨d, .build t x, ty, pos, af, g⟩ :: rest) a w) : wpList P ops Q (⟨d, .build t x, ty, pos, af, g⟩ :: rest) a w := h
theorem at_slit {t : TypeId} {n : Nat} {x : Array (Nat × Operand)} (h : wpList P ops Q (⟨d, .buildSlice t n x, ty, pos, af, g⟩ :: rest) a w) : wpList P ops Q (⟨d, .buildSlice t n x, ty, pos, af, g⟩ :: rest) a w := h
theorem at_conv {s t : TypeId} {x : Operand} (h : wpList P ops Q (⟨d, .convert s t x, ty, pos, af, g⟩ :: rest) a w) : wpList P ops Q (⟨d, .convert s t x, ty, pos, af, g⟩ :: rest) a w := h
theorem at_mk {t : TypeId} {x y : Operand} (h : wpList P ops Q (⟨d, .makeSlice t x y, ty, pos, af, g⟩ :: rest) a w) : wpList P ops Q (⟨d, .makeSlice t x y, ty, pos, af, g⟩ :: rest) a w := h
theorem at_copy {x : Array Operand} {y : Array TypeId} (h : wpList P ops Q (⟨d, .call ⟨.builtin .copy, x, y⟩, ty, pos, af, g⟩ :: rest) a w) : wpList P ops Q (⟨d, .call ⟨.builtin .copy, x, y⟩, ty, pos, af, g⟩ :: rest) a w := h
theorem at_append {x : Array Operand} {y : Array TypeId} (h : wpList P ops Q (⟨d, .call ⟨.builtin .append, x, y⟩, ty, pos, af, g⟩ :: rest) a w) : wpList P ops Q (⟨d, .call ⟨.builtin .append, x, y⟩, ty, pos, af, g⟩ :: rest) a w := h
end

theorem run_slit_one {P : Program} {w : World} {o : Oper} {a : Act} {t E : TypeId} {x : Operand} {n : Nat} {z v : Value} (ho : o.op = .buildSlice t 1 #[(0, x)]) (hx : a.eval x = v) (ht : P.underlying t = some (.slice E)) (hs : (P.info? E).map (·.size) = some n)
    (hz : (P.info? E).bind (·.zero) = some z) (hzn : z.cells.size = n) (hn : 0 < n) (hn2 : n ≤ 16777216) (hv : v.cells.size = n) :
    (execOp a.eval o).run P w = .ok (.value (.slice (some ⟨w.heap.size, 0, none⟩) 1 1)) (w.alloc (.cells v.cells E)) := by
  unfold execOp
  simp only [ho, List.map_toArray, List.map_cons, List.map_nil, hx, run_buildSlice_one ht hs hz hzn hn hn2 hv, Sem.run_bind, Sem.run_pure, Result.andThen_ok]

/-- Slice v reads as the cells cs, one an element; where it lies is not said. -/
def Reads (w : World) (v : Value) (cs : List Value) : Prop :=
  ∃ ao cap, v = .slice ao cs.length cap ∧ cs.length ≤ cap ∧ cap ≤ maxLen ∧ ∀ j x, cs[j]? = some x → ∃ b off, ao = some ⟨b, off, none⟩ ∧ w.cell? ⟨b, off + j, none⟩ = some x

theorem Reads.pres {fp : List Nat} {w w' : World} {v : Value} {cs : List Value} (h : Reads w v cs) (hp : Pres fp w w') (hn : cs ≠ [] → ∀ k ∈ fpv v, k ∉ fp) : Reads w' v cs := by
  obtain ⟨ao, cap, rfl, h1, h2, h3⟩ := h
  refine ⟨ao, cap, rfl, h1, h2, fun j x hj => ?_⟩
  obtain ⟨b, off, rfl, hc⟩ := h3 j x hj
  exact ⟨b, off, rfl, hp.cell hc (hn (fun e => by rw [e] at hj; simp at hj) b (by simp [fpv]))⟩

theorem Reads.lt {w : World} {v : Value} {cs : List Value} (h : Reads w v cs) (hc : cs ≠ []) : ∀ k ∈ fpv v, k < w.heap.size := by
  obtain ⟨ao, cap, rfl, -, -, h3⟩ := h
  intro k hk
  obtain ⟨x, r, rfl⟩ := List.exists_cons_of_ne_nil hc
  obtain ⟨b, off, rfl, h⟩ := h3 0 x rfl
  simp [fpv] at hk
  subst hk
  exact World.block_lt_of_cell? w _ h

theorem Reads.nil (w : World) : Reads w (.slice none 0 0) [] := ⟨none, 0, rfl, Nat.le_refl _, by simp [maxLen], by simp⟩

theorem Sl.reads {w : World} {E : TypeId} {v : Value} {n : Nat} {xs : List Value} (h : Sl w E 1 v n xs) : Reads w v xs := by
  have hl : xs.length = n := by have := h.1; omega
  rcases h.2 with ⟨rfl, rfl⟩ | ⟨g, cap, cur, rfl, hg, h1, h2, h3, h4⟩
  · have : xs = [] := List.eq_nil_of_length_eq_zero hl
    subst this
    exact Reads.nil w
  · refine ⟨_, cap, by rw [hl], by omega, h2, fun j x hj => ⟨g, 0, rfl, ?_⟩⟩
    rw [Nat.zero_add, hg.cell]
    rw [← h4, List.getElem?_take] at hj
    split at hj
    · exact hj
    · cases hj

theorem At.reads {w : World} {b n cap : Nat} {cs : List Value} {E : TypeId} (h : At w b cs E) (hn : cs.length = n) (h1 : n ≤ cap) (h2 : cap ≤ maxLen) : Reads w (.slice (some ⟨b, 0, none⟩) n cap) cs := by
  subst hn
  refine ⟨_, cap, rfl, h1, h2, fun j x hj => ⟨b, 0, rfl, ?_⟩⟩
  rw [Nat.zero_add, h.cell]
  exact hj

theorem run_loadVar_cells {P : Program} {w : World} {ad : Addr} {cs : List Value} {ty : TypeId} (ha : IsAgg P ty) (hs : (P.info? ty).map (·.size) = some cs.length)
    (h : ∀ j v, cs[j]? = some v → w.cell? (ad.add j) = some v) : (loadVar ty ad).run P w = .ok (.agg cs.toArray) w := by
  have hl := run_loadCells_list (P := P) w ad cs h
  simp [loadVar, Sem.run_bind, run_isAgg ha, run_sizeOf hs, hl]

/-- Loading a struct or an array whose cells are known one by one. -/
theorem wpL_loadc {P : Program} {ops : Array Oper} {rest : List Oper} {o : Oper} {a : Act} {w : World} {Q : Exit → Act → World → Prop} (hgd : o.guard = none) (ty : TypeId) (x : Operand) (ho : o.op = .load ty x) (b off : Nat) (hx : a.eval x = .pointer (some ⟨b, off, none⟩)) (cs : List Value)
    (ha : IsAgg P ty) (hs : (P.info? ty).map (·.size) = some cs.length) (h : ∀ j v, cs[j]? = some v → w.cell? ⟨b, off + j, none⟩ = some v)
    (hk : wpList P ops Q rest (a.put o.dst (.agg cs.toArray)) w) : wpList P ops Q (o :: rest) a w :=
  wpList_plain hgd fun _ hK => wp_value (v := .agg cs.toArray) (w' := w) (by
    have := run_loadVar_cells (P := P) (w := w) (ad := ⟨b, off, none⟩) (ty := ty) ha hs (fun j v hj => by rw [addr_add]; exact h j v hj)
    unfold execOp
    simp only [ho, hx, Instr.loadAt, Instr.sureAddr, Sem.run_bind, Sem.run_pure, Result.andThen_ok, this]) (hK _ _ hk)

end Go.Proofs.YtnffnpndnaofhaaGreatDoor
