/- Parts of the proof: A map of int keys as a piece of memory: what it holds is a function of the keys; conditions stand in the theorems. -/
import Derived.Test.YtnffnpndnaofhaaGreatDoorQap
import Derived.Maps.RangeWalk

/- A map of int keys as a piece of memory: what it holds is a function of the keys; conditions stand in the theorems. -/
namespace Go.Proofs.YtnffnpndnaofhaaGreatDoor
open Go.RowKit
set_option maxRecDepth 100000

abbrev DU := DataW Unit
abbrev Rdr := Value → Option (DU × List MemPlace)

/-- What D holds: M, at the keys ks. -/
structure MapIs {α : Type} (dat : α → DU) (D : DU) (M : Nat → Option α) (ks : List Nat) : Prop where
  tidy : Maps.Tidy D
  nodup : ks.Nodup
  mem : ∀ k, k ∈ ks ↔ M k ≠ none
  keys : ∀ kl, Maps.has D kl = true → ∃ k ∈ ks, kl = .int .i64 (k : Int)
  there : ∀ k v, M k = some v → Maps.has D (.int .i64 (k : Int)) = true ∧ ∀ z, D.atKey (.int .i64 (k : Int)) z = dat v
  size : Maps.size D = ks.length

theorem MapIs.empty {α : Type} (dat : α → DU) : MapIs dat (.map []) (fun _ => none) [] :=
  ⟨Maps.tidy_empty, List.nodup_nil, by simp, (by intro kl h; cases h), by simp, rfl⟩

def putM {α : Type} (M : Nat → Option α) (k : Nat) (v : α) : Nat → Option α := fun j => if j = k then some v else M j
def putK (ks : List Nat) (k : Nat) : List Nat := if k ∈ ks then ks else ks ++ [k]

theorem MapIs.has_iff {α : Type} {dat : α → DU} {D : DU} {M : Nat → Option α} {ks : List Nat} (h : MapIs dat D M ks) (k : Nat) : Maps.has D (.int .i64 (k : Int)) = (M k).isSome := by
  cases hm : M k with
  | some v => simpa using (h.there k v hm).1
  | none =>
    cases hh : Maps.has D (.int .i64 (k : Int)) with
    | false => rfl
    | true =>
      obtain ⟨j, hj, e⟩ := h.keys _ hh
      have : j = k := by injection e with _ e; omega
      subst this
      exact absurd hm ((h.mem j).1 hj)

theorem isKeyLit_int (n : Int) : WideAt.IsKeyLit (.int .i64 n) := by
  first | exact ⟨⟩ | exact trivial | simp [WideAt.IsKeyLit]

theorem MapIs.put {α : Type} {dat : α → DU} {D : DU} {M : Nat → Option α} {ks : List Nat} (h : MapIs dat D M ks) (k : Nat) (v : α) :
    MapIs dat (D.put (.int .i64 (k : Int)) (dat v)) (putM M k v) (putK ks k) := by
  have hk := isKeyLit_int (k : Int)
  have hne : ∀ j : Nat, j ≠ k → (Lit.int .i64 (j : Int)) ≠ .int .i64 (k : Int) := by
    intro j hj e
    injection e with _ e
    omega
  refine ⟨h.tidy.put hk _, ?_, ?_, ?_, ?_, ?_⟩
  · unfold putK
    split
    · exact h.nodup
    · rename_i hn
      rw [List.nodup_append]
      exact ⟨h.nodup, by simp, by intro a ha b hb e; simp at hb; subst hb; subst e; exact hn ha⟩
  · intro j
    unfold putK putM
    by_cases e : j = k
    · subst e
      simp only [if_true, ne_eq, reduceCtorEq, not_false_eq_true, iff_true]
      split
      · assumption
      · simp
    · rw [if_neg e, ← h.mem j]
      split
      · exact Iff.rfl
      · simp [e]
  · intro kl hh
    by_cases e : kl = .int .i64 (k : Int)
    · refine ⟨k, ?_, e⟩
      unfold putK
      split
      · assumption
      · simp
    · rw [Maps.has_put_other e] at hh
      obtain ⟨j, hj, e'⟩ := h.keys kl hh
      refine ⟨j, ?_, e'⟩
      unfold putK
      split
      · exact hj
      · simp [hj]
  · intro j u hj
    unfold putM at hj
    by_cases e : j = k
    · subst e
      rw [if_pos rfl] at hj
      cases hj
      exact ⟨Maps.has_put_same h.tidy.isMap hk _, fun z => Maps.atKey_put_same h.tidy.isMap hk _ z⟩
    · rw [if_neg e] at hj
      obtain ⟨h1, h2⟩ := h.there j u hj
      exact ⟨by rw [Maps.has_put_other (hne j e)]; exact h1, fun z => by rw [Maps.atKey_put_other (hne j e)]; exact h2 z⟩
  · rw [Maps.size_put h.tidy, h.has_iff k, h.size]
    unfold putK
    cases hm : M k with
    | none =>
      have : k ∉ ks := fun hc => (h.mem k).1 hc hm
      simp [this]
    | some u =>
      have : k ∈ ks := (h.mem k).2 (by rw [hm]; simp)
      simp [this]

theorem ownsMap_tight {w : World} {P : Program} {k : TypeId} {R : Rdr} {b n : Nat} {D : DU} (h : w.ownsMap P k R b n D) : w.ownsMap P k R b (Maps.size D) D := by
  obtain ⟨es, clock, hb, F, hs, rfl⟩ := h
  exact ⟨es, clock, hb, F, by simp only [Maps.size]; rw [length_read]; exact Nat.le_refl _, rfl⟩

/-- A map that the call has made. -/
def mapP {α : Type} (R : Rdr) (dat : α → DU) (mb : Nat) (M : Nat → Option α) (ks : List Nat) : HP where
  at' w fp := fp = [mb] ∧ ∃ D n, w.ownsMap Tryz.prog 3 R mb n D ∧ MapIs dat D M ks
  lt := by
    rintro w fp ⟨rfl, D, n, h, -⟩ k hk
    simp at hk
    subst hk
    exact h.lt
  keep := by
    rintro w w' fp ⟨rfl, D, n, ⟨es, clock, hb, F, hs, hD⟩, hi⟩ hk
    exact ⟨rfl, D, n, ⟨es, clock, (hk mb (by simp)).trans hb, F, hs, hD⟩, hi⟩

theorem Pres.of_grown {w w' : World} {row : Option Nat} {fp : List Nat} (h : w.grownBy w' row) (hr : ∀ k, row = some k → k ∈ fp) : Pres fp w w' :=
  ⟨h.os, h.tape, h.output, h.size, fun k hk hn => h.block k hk (fun e => hn (hr k e.symm))⟩

section
variable {α : Type} {R : Rdr} {dat : α → DU} {w0 w : World} {ps : List HP} {mb : Nat} {M : Nat → Option α} {ks : List Nat}

theorem St.map (H : St w0 w ps) (i : Nat) (h : ps[i]? = some (mapP R dat mb M ks)) : ∃ D, w.ownsMap Tryz.prog 3 R mb ks.length D ∧ MapIs dat D M ks := by
  obtain ⟨f, ⟨-, D, n, h1, h2⟩, -⟩ := H.get i h
  exact ⟨D, by rw [← h2.size]; exact ownsMap_tight h1, h2⟩

theorem St.mapNew (H : St w0 w ps) (R : Rdr) (dat : α → DU) : St w0 (w.alloc (.map #[] 0)) (mapP R dat w.heap.size (fun _ => none) [] :: ps) :=
  H.fresh _ ((Pres.refl _ _).alloc _) ⟨[w.heap.size], ⟨rfl, _, _, World.ownsMap_made w Tryz.prog 3 R, MapIs.empty dat⟩, by simp⟩

theorem St.mapPut (H : St w0 w ps) (i : Nat) (h : ps[i]? = some (mapP R dat mb M ks)) {k : Nat} {v : α} {n : Nat} {D : DU} {w' : World} (hi : MapIs dat D M ks)
    (h1 : w'.ownsMap Tryz.prog 3 R mb n (D.put (.int .i64 (k : Int)) (dat v))) (hg : w.grownBy w' (some mb)) : St w0 w' (ps.set i (mapP R dat mb (putM M k v) (putK ks k))) := by
  obtain ⟨f, ⟨rfl, -⟩, -, h2⟩ := H.turn i h
  exact h2 _ _ ⟨[mb], ⟨rfl, _, _, h1, hi.put k v⟩, Pres.of_grown hg (by simp), fun k hk => .inl hk⟩
end

/-! ## A leaf's value -/

def leafV (p : Nat × List UInt8) : Value := .agg #[.int .i64 (p.1 : Int), strV p.2]
def leafD (p : Nat × List UInt8) : DU := .agg [.lit (.int .i64 (p.1 : Int)), .lit (.string p.2)]

def leafL : List Value → Option (DU × List MemPlace)
  | [.int .i64 k, .string s] => some (.agg [.lit (.int .i64 k), .lit (.string s.data.toList)], [])
  | _ => none

def leafR : Rdr
  | .agg cs => leafL cs.toList
  | _ => none

theorem leafR_mk (p : Nat × List UInt8) : leafR (leafV p) = some (leafD p, []) := by simp [leafR, leafL, leafV, leafD, strV]

theorem leafR_inv {v : Value} {z : DU × List MemPlace} (h : leafR v = some z) : ∃ (k : Int) (s : ByteArray), v = .agg #[.int .i64 k, .string s] ∧ z = (.agg [.lit (.int .i64 k), .lit (.string s.data.toList)], []) := by
  cases v with
  | agg cs =>
    have h' : leafL cs.toList = some z := h
    have hc : cs = cs.toList.toArray := by simp
    rw [hc]
    generalize cs.toList = l at *
    unfold leafL at h'
    split at h'
    · cases h'
      exact ⟨_, _, rfl, rfl⟩
    · cases h'
  | _ => cases h

theorem leafR_eq {v : Value} {p : Nat × List UInt8} {ps : List MemPlace} (h : leafR v = some (leafD p, ps)) : v = leafV p := by
  obtain ⟨k, s, rfl, e⟩ := leafR_inv h
  simp only [leafD, Prod.mk.injEq, DataW.agg.injEq, List.cons.injEq, DataW.lit.injEq, Lit.int.injEq, true_and, Lit.string.injEq, and_true] at e
  obtain ⟨⟨e1, e2⟩, -⟩ := e
  rw [leafV, e1, e2, strV]

/-- A text's value. -/
def textD (l : List UInt8) : DU := .lit (.string l)

def textR : Rdr
  | .string s => some (.lit (.string s.data.toList), [])
  | _ => none

theorem textR_mk (l : List UInt8) : textR (strV l) = some (textD l, []) := by simp [textR, strV, textD]

theorem textR_eq {v : Value} {l : List UInt8} {ps : List MemPlace} (h : textR v = some (textD l, ps)) : v = strV l := by
  unfold textR at h
  split at h
  · simp only [textD, Option.some.injEq, Prod.mk.injEq, DataW.lit.injEq, Lit.string.injEq] at h
    obtain ⟨h, -⟩ := h
    rw [strV, ← h]
  · cases h

theorem int_key : Maps.Keyed Tryz.prog 3 := Maps.int_keyed Tryz.underlying3

theorem key_of (n : Nat) (h : n < 9223372036854775808) : keyOf Tryz.prog 3 (.int .i64 (n : Int)) = some (.int .i64 (n : Int)) :=
  Maps.keyOf_int_mk Tryz.underlying3 (WalkArith.wf_i64 (by omega))

end Go.Proofs.YtnffnpndnaofhaaGreatDoor

/- A transaction (layer 10): get and there; conditions stand in the theorems. -/
namespace Go.Proofs.YtnffnpndnaofhaaGreatDoor
open Go.RowKit
set_option maxRecDepth 100000

abbrev Leaf := Nat × List UInt8

/-- Page id, as a transaction sees it: what it has put, or what the disk has. -/
def Seen (M : Nat → Option Leaf) (σ : Dk) (log id : Nat) (p : Leaf) : Prop :=
  M id = some p ∨ (M id = none ∧ sectorsB σ (log + 8 * id) 8 = pageB id p.1 p.2 ∧ 1 ≤ p.1 ∧ p.1 ≤ 255 ∧ p.2.length ≤ 500)

def getR (n : Meta) (v : Nat → Leaf) (id : Int) : Leaf × Int := if id < 1 ∨ (n.high : Int) ≤ id then ((0, []), 2) else (v id.toNat, 0)

def thereR (n : Meta) (v : Nat → Leaf) (id : Int) : Leaf × Int := if (getR n v id).2 = 0 ∧ (getR n v id).1.1 = 255 then ((0, []), 8) else getR n v id

/-- The view v is what is seen. -/
structure Sees (n : Meta) (M : Nat → Option Leaf) (σ : Dk) (log : Nat) (v : Nat → Leaf) : Prop where
  seen : ∀ id, 1 ≤ id → id < n.high → Seen M σ log id (v id)
  room : log + 8 * n.high ≤ σ.kept.length

theorem leaf_zero (w : World) : (zeroValue 101).run Tryz.prog w = .ok (.agg #[.int .i64 0, .string ⟨#[]⟩]) w := by kernel_rfl
theorem leaf_agg : IsAgg Tryz.prog 101 := ⟨_, Tryz.underlying101, rfl⟩
theorem leaf_size : (Tryz.prog.info? 101).map (·.size) = some 2 := by kernel_rfl


theorem at_lookup' {P : Program} {ops : Array Oper} {rest : List Oper} {a : Act} {w : World} {Q : Exit → Act → World → Prop} {d : Option Tmp} {ty : TypeId} {pos : String} {af : Array Edge} {g : Option (Nat × Bool)} {t : TypeId} {x y : Operand} {c : Bool} (h : wpList P ops Q (⟨d, .lookup t x y c, ty, pos, af, g⟩ :: rest) a w) : wpList P ops Q (⟨d, .lookup t x y c, ty, pos, af, g⟩ :: rest) a w := h

theorem run_lookup_op {P : Program} {w : World} {o : Oper} {a : Act} {t : TypeId} {x y : Operand} {c : Bool} {m key v : Value} (ho : o.op = .lookup t x y c) (hx : a.eval x = m) (hy : a.eval y = key) (h : (Instr.lookup t m key c).run P w = .ok v w) : (execOp a.eval o).run P w = .ok (.value v) w := by
  unfold execOp
  simp only [ho, hx, hy, Sem.run_bind, Sem.run_pure, Result.andThen_ok, h]

theorem leafR_zero : leafR (.agg #[.int .i64 0, .string ⟨#[]⟩]) = some (leafD (0, []), []) := by simp [leafR, leafL, leafD]

theorem leaf_look {w0 w : World} {ps : List HP} {mb : Nat} {M : Nat → Option Leaf} {ks : List Nat} (H : St w0 w ps) (i : Nat) (h : ps[i]? = some (mapP leafR leafD mb M ks)) (id : Nat) (hid : id < 9223372036854775808) :
    (Instr.lookup 65 (.map (some mb)) (.int .i64 (id : Int)) true).run Tryz.prog w = .ok (.tuple #[leafV ((M id).getD (0, [])), .bool (M id).isSome]) w := by
  obtain ⟨D, h1, h2⟩ := H.map i h
  obtain ⟨v, zs, hr, hv⟩ := h1.look_ok (t := 65) (e := 101) int_key Tryz.underlying65 (leaf_zero w) leafR_zero (key_of id hid)
  rw [h2.has_iff id] at hr
  rw [hr]
  congr 3
  cases hm : M id with
  | some p =>
    rw [(h2.there id p hm).2] at hv
    rw [leafR_eq hv]
    rfl
  | none =>
    have hn : Maps.has D (.int .i64 (id : Int)) = false := by rw [h2.has_iff id, hm]; rfl
    rw [Maps.atKey_of_not_has hn] at hv
    rw [leafR_eq hv]
    rfl

theorem results_cell_at {fn : Func} {p u : Tmp} {ty : TypeId} (h : fn.results = #[.cell p ty, .tmp u]) {P : Program} {w : World} {b : Nat} {cs : List Value} {E : TypeId} {tmps : Array Value} (hp : tmps.getD p undef = .pointer (some ⟨b, 0, none⟩))
    (ha : IsAgg P ty) (hs : (P.info? ty).map (·.size) = some cs.length) (hat : At w b cs E) : (results fn tmps).run P w = .ok (.tuple #[.agg cs.toArray, tmps.getD u undef]) w := by
  have hl := run_loadVar_piece (P := P) (off := 0) (n := cs.length) hat ha hs (by omega)
  rw [List.drop_zero, List.take_length] at hl
  rw [results_cell_tmp h, hp]
  simp [asAddr, hl, Result.andThen]

theorem St.sink4 {w0 w : World} {a p q r s : HP} {ps : List HP} (H : St w0 w (a :: p :: q :: r :: s :: ps)) : St w0 w (p :: q :: r :: s :: a :: ps) := (((H.pull 4 rfl).pull 4 rfl).pull 4 rfl).pull 4 rfl

theorem St.lift4 {w0 w : World} {a p q r s : HP} {ps : List HP} (H : St w0 w (p :: q :: r :: s :: a :: ps)) : St w0 w (a :: p :: q :: r :: s :: ps) := H.pull 4 rfl

theorem leafV_str (k : Nat) (l : List UInt8) : ∃ z : ByteArray, Hid (z = ⟨l.toArray⟩) ∧ leafV (k, l) = .agg #[.int .i64 (k : Int), .string z] := ⟨_, hid rfl, rfl⟩

theorem getR_cases (n : Meta) (v : Nat → Leaf) (id : Int) : getR n v id = ((0, []), 2) ∨ (1 ≤ id ∧ id < n.high ∧ getR n v id = (v id.toNat, 0)) := by
  unfold getR
  split
  · exact .inl rfl
  · exact .inr ⟨by omega, by omega, rfl⟩

theorem one_leaf (k : Int) (z : ByteArray) : ∀ v ∈ [Value.int .i64 k, .string z], v.oneCell' = true := by
  intro v hv
  simp only [List.mem_cons, List.not_mem_nil, or_false] at hv
  rcases hv with rfl | rfl <;> rfl

section
variable {w0 w : World} {ps : List HP} {t x d b log mb : Nat} {m n : Meta} {M : Nat → Option Leaf} {ks : List Nat} {marked spoilt : Bool} {σ : Dk}

set_option maxHeartbeats 4000000 in
theorem tx_get (hh : HalfAt w0) (H : St w0 w (objP t (txCells x n (.map (some mb)) marked spoilt) 67 :: objP x (dbCells d b log m (.pointer (some ⟨t, 0, none⟩)) false) 62 :: diskP d σ :: mapP leafR leafD mb M ks :: ps))
    (hd : σ.down = false) {v : Nat → Leaf} (hv : Sees n M σ log v) (id : Int) (hid' : id < 9223372036854775808) :
    Calls Tryz.prog 59 #[.pointer (some ⟨t, 0, none⟩), .int .i64 id] w fun e w' => e = .returned (.tuple #[leafV (getR n v id).1, .int .i64 (getR n v id).2]) ∧
      St w0 w' (objP t (txCells x n (.map (some mb)) marked spoilt) 67 :: objP x (dbCells d b log m (.pointer (some ⟨t, 0, none⟩)) false) 62 :: diskP d σ :: mapP leafR leafD mb M ks :: ps) := by
  have HH := hid H
  by_cases h1 : id < 1
  · have e : getR n v id = ((0, []), 2) := by rw [getR, if_pos (.inl h1)]
    rw [e]
    clear H e hv
    go_enter Tryz.func59, Tryz.ntmps59
    go_wp2
    (try simp only [Exit.inBlock, Exit.then])
    refine bodyPost_ret (results_cell_at (cs := [.int .i64 0, .string ⟨#[]⟩]) rfl rfl leaf_agg leaf_size (At.new w _ _)) rfl ?_
    exact ⟨rfl, (HH.out.alloc _ _).drop⟩
  have hn1 : decide (id < 1) = false := decide_eq_false h1
  by_cases h2 : (n.high : Int) ≤ id
  · have e : getR n v id = ((0, []), 2) := by rw [getR, if_pos (.inr h2)]
    rw [e]
    have c5 := ((H.alloc [.int .i64 0, .string ⟨#[]⟩] 101).obj 1 rfl).cell 5
    simp only [txCells, List.getElem?_cons_succ, List.getElem?_cons_zero] at c5
    have hn2 : decide ((n.high : Int) ≤ id) = true := decide_eq_true h2
    clear H e hv h1
    go_enter Tryz.func59, Tryz.ntmps59
    go_wp2
    (try simp only [Exit.inBlock, Exit.then])
    refine bodyPost_ret (results_cell_at (cs := [.int .i64 0, .string ⟨#[]⟩]) rfl rfl leaf_agg leaf_size (At.new w _ _)) rfl ?_
    exact ⟨rfl, (HH.out.alloc _ _).drop⟩
  have hn2 : decide ((n.high : Int) ≤ id) = false := decide_eq_false h2
  obtain ⟨i, rfl⟩ : ∃ i : Nat, id = (i : Int) := ⟨id.toNat, by omega⟩
  have hi1 : 1 ≤ i := by omega
  have hi2 : i < n.high := by omega
  have e : getR n v (i : Int) = (v i, 0) := by rw [getR, if_neg (by omega), Int.toNat_natCast]
  rw [e]
  clear e
  have hsee := hv.seen i hi1 hi2
  have hroom := hv.room
  obtain ⟨p, hp⟩ : ∃ p, v i = p := ⟨_, rfl⟩
  rw [hp] at hsee ⊢
  obtain ⟨z, hz⟩ : ∃ z : ByteArray, strV p.2 = .string z := ⟨_, rfl⟩
  have hlv : leafV p = .agg #[.int .i64 (p.1 : Int), .string z] := by rw [leafV, hz]
  rw [hlv]
  have H1 := hid (H.alloc [.int .i64 0, .string ⟨#[]⟩] 101)
  have c5 := (H1.out.obj 1 rfl).cell 5
  have c8 := (H1.out.obj 1 rfl).cell 8
  have c0 := (H1.out.obj 1 rfl).cell 0
  simp only [txCells, List.getElem?_cons_succ, List.getElem?_cons_zero] at c0 c5 c8
  clear H HH hv hp h1
  rcases hsee with hm | ⟨hm, himg, hk1, hk2, hl5⟩
  · have hlk := leaf_look H1.out 4 rfl i (by omega)
    rw [hm] at hlk
    simp only [Option.getD_some, Option.isSome_some] at hlk
    rw [hlv] at hlk
    go_enter Tryz.func59, Tryz.ntmps59
    go_upto_region 1 with fail
    have hb0 := (H1.out.obj 0 rfl).frozen 0
    have hb1 := (H1.out.obj 0 rfl).frozen 1
    have hbl := (H1.out.obj 0 rfl).lt
    generalize (w.alloc (.cells #[.int .i64 0, .string ⟨#[]⟩] 101)) = w1 at *
    generalize w.heap.size = rb at *
    go_upto_region 4 with ((with_reducible refine at_lookup' ?_); refine wpL_val' rfl _ (run_lookup_op rfl rfl rfl hlk) ?_)
    have H2 := hid (H1.out.alloc [.int .i64 (p.1 : Int), .string z] 101)
    go_wp2_with ((with_reducible refine at_store ?_); refine wpL_store rfl 101 (.tmp 4) (.tmp 34) rfl rb 0 2 rfl [.int .i64 (p.1 : Int), .string z] rfl _ _ (H2.out.obj 1 rfl) leaf_size rfl (by simp) (one_leaf _ _) ?_; intro w3 A3 P3 S3; have H3 := hid (H2.out.put 1 rfl A3 P3))
    (try simp only [Exit.inBlock, Exit.then])
    refine bodyPost_ret (results_cell_at (cs := [.int .i64 (p.1 : Int), .string z]) rfl rfl leaf_agg leaf_size (H3.out.obj 1 rfl)) rfl ?_
    exact ⟨rfl, H3.out.drop.drop⟩
  · have hlk := leaf_look H1.out 4 rfl i (by omega)
    rw [hm] at hlk
    simp only [Option.getD_none, Option.isSome_none] at hlk
    rw [show leafV (0, []) = .agg #[.int .i64 0, .string ⟨#[]⟩] from rfl] at hlk
    obtain ⟨zs, hzs⟩ : ∃ zs : ByteArray, strV (sectorsB σ (log + 8 * i) 8) = .string zs := ⟨_, rfl⟩
    have hzl : zs.data.toList = pageB i p.1 p.2 := by
      rw [← himg]
      have := hzs
      rw [strV] at this
      injection this with this
      rw [← this]
    go_enter Tryz.func59, Tryz.ntmps59
    go_upto_region 1 with fail
    have hb0 := (H1.out.obj 0 rfl).frozen 0
    have hb1 := (H1.out.obj 0 rfl).frozen 1
    have hbl := (H1.out.obj 0 rfl).lt
    generalize (w.alloc (.cells #[.int .i64 0, .string ⟨#[]⟩] 101)) = w1 at *
    generalize w.heap.size = rb at *
    go_upto_region 6 with ((with_reducible refine at_lookup' ?_); refine wpL_val' rfl _ (run_lookup_op rfl rfl rfl hlk) ?_)
    have H2 := hid ((H1.out.alloc [.int .i64 0, .string ⟨#[]⟩] 101).drop.pull 3 rfl |>.pull 3 rfl)
    clear c0 c5 c8 hlk H1 hb0 hb1 hbl
    have c0 := (H2.out.obj 3 rfl).cell 0
    simp only [txCells, List.getElem?_cons_zero] at c0
    generalize (w1.alloc _) = w2 at *
    have him := pd_image H2.out i hd (by omega)
    rw [hzs] at him
    go_upto_region 9 with (go_at_call 46; refine him.mono ?_; rintro e w3 ⟨rfl, H3, -⟩)
    have H3 := hid H3
    have hop := pg_open w3 (hh.pres H3.out.pres) i p.1 p.2 zs hzl (by have := (sd_ok (H3.out.pull 1 rfl)).most; omega) hk1 hk2 hl5
    rw [hz] at hop
    clear him H2 c0
    go_upto_region 10 with (go_at_call 48; refine hop.mono ?_; rintro e w4 ⟨rfl, P4⟩; have H4 := hid (H3.out.quiet P4))
    clear hop H3
    go_wp2_with ((with_reducible refine at_store ?_); refine wpL_store rfl 101 (.tmp 4) (.tmp 57) rfl rb 0 2 rfl [.int .i64 (p.1 : Int), .string z] rfl _ _ (H4.out.obj 2 rfl) leaf_size rfl (by simp) (one_leaf _ _) ?_; intro w5 A5 P5 S5; have H5 := hid (H4.out.put 2 rfl A5 P5))
    (try simp only [Exit.inBlock, Exit.then])
    refine bodyPost_ret (results_cell_at (cs := [.int .i64 (p.1 : Int), .string z]) rfl rfl leaf_agg leaf_size (H5.out.obj 2 rfl)) rfl ?_
    exact ⟨rfl, (H5.out.pull 2 rfl).drop.pull 2 rfl⟩

set_option maxHeartbeats 4000000 in
theorem tx_there (hh : HalfAt w0) (H : St w0 w (objP t (txCells x n (.map (some mb)) marked spoilt) 67 :: objP x (dbCells d b log m (.pointer (some ⟨t, 0, none⟩)) false) 62 :: diskP d σ :: mapP leafR leafD mb M ks :: ps))
    (hd : σ.down = false) {v : Nat → Leaf} (hv : Sees n M σ log v) (id : Int) (hid' : id < 9223372036854775808) :
    Calls Tryz.prog 52 #[.pointer (some ⟨t, 0, none⟩), .int .i64 id] w fun e w' => e = .returned (.tuple #[leafV (thereR n v id).1, .int .i64 (thereR n v id).2]) ∧
      St w0 w' (objP t (txCells x n (.map (some mb)) marked spoilt) 67 :: objP x (dbCells d b log m (.pointer (some ⟨t, 0, none⟩)) false) 62 :: diskP d σ :: mapP leafR leafD mb M ks :: ps) := by
  have H1 := hid (H.alloc [.int .i64 0, .string ⟨#[]⟩] 101).sink4
  have hu := fun W (hW : W = w.alloc (.cells #[.int .i64 0, .string ⟨#[]⟩] 101)) => hW ▸ tx_up H1.out hd
  have hg := tx_get hh H1.out hd hv id hid'
  have hgc := getR_cases n v id
  obtain ⟨T, hT⟩ : ∃ T, Hid (thereR n v id = T) := ⟨_, hid rfl⟩
  have hT2 := hT.out
  unfold thereR at hT2
  rw [hT.out]
  clear hT
  generalize getR n v id = G at *
  obtain ⟨⟨k, l⟩, ge⟩ := G
  obtain ⟨⟨k2, l2⟩, te⟩ := T
  simp only [] at hT2 hg
  obtain ⟨z, hz, ez⟩ := leafV_str k l
  obtain ⟨z2, hz2, ez2⟩ := leafV_str k2 l2
  rw [ez] at hg
  rw [ez2]
  have hge : ge = 0 ∨ ge = 2 := by
    rcases hgc with h | ⟨-, -, h⟩
    · injection h with _ h; exact .inr h
    · injection h with _ h; exact .inl h
  have HN := hid (And.intro hT2 (And.intro hz hz2))
  clear hgc H hv hT2 ez ez2 hz hz2
  rcases hge with rfl | rfl
  · by_cases hk : k = 255
    · subst hk
      go_enter Tryz.func52, Tryz.ntmps52
      go_upto_region 4 with (go_at_call 53; refine (hu _ rfl).mono ?_; rintro e w' ⟨rfl, rfl⟩)
      generalize (w.alloc (.cells #[.int .i64 0, .string ⟨#[]⟩] 101)) = w1 at *
      generalize w.heap.size = rb at *
      go_upto_region 5 with (go_at_call 59; refine hg.mono ?_; rintro e w2 ⟨rfl, H2⟩)
      have H3 := hid (H2.alloc [.int .i64 ((255 : Nat) : Int), .string z] 101)
      have c0 := (H3.out.obj 0 rfl).cell 0
      simp only [List.getElem?_cons_zero] at c0
      clear H2 H1 hu hg
      go_wp2_with ((with_reducible refine at_store ?_); refine wpL_store rfl 101 (.tmp 4) (.tmp 28) rfl rb 0 2 rfl [.int .i64 0, .string ⟨#[]⟩] rfl _ _ (H3.out.obj 5 rfl) leaf_size rfl (by simp) (one_leaf _ _) ?_; intro w4 A4 P4 S4; have H4 := hid (H3.out.put 5 rfl A4 P4))
      (try simp only [Exit.inBlock, Exit.then])
      refine bodyPost_ret (results_cell_at (cs := [.int .i64 0, .string ⟨#[]⟩]) rfl rfl leaf_agg leaf_size (H4.out.obj 5 rfl)) rfl ?_
      obtain ⟨e0, -, h2⟩ := HN.out
      rw [if_pos ⟨trivial, trivial⟩] at e0
      cases e0
      rw [h2.out]
      exact ⟨rfl, (H4.out.drop.pull 4 rfl).drop⟩
    · have hk' : ((k : Int) == 255) = false := by rw [beq_eq_false_iff_ne]; omega
      go_enter Tryz.func52, Tryz.ntmps52
      go_upto_region 4 with (go_at_call 53; refine (hu _ rfl).mono ?_; rintro e w' ⟨rfl, rfl⟩)
      generalize (w.alloc (.cells #[.int .i64 0, .string ⟨#[]⟩] 101)) = w1 at *
      generalize w.heap.size = rb at *
      go_upto_region 5 with (go_at_call 59; refine hg.mono ?_; rintro e w2 ⟨rfl, H2⟩)
      have H3 := hid (H2.alloc [.int .i64 (k : Int), .string z] 101)
      have c0 := (H3.out.obj 0 rfl).cell 0
      simp only [List.getElem?_cons_zero] at c0
      clear H2 H1 hu hg
      go_wp2_with ((with_reducible refine at_store ?_); refine wpL_store rfl 101 (.tmp 4) (.tmp 29) rfl rb 0 2 rfl [.int .i64 (k : Int), .string z] rfl _ _ (H3.out.obj 5 rfl) leaf_size rfl (by simp) (one_leaf _ _) ?_; intro w4 A4 P4 S4; have H4 := hid (H3.out.put 5 rfl A4 P4))
      (try simp only [Exit.inBlock, Exit.then])
      refine bodyPost_ret (results_cell_at (cs := [.int .i64 (k : Int), .string z]) rfl rfl leaf_agg leaf_size (H4.out.obj 5 rfl)) rfl ?_
      obtain ⟨e0, h1, h2⟩ := HN.out
      rw [if_neg (by simp [hk])] at e0
      cases e0
      rw [h2.out, ← h1.out]
      exact ⟨rfl, (H4.out.drop.pull 4 rfl).drop⟩
  · go_enter Tryz.func52, Tryz.ntmps52
    go_upto_region 4 with (go_at_call 53; refine (hu _ rfl).mono ?_; rintro e w' ⟨rfl, rfl⟩)
    generalize (w.alloc (.cells #[.int .i64 0, .string ⟨#[]⟩] 101)) = w1 at *
    generalize w.heap.size = rb at *
    go_upto_region 5 with (go_at_call 59; refine hg.mono ?_; rintro e w2 ⟨rfl, H2⟩)
    have H3 := hid (H2.alloc [.int .i64 (k : Int), .string z] 101)
    have c0 := (H3.out.obj 0 rfl).cell 0
    simp only [List.getElem?_cons_zero] at c0
    clear H2 H1 hu hg
    go_wp2_with ((with_reducible refine at_store ?_); refine wpL_store rfl 101 (.tmp 4) (.tmp 29) rfl rb 0 2 rfl [.int .i64 (k : Int), .string z] rfl _ _ (H3.out.obj 5 rfl) leaf_size rfl (by simp) (one_leaf _ _) ?_; intro w4 A4 P4 S4; have H4 := hid (H3.out.put 5 rfl A4 P4))
    (try simp only [Exit.inBlock, Exit.then])
    refine bodyPost_ret (results_cell_at (cs := [.int .i64 (k : Int), .string z]) rfl rfl leaf_agg leaf_size (H4.out.obj 5 rfl)) rfl ?_
    obtain ⟨e0, h1, h2⟩ := HN.out
    rw [if_neg (by simp)] at e0
    cases e0
    rw [h2.out, ← h1.out]
    exact ⟨rfl, (H4.out.drop.pull 4 rfl).drop⟩
end

end Go.Proofs.YtnffnpndnaofhaaGreatDoor

/- A transaction (layer 10): Read and Write; conditions stand in the theorems. -/
namespace Go.Proofs.YtnffnpndnaofhaaGreatDoor
open Go.RowKit
set_option maxRecDepth 100000

def readR (n : Meta) (v : Nat → Leaf) (id : Int) : Leaf × Int := if (thereR n v id).2 = 0 then ((thereR n v id).1, 0) else ((0, []), (thereR n v id).2)

def writeR (n : Meta) (v : Nat → Leaf) (id kind : Int) (len : Nat) : Int :=
  if (thereR n v id).2 = 0 then (if kind < 1 ∨ 255 ≤ kind then 2 else if 500 < len then 3 else 0) else (thereR n v id).2

theorem thereR_nat {n : Meta} {v : Nat → Leaf} {id : Int} (h : (thereR n v id).2 = 0) : 1 ≤ id ∧ id < n.high ∧ (v id.toNat).1 ≠ 255 ∧ thereR n v id = (v id.toNat, 0) := by
  unfold thereR at h ⊢
  rcases getR_cases n v id with e | ⟨h1, h2, e⟩
  · rw [e] at h
    simp at h
  · rw [e] at h ⊢
    simp only [true_and] at h ⊢
    by_cases h3 : (v id.toNat).1 = 255
    · rw [if_pos h3] at h
      simp at h
    · rw [if_neg h3]
      exact ⟨h1, h2, h3, rfl⟩

section
variable {w0 w : World} {ps : List HP} {t x d b log mb : Nat} {m n : Meta} {M : Nat → Option Leaf} {ks : List Nat} {marked spoilt : Bool} {σ : Dk}

set_option maxHeartbeats 4000000 in
theorem tx_read (hh : HalfAt w0) (H : St w0 w (objP t (txCells x n (.map (some mb)) marked spoilt) 67 :: objP x (dbCells d b log m (.pointer (some ⟨t, 0, none⟩)) false) 62 :: diskP d σ :: mapP leafR leafD mb M ks :: ps))
    (hd : σ.down = false) {v : Nat → Leaf} (hv : Sees n M σ log v) (pid : Int) (hpid : pid < 9223372036854775808) :
    Calls Tryz.prog 18 #[.pointer (some ⟨t, 0, none⟩), .int .i64 pid] w fun e w' => e = .returned (.tuple #[.int .i64 ((readR n v pid).1.1 : Int), strV (readR n v pid).1.2, .int .i64 (readR n v pid).2]) ∧
      St w0 w' (objP t (txCells x n (.map (some mb)) marked spoilt) 67 :: objP x (dbCells d b log m (.pointer (some ⟨t, 0, none⟩)) false) 62 :: diskP d σ :: mapP leafR leafD mb M ks :: ps) := by
  have ht := tx_there hh H hd hv pid hpid
  unfold readR
  generalize thereR n v pid = T at *
  obtain ⟨⟨k, l⟩, te⟩ := T
  simp only [] at ht ⊢
  obtain ⟨z, hz, ez⟩ := leafV_str k l
  rw [ez] at ht
  clear H hv ez
  by_cases h0 : te = 0
  · subst h0
    rw [if_pos rfl]
    have e2 : strV l = .string z := by rw [hz.out]; rfl
    simp only [e2]
    clear e2 hz
    go_enter Tryz.func18, Tryz.ntmps18
    go_upto_region 2 with (go_at_call 52; refine ht.mono ?_; rintro e w2 ⟨rfl, H2⟩)
    have H3 := hid (H2.alloc [.int .i64 (k : Int), .string z] 101)
    generalize (w2.alloc _) = w3 at *
    generalize w2.heap.size = q at *
    clear H2 ht
    go_upto_region 4 with fail
    refine wp_stages (by kernel_rfl) ?_
    have H4 := hid H3.out.drew
    clear H3
    generalize w3.drew = w4 at *
    have c0 := (H4.out.obj 0 rfl).cell 0
    have c1 := (H4.out.obj 0 rfl).cell 1
    simp only [List.getElem?_cons_succ, List.getElem?_cons_zero] at c0 c1
    have S0 : w4.cell? ⟨q, 0, none⟩ = some (.int .i64 (k : Int)) ∧ w4.cell? ⟨q, 1, none⟩ = some (.string z) := ⟨c0, c1⟩
    refine wp_stage (fun W => W.cell? ⟨q, 0, none⟩ = some (.int .i64 (k : Int)) ∧ W.cell? ⟨q, 1, none⟩ = some (.string z)) [(0, true), (1, true), (2, true), (3, true), (4, false)] 2 rfl (by kernel_rfl) (by intro c a dd v w h; cases dd <;> exact h) (S0) ?_
    iterate 4 (refine wpOrd_read (v := _) rfl rfl (by intro w' hS; obtain ⟨s0, s1⟩ := id hS; clear hS; go_simp; rfl) ?_; (try simp only [Act.put, List.setIfInBounds_toArray, List.set_cons_succ, List.set_cons_zero, List.getElem_toArray, List.getElem_cons_succ, List.getElem_cons_zero]))
    refine wpOrd_do rfl rfl (fun K hK => ?_)
    go_simp
    refine hK _ _ ⟨S0, ?_⟩
    clear hK K
    (try simp only [Act.put, List.setIfInBounds_toArray, List.set_cons_succ, List.set_cons_zero, List.getElem_toArray, List.getElem_cons_succ, List.getElem_cons_zero])
    refine wpOrd_end ?_
    refine wp_stages_end 5 (by rfl) (by kernel_rfl) ?_
    simp only [List.drop_succ_cons, List.drop_zero]
    go_wp2
    go_ret3
    exact ⟨rfl, H4.out.drop⟩
  · rw [if_neg h0]
    have hb0 : (te != 0) = true := by simpa using h0
    simp only [show strV [] = .string ⟨#[]⟩ from rfl, Int.natCast_zero]
    clear h0 hz
    go_enter Tryz.func18, Tryz.ntmps18
    go_upto_region 2 with (go_at_call 52; refine ht.mono ?_; rintro e w2 ⟨rfl, H2⟩)
    have H3 := hid (H2.alloc [.int .i64 (k : Int), .string z] 101)
    clear H2 ht
    go_wp2
    go_ret3
    exact ⟨rfl, H3.out.drop⟩

set_option maxHeartbeats 4000000 in
theorem tx_write (hh : HalfAt w0) (H : St w0 w (objP t (txCells x n (.map (some mb)) marked spoilt) 67 :: objP x (dbCells d b log m (.pointer (some ⟨t, 0, none⟩)) false) 62 :: diskP d σ :: mapP leafR leafD mb M ks :: ps))
    (hd : σ.down = false) {v : Nat → Leaf} (hv : Sees n M σ log v) (pid kind : Int) (hpid : pid < 9223372036854775808) (s : ByteArray) (hks : ks.length < 1000000) :
    Calls Tryz.prog 22 #[.pointer (some ⟨t, 0, none⟩), .int .i64 pid, .int .i64 kind, .string s] w fun e w' => e = .returned (.int .i64 (writeR n v pid kind s.size)) ∧
      St w0 w' (objP t (txCells x n (.map (some mb)) marked spoilt) 67 :: objP x (dbCells d b log m (.pointer (some ⟨t, 0, none⟩)) false) 62 :: diskP d σ ::
        (if writeR n v pid kind s.size = 0 then mapP leafR leafD mb (putM M pid.toNat (kind.toNat, s.data.toList)) (putK ks pid.toNat) else mapP leafR leafD mb M ks) :: ps) := by
  have ht := tx_there hh H hd hv pid hpid
  have hn := fun h => thereR_nat (n := n) (v := v) (id := pid) h
  obtain ⟨F, hF⟩ : ∃ F, Hid (writeR n v pid kind s.size = F) := ⟨_, hid rfl⟩
  rw [hF.out]
  have hF2 := hF.out
  unfold writeR at hF2
  generalize thereR n v pid = T at *
  obtain ⟨⟨k, l⟩, te⟩ := T
  simp only [] at ht hF2 hn
  obtain ⟨z, hz, ez⟩ := leafV_str k l
  rw [ez] at ht
  clear H hv ez hF hz
  by_cases h0 : te = 0
  · subst h0
    rw [if_pos rfl] at hF2
    by_cases hk : kind < 1 ∨ 255 ≤ kind
    · rw [if_pos hk] at hF2
      subst hF2
      rcases hk with hk | hk
      · go_enter Tryz.func22, Tryz.ntmps22
        go_upto_region 2 with (go_at_call 52; refine ht.mono ?_; rintro e w2 ⟨rfl, H2⟩)
        have H3 := hid (H2.alloc [.int .i64 (k : Int), .string z] 101)
        clear H2 ht
        go_wp2
        go_ret
        exact ⟨rfl, H3.out.drop⟩
      · have hk1 : decide (kind < 1) = false := decide_eq_false (by omega)
        go_enter Tryz.func22, Tryz.ntmps22
        go_upto_region 2 with (go_at_call 52; refine ht.mono ?_; rintro e w2 ⟨rfl, H2⟩)
        have H3 := hid (H2.alloc [.int .i64 (k : Int), .string z] 101)
        clear H2 ht
        go_wp2
        go_ret
        exact ⟨rfl, H3.out.drop⟩
    · rw [if_neg hk] at hF2
      have hk1 : decide (kind < 1) = false := decide_eq_false (by omega)
      have hk2 : decide (255 ≤ kind) = false := decide_eq_false (by omega)
      by_cases hl : 500 < s.size
      · rw [if_pos hl] at hF2
        subst hF2
        have hl' : (500 : Int) < (s.size : Int) := by omega
        clear hk
        go_enter Tryz.func22, Tryz.ntmps22
        go_upto_region 2 with (go_at_call 52; refine ht.mono ?_; rintro e w2 ⟨rfl, H2⟩)
        have H3 := hid (H2.alloc [.int .i64 (k : Int), .string z] 101)
        clear H2 ht
        go_wp2
        go_ret
        exact ⟨rfl, H3.out.drop⟩
      · rw [if_neg hl] at hF2
        subst hF2
        have hl' : decide ((500 : Int) < (s.size : Int)) = false := decide_eq_false (by omega)
        obtain ⟨kd, hkd⟩ : ∃ kd : Nat, kind = (kd : Int) := ⟨kind.toNat, by omega⟩
        have hnn := hn rfl
        obtain ⟨q, hq⟩ : ∃ q : Nat, pid = (q : Int) := ⟨pid.toNat, by omega⟩
        subst hkd
        subst hq
        simp only [Int.toNat_natCast, if_true]
        have hkey := key_of q (by omega)
        obtain ⟨M2, hM2⟩ : ∃ M2, Hid (putM M q (kd, s.data.toList) = M2) := ⟨_, hid rfl⟩
        rw [hM2.out]
        clear hk hl hnn hn
        go_enter Tryz.func22, Tryz.ntmps22
        go_upto_region 2 with (go_at_call 52; refine ht.mono ?_; rintro e w2 ⟨rfl, H2⟩)
        have H3 := hid (H2.alloc [.int .i64 (k : Int), .string z] 101).drop
        clear H2 ht
        generalize (w2.alloc _) = w3 at *
        have c8 := (H3.out.obj 0 rfl).cell 8
        simp only [txCells, List.getElem?_cons_succ, List.getElem?_cons_zero] at c8
        obtain ⟨D, hown, hmi⟩ := H3.out.map 3 rfl
        have HM := hid hmi
        have HO := hid hown
        have HK := hid hkey
        clear hmi hown hkey
        go_wp2_with (at_mapUpdate; refine wpList_mapUpdate_own _ rfl _ _ _ 65 rfl 3 101 int_key Tryz.underlying65 leafR mb ks.length D rfl HO.out (by unfold maxLen; omega) _ _ _ rfl rfl HK.out (leafD (kd, s.data.toList)) [] (leafR_mk (kd, s.data.toList)) ?_; intro w4 hown4 hg4; have H4 := hid (H3.out.mapPut 3 rfl HM.out hown4 hg4))
        go_ret
        refine ⟨rfl, ?_⟩
        rw [← hM2.out]
        exact H4.out
  · rw [if_neg h0] at hF2
    subst hF2
    have hb0 : (te != 0) = true := by simpa using h0
    rw [if_neg h0]
    clear h0
    go_enter Tryz.func22, Tryz.ntmps22
    go_upto_region 2 with (go_at_call 52; refine ht.mono ?_; rintro e w2 ⟨rfl, H2⟩)
    have H3 := hid (H2.alloc [.int .i64 (k : Int), .string z] 101)
    clear H2 ht
    go_wp2
    go_ret
    exact ⟨rfl, H3.out.drop⟩

end

end Go.Proofs.YtnffnpndnaofhaaGreatDoor
