/- Parts of the proof: A transaction (layer 10): get and there; conditions stand in the theorems. -/
import Derived.Test.YtnffnpndnaofhaaGreatDoorQam

/- A transaction (layer 10): get and there; conditions stand in the theorems. -/
namespace Go.Proofs.YtnffnpndnaofhaaGreatDoor
open Go.RowKit
set_option maxRecDepth 100000

abbrev Leaf := Nat × List UInt8

/-- Page id, as a transaction sees it: what it has put, or what the disk has. -/
def Seen (M : Nat → Option Leaf) (σ : Dk) (log id : Nat) (p : Leaf) : Prop :=
  M id = some p ∨ (M id = none ∧ sectorsB σ (log + 8 * id) 8 = pageB id p.1 p.2 ∧ 1 ≤ p.1 ∧ p.1 ≤ 255 ∧ p.2.length ≤ 500)

def getR (n : Meta) (v : Nat → Leaf) (id : Int) : Leaf × Int := if id < 1 ∨ (n.high : Int) ≤ id then ((0, []), 2) else (v id.toNat, 0)

def thereR (n : Meta) (v : Nat → Leaf) (id : Int) : Leaf × Int := if (getR n v id).2 = 0 ∧ (getR n v id).1.1 = 255 then ((0, []), 8) else getR n v id

/-- The view v is what is seen. -/
structure Sees (n : Meta) (M : Nat → Option Leaf) (σ : Dk) (log : Nat) (v : Nat → Leaf) : Prop where
  seen : ∀ id, 1 ≤ id → id < n.high → Seen M σ log id (v id)
  room : log + 8 * n.high ≤ σ.kept.length

theorem leaf_zero (w : World) : (zeroValue 101).run Tryz.prog w = .ok (.agg #[.int .i64 0, .string ⟨#[]⟩]) w := by kernel_rfl
theorem leaf_agg : IsAgg Tryz.prog 101 := ⟨_, Tryz.underlying101, rfl⟩
theorem leaf_size : (Tryz.prog.info? 101).map (·.size) = some 2 := by kernel_rfl


theorem at_lookup' {P : Program} {ops : Array Oper} {rest : List Oper} {a : Act} {w : World} {Q : Exit → Act → World → Prop} {d : Option Tmp} {ty : TypeId} {pos : String} {af : Array Edge} {g : Option (Nat × Bool)} {t : TypeId} {x y : Operand} {c : Bool} (h : wpList P ops Q (⟨d, .lookup t x y c, ty, pos, af, g⟩ :: rest) a w) : wpList P ops Q (⟨d, .lookup t x y c, ty, pos, af, g⟩ :: rest) a w := h

theorem run_lookup_op {P : Program} {w : World} {o : Oper} {a : Act} {t : TypeId} {x y : Operand} {c : Bool} {m key v : Value} (ho : o.op = .lookup t x y c) (hx : a.eval x = m) (hy : a.eval y = key) (h : (Instr.lookup t m key c).run P w = .ok v w) : (execOp a.eval o).run P w = .ok (.value v) w := by
  unfold execOp
  simp only [ho, hx, hy, Sem.run_bind, Sem.run_pure, Result.andThen_ok, h]

theorem leafR_zero : leafR (.agg #[.int .i64 0, .string ⟨#[]⟩]) = some (leafD (0, []), []) := by simp [leafR, leafL, leafD]

theorem leaf_look {w0 w : World} {ps : List HP} {mb : Nat} {M : Nat → Option Leaf} {ks : List Nat} (H : St w0 w ps) (i : Nat) (h : ps[i]? = some (mapP leafR leafD mb M ks)) (id : Nat) (hid : id < 9223372036854775808) :
    (Instr.lookup 65 (.map (some mb)) (.int .i64 (id : Int)) true).run Tryz.prog w = .ok (.tuple #[leafV ((M id).getD (0, [])), .bool (M id).isSome]) w := by
  obtain ⟨D, h1, h2⟩ := H.map i h
  obtain ⟨v, zs, hr, hv⟩ := h1.look_ok (t := 65) (e := 101) int_key Tryz.underlying65 (leaf_zero w) leafR_zero (key_of id hid)
  rw [h2.has_iff id] at hr
  rw [hr]
  congr 3
  cases hm : M id with
  | some p =>
    rw [(h2.there id p hm).2] at hv
    rw [leafR_eq hv]
    rfl
  | none =>
    have hn : Maps.has D (.int .i64 (id : Int)) = false := by rw [h2.has_iff id, hm]; rfl
    rw [Maps.atKey_of_not_has hn] at hv
    rw [leafR_eq hv]
    rfl

theorem results_cell_at {fn : Func} {p u : Tmp} {ty : TypeId} (h : fn.results = #[.cell p ty, .tmp u]) {P : Program} {w : World} {b : Nat} {cs : List Value} {E : TypeId} {tmps : Array Value} (hp : tmps.getD p undef = .pointer (some ⟨b, 0, none⟩))
    (ha : IsAgg P ty) (hs : (P.info? ty).map (·.size) = some cs.length) (hat : At w b cs E) : (results fn tmps).run P w = .ok (.tuple #[.agg cs.toArray, tmps.getD u undef]) w := by
  have hl := run_loadVar_piece (P := P) (off := 0) (n := cs.length) hat ha hs (by omega)
  rw [List.drop_zero, List.take_length] at hl
  rw [results_cell_tmp h, hp]
  simp [asAddr, hl, Result.andThen]

theorem St.sink4 {w0 w : World} {a p q r s : HP} {ps : List HP} (H : St w0 w (a :: p :: q :: r :: s :: ps)) : St w0 w (p :: q :: r :: s :: a :: ps) := (((H.pull 4 rfl).pull 4 rfl).pull 4 rfl).pull 4 rfl

theorem St.lift4 {w0 w : World} {a p q r s : HP} {ps : List HP} (H : St w0 w (p :: q :: r :: s :: a :: ps)) : St w0 w (a :: p :: q :: r :: s :: ps) := H.pull 4 rfl

theorem leafV_str (k : Nat) (l : List UInt8) : ∃ z : ByteArray, Hid (z = ⟨l.toArray⟩) ∧ leafV (k, l) = .agg #[.int .i64 (k : Int), .string z] := ⟨_, hid rfl, rfl⟩

theorem getR_cases (n : Meta) (v : Nat → Leaf) (id : Int) : getR n v id = ((0, []), 2) ∨ (1 ≤ id ∧ id < n.high ∧ getR n v id = (v id.toNat, 0)) := by
  unfold getR
  split
  · exact .inl rfl
  · exact .inr ⟨by omega, by omega, rfl⟩

theorem one_leaf (k : Int) (z : ByteArray) : ∀ v ∈ [Value.int .i64 k, .string z], v.oneCell' = true := by
  intro v hv
  simp only [List.mem_cons, List.not_mem_nil, or_false] at hv
  rcases hv with rfl | rfl <;> rfl

section
variable {w0 w : World} {ps : List HP} {t x d b log mb : Nat} {m n : Meta} {M : Nat → Option Leaf} {ks : List Nat} {marked spoilt : Bool} {σ : Dk}

set_option maxHeartbeats 4000000 in
theorem tx_get (hh : HalfAt w0) (H : St w0 w (objP t (txCells x n (.map (some mb)) marked spoilt) 67 :: objP x (dbCells d b log m (.pointer (some ⟨t, 0, none⟩)) false) 62 :: diskP d σ :: mapP leafR leafD mb M ks :: ps))
    (hd : σ.down = false) {v : Nat → Leaf} (hv : Sees n M σ log v) (id : Int) (hid' : id < 9223372036854775808) :
    Calls Tryz.prog 59 #[.pointer (some ⟨t, 0, none⟩), .int .i64 id] w fun e w' => e = .returned (.tuple #[leafV (getR n v id).1, .int .i64 (getR n v id).2]) ∧
      St w0 w' (objP t (txCells x n (.map (some mb)) marked spoilt) 67 :: objP x (dbCells d b log m (.pointer (some ⟨t, 0, none⟩)) false) 62 :: diskP d σ :: mapP leafR leafD mb M ks :: ps) := by
  have HH := hid H
  by_cases h1 : id < 1
  · have e : getR n v id = ((0, []), 2) := by rw [getR, if_pos (.inl h1)]
    rw [e]
    clear H e hv
    go_enter Tryz.func59, Tryz.ntmps59
    go_wp2
    (try simp only [Exit.inBlock, Exit.then])
    refine bodyPost_ret (results_cell_at (cs := [.int .i64 0, .string ⟨#[]⟩]) rfl rfl leaf_agg leaf_size (At.new w _ _)) rfl ?_
    exact ⟨rfl, (HH.out.alloc _ _).drop⟩
  have hn1 : decide (id < 1) = false := decide_eq_false h1
  by_cases h2 : (n.high : Int) ≤ id
  · have e : getR n v id = ((0, []), 2) := by rw [getR, if_pos (.inr h2)]
    rw [e]
    have c5 := ((H.alloc [.int .i64 0, .string ⟨#[]⟩] 101).obj 1 rfl).cell 5
    simp only [txCells, List.getElem?_cons_succ, List.getElem?_cons_zero] at c5
    have hn2 : decide ((n.high : Int) ≤ id) = true := decide_eq_true h2
    clear H e hv h1
    go_enter Tryz.func59, Tryz.ntmps59
    go_wp2
    (try simp only [Exit.inBlock, Exit.then])
    refine bodyPost_ret (results_cell_at (cs := [.int .i64 0, .string ⟨#[]⟩]) rfl rfl leaf_agg leaf_size (At.new w _ _)) rfl ?_
    exact ⟨rfl, (HH.out.alloc _ _).drop⟩
  have hn2 : decide ((n.high : Int) ≤ id) = false := decide_eq_false h2
  obtain ⟨i, rfl⟩ : ∃ i : Nat, id = (i : Int) := ⟨id.toNat, by omega⟩
  have hi1 : 1 ≤ i := by omega
  have hi2 : i < n.high := by omega
  have e : getR n v (i : Int) = (v i, 0) := by rw [getR, if_neg (by omega), Int.toNat_natCast]
  rw [e]
  clear e
  have hsee := hv.seen i hi1 hi2
  have hroom := hv.room
  obtain ⟨p, hp⟩ : ∃ p, v i = p := ⟨_, rfl⟩
  rw [hp] at hsee ⊢
  obtain ⟨z, hz⟩ : ∃ z : ByteArray, strV p.2 = .string z := ⟨_, rfl⟩
  have hlv : leafV p = .agg #[.int .i64 (p.1 : Int), .string z] := by rw [leafV, hz]
  rw [hlv]
  have H1 := hid (H.alloc [.int .i64 0, .string ⟨#[]⟩] 101)
  have c5 := (H1.out.obj 1 rfl).cell 5
  have c8 := (H1.out.obj 1 rfl).cell 8
  have c0 := (H1.out.obj 1 rfl).cell 0
  simp only [txCells, List.getElem?_cons_succ, List.getElem?_cons_zero] at c0 c5 c8
  clear H HH hv hp h1
  rcases hsee with hm | ⟨hm, himg, hk1, hk2, hl5⟩
  · have hlk := leaf_look H1.out 4 rfl i (by omega)
    rw [hm] at hlk
    simp only [Option.getD_some, Option.isSome_some] at hlk
    rw [hlv] at hlk
    go_enter Tryz.func59, Tryz.ntmps59
    go_upto_region 1 with fail
    have hb0 := (H1.out.obj 0 rfl).frozen 0
    have hb1 := (H1.out.obj 0 rfl).frozen 1
    have hbl := (H1.out.obj 0 rfl).lt
    generalize (w.alloc (.cells #[.int .i64 0, .string ⟨#[]⟩] 101)) = w1 at *
    generalize w.heap.size = rb at *
    go_upto_region 4 with ((with_reducible refine at_lookup' ?_); refine wpL_val' rfl _ (run_lookup_op rfl rfl rfl hlk) ?_)
    have H2 := hid (H1.out.alloc [.int .i64 (p.1 : Int), .string z] 101)
    go_wp2_with ((with_reducible refine at_store ?_); refine wpL_store rfl 101 (.tmp 4) (.tmp 34) rfl rb 0 2 rfl [.int .i64 (p.1 : Int), .string z] rfl _ _ (H2.out.obj 1 rfl) leaf_size rfl (by simp) (one_leaf _ _) ?_; intro w3 A3 P3 S3; have H3 := hid (H2.out.put 1 rfl A3 P3))
    (try simp only [Exit.inBlock, Exit.then])
    refine bodyPost_ret (results_cell_at (cs := [.int .i64 (p.1 : Int), .string z]) rfl rfl leaf_agg leaf_size (H3.out.obj 1 rfl)) rfl ?_
    exact ⟨rfl, H3.out.drop.drop⟩
  · have hlk := leaf_look H1.out 4 rfl i (by omega)
    rw [hm] at hlk
    simp only [Option.getD_none, Option.isSome_none] at hlk
    rw [show leafV (0, []) = .agg #[.int .i64 0, .string ⟨#[]⟩] from rfl] at hlk
    obtain ⟨zs, hzs⟩ : ∃ zs : ByteArray, strV (sectorsB σ (log + 8 * i) 8) = .string zs := ⟨_, rfl⟩
    have hzl : zs.data.toList = pageB i p.1 p.2 := by
      rw [← himg]
      have := hzs
      rw [strV] at this
      injection this with this
      rw [← this]
    go_enter Tryz.func59, Tryz.ntmps59
    go_upto_region 1 with fail
    have hb0 := (H1.out.obj 0 rfl).frozen 0
    have hb1 := (H1.out.obj 0 rfl).frozen 1
    have hbl := (H1.out.obj 0 rfl).lt
    generalize (w.alloc (.cells #[.int .i64 0, .string ⟨#[]⟩] 101)) = w1 at *
    generalize w.heap.size = rb at *
    go_upto_region 6 with ((with_reducible refine at_lookup' ?_); refine wpL_val' rfl _ (run_lookup_op rfl rfl rfl hlk) ?_)
    have H2 := hid ((H1.out.alloc [.int .i64 0, .string ⟨#[]⟩] 101).drop.pull 3 rfl |>.pull 3 rfl)
    clear c0 c5 c8 hlk H1 hb0 hb1 hbl
    have c0 := (H2.out.obj 3 rfl).cell 0
    simp only [txCells, List.getElem?_cons_zero] at c0
    generalize (w1.alloc _) = w2 at *
    have him := pd_image H2.out i hd (by omega)
    rw [hzs] at him
    go_upto_region 9 with (go_at_call 46; refine him.mono ?_; rintro e w3 ⟨rfl, H3, -⟩)
    have H3 := hid H3
    have hop := pg_open w3 (hh.pres H3.out.pres) i p.1 p.2 zs hzl (by have := (sd_ok (H3.out.pull 1 rfl)).most; omega) hk1 hk2 hl5
    rw [hz] at hop
    clear him H2 c0
    go_upto_region 10 with (go_at_call 48; refine hop.mono ?_; rintro e w4 ⟨rfl, P4⟩; have H4 := hid (H3.out.quiet P4))
    clear hop H3
    go_wp2_with ((with_reducible refine at_store ?_); refine wpL_store rfl 101 (.tmp 4) (.tmp 57) rfl rb 0 2 rfl [.int .i64 (p.1 : Int), .string z] rfl _ _ (H4.out.obj 2 rfl) leaf_size rfl (by simp) (one_leaf _ _) ?_; intro w5 A5 P5 S5; have H5 := hid (H4.out.put 2 rfl A5 P5))
    (try simp only [Exit.inBlock, Exit.then])
    refine bodyPost_ret (results_cell_at (cs := [.int .i64 (p.1 : Int), .string z]) rfl rfl leaf_agg leaf_size (H5.out.obj 2 rfl)) rfl ?_
    exact ⟨rfl, (H5.out.pull 2 rfl).drop.pull 2 rfl⟩

set_option maxHeartbeats 4000000 in
theorem tx_there (hh : HalfAt w0) (H : St w0 w (objP t (txCells x n (.map (some mb)) marked spoilt) 67 :: objP x (dbCells d b log m (.pointer (some ⟨t, 0, none⟩)) false) 62 :: diskP d σ :: mapP leafR leafD mb M ks :: ps))
    (hd : σ.down = false) {v : Nat → Leaf} (hv : Sees n M σ log v) (id : Int) (hid' : id < 9223372036854775808) :
    Calls Tryz.prog 52 #[.pointer (some ⟨t, 0, none⟩), .int .i64 id] w fun e w' => e = .returned (.tuple #[leafV (thereR n v id).1, .int .i64 (thereR n v id).2]) ∧
      St w0 w' (objP t (txCells x n (.map (some mb)) marked spoilt) 67 :: objP x (dbCells d b log m (.pointer (some ⟨t, 0, none⟩)) false) 62 :: diskP d σ :: mapP leafR leafD mb M ks :: ps) := by
  have H1 := hid (H.alloc [.int .i64 0, .string ⟨#[]⟩] 101).sink4
  have hu := fun W (hW : W = w.alloc (.cells #[.int .i64 0, .string ⟨#[]⟩] 101)) => hW ▸ tx_up H1.out hd
  have hg := tx_get hh H1.out hd hv id hid'
  have hgc := getR_cases n v id
  obtain ⟨T, hT⟩ : ∃ T, Hid (thereR n v id = T) := ⟨_, hid rfl⟩
  have hT2 := hT.out
  unfold thereR at hT2
  rw [hT.out]
  clear hT
  generalize getR n v id = G at *
  obtain ⟨⟨k, l⟩, ge⟩ := G
  obtain ⟨⟨k2, l2⟩, te⟩ := T
  simp only [] at hT2 hg
  obtain ⟨z, hz, ez⟩ := leafV_str k l
  obtain ⟨z2, hz2, ez2⟩ := leafV_str k2 l2
  rw [ez] at hg
  rw [ez2]
  have hge : ge = 0 ∨ ge = 2 := by
    rcases hgc with h | ⟨-, -, h⟩
    · injection h with _ h; exact .inr h
    · injection h with _ h; exact .inl h
  have HN := hid (And.intro hT2 (And.intro hz hz2))
  clear hgc H hv hT2 ez ez2 hz hz2
  rcases hge with rfl | rfl
  · by_cases hk : k = 255
    · subst hk
      go_enter Tryz.func52, Tryz.ntmps52
      go_upto_region 4 with (go_at_call 53; refine (hu _ rfl).mono ?_; rintro e w' ⟨rfl, rfl⟩)
      generalize (w.alloc (.cells #[.int .i64 0, .string ⟨#[]⟩] 101)) = w1 at *
      generalize w.heap.size = rb at *
      go_upto_region 5 with (go_at_call 59; refine hg.mono ?_; rintro e w2 ⟨rfl, H2⟩)
      have H3 := hid (H2.alloc [.int .i64 ((255 : Nat) : Int), .string z] 101)
      have c0 := (H3.out.obj 0 rfl).cell 0
      simp only [List.getElem?_cons_zero] at c0
      clear H2 H1 hu hg
      go_wp2_with ((with_reducible refine at_store ?_); refine wpL_store rfl 101 (.tmp 4) (.tmp 28) rfl rb 0 2 rfl [.int .i64 0, .string ⟨#[]⟩] rfl _ _ (H3.out.obj 5 rfl) leaf_size rfl (by simp) (one_leaf _ _) ?_; intro w4 A4 P4 S4; have H4 := hid (H3.out.put 5 rfl A4 P4))
      (try simp only [Exit.inBlock, Exit.then])
      refine bodyPost_ret (results_cell_at (cs := [.int .i64 0, .string ⟨#[]⟩]) rfl rfl leaf_agg leaf_size (H4.out.obj 5 rfl)) rfl ?_
      obtain ⟨e0, -, h2⟩ := HN.out
      rw [if_pos ⟨trivial, trivial⟩] at e0
      cases e0
      rw [h2.out]
      exact ⟨rfl, (H4.out.drop.pull 4 rfl).drop⟩
    · have hk' : ((k : Int) == 255) = false := by rw [beq_eq_false_iff_ne]; omega
      go_enter Tryz.func52, Tryz.ntmps52
      go_upto_region 4 with (go_at_call 53; refine (hu _ rfl).mono ?_; rintro e w' ⟨rfl, rfl⟩)
      generalize (w.alloc (.cells #[.int .i64 0, .string ⟨#[]⟩] 101)) = w1 at *
      generalize w.heap.size = rb at *
      go_upto_region 5 with (go_at_call 59; refine hg.mono ?_; rintro e w2 ⟨rfl, H2⟩)
      have H3 := hid (H2.alloc [.int .i64 (k : Int), .string z] 101)
      have c0 := (H3.out.obj 0 rfl).cell 0
      simp only [List.getElem?_cons_zero] at c0
      clear H2 H1 hu hg
      go_wp2_with ((with_reducible refine at_store ?_); refine wpL_store rfl 101 (.tmp 4) (.tmp 29) rfl rb 0 2 rfl [.int .i64 (k : Int), .string z] rfl _ _ (H3.out.obj 5 rfl) leaf_size rfl (by simp) (one_leaf _ _) ?_; intro w4 A4 P4 S4; have H4 := hid (H3.out.put 5 rfl A4 P4))
      (try simp only [Exit.inBlock, Exit.then])
      refine bodyPost_ret (results_cell_at (cs := [.int .i64 (k : Int), .string z]) rfl rfl leaf_agg leaf_size (H4.out.obj 5 rfl)) rfl ?_
      obtain ⟨e0, h1, h2⟩ := HN.out
      rw [if_neg (by simp [hk])] at e0
      cases e0
      rw [h2.out, ← h1.out]
      exact ⟨rfl, (H4.out.drop.pull 4 rfl).drop⟩
  · go_enter Tryz.func52, Tryz.ntmps52
    go_upto_region 4 with (go_at_call 53; refine (hu _ rfl).mono ?_; rintro e w' ⟨rfl, rfl⟩)
    generalize (w.alloc (.cells #[.int .i64 0, .string ⟨#[]⟩] 101)) = w1 at *
    generalize w.heap.size = rb at *
    go_upto_region 5 with (go_at_call 59; refine hg.mono ?_; rintro e w2 ⟨rfl, H2⟩)
    have H3 := hid (H2.alloc [.int .i64 (k : Int), .string z] 101)
    have c0 := (H3.out.obj 0 rfl).cell 0
    simp only [List.getElem?_cons_zero] at c0
    clear H2 H1 hu hg
    go_wp2_with ((with_reducible refine at_store ?_); refine wpL_store rfl 101 (.tmp 4) (.tmp 29) rfl rb 0 2 rfl [.int .i64 (k : Int), .string z] rfl _ _ (H3.out.obj 5 rfl) leaf_size rfl (by simp) (one_leaf _ _) ?_; intro w4 A4 P4 S4; have H4 := hid (H3.out.put 5 rfl A4 P4))
    (try simp only [Exit.inBlock, Exit.then])
    refine bodyPost_ret (results_cell_at (cs := [.int .i64 (k : Int), .string z]) rfl rfl leaf_agg leaf_size (H4.out.obj 5 rfl)) rfl ?_
    obtain ⟨e0, h1, h2⟩ := HN.out
    rw [if_neg (by simp)] at e0
    cases e0
    rw [h2.out, ← h1.out]
    exact ⟨rfl, (H4.out.drop.pull 4 rfl).drop⟩
end

end Go.Proofs.YtnffnpndnaofhaaGreatDoor

/- A transaction (layer 10): Read and Write; conditions stand in the theorems. -/
namespace Go.Proofs.YtnffnpndnaofhaaGreatDoor
open Go.RowKit
set_option maxRecDepth 100000

def readR (n : Meta) (v : Nat → Leaf) (id : Int) : Leaf × Int := if (thereR n v id).2 = 0 then ((thereR n v id).1, 0) else ((0, []), (thereR n v id).2)

def writeR (n : Meta) (v : Nat → Leaf) (id kind : Int) (len : Nat) : Int :=
  if (thereR n v id).2 = 0 then (if kind < 1 ∨ 255 ≤ kind then 2 else if 500 < len then 3 else 0) else (thereR n v id).2

theorem thereR_nat {n : Meta} {v : Nat → Leaf} {id : Int} (h : (thereR n v id).2 = 0) : 1 ≤ id ∧ id < n.high ∧ (v id.toNat).1 ≠ 255 ∧ thereR n v id = (v id.toNat, 0) := by
  unfold thereR at h ⊢
  rcases getR_cases n v id with e | ⟨h1, h2, e⟩
  · rw [e] at h
    simp at h
  · rw [e] at h ⊢
    simp only [true_and] at h ⊢
    by_cases h3 : (v id.toNat).1 = 255
    · rw [if_pos h3] at h
      simp at h
    · rw [if_neg h3]
      exact ⟨h1, h2, h3, rfl⟩

section
variable {w0 w : World} {ps : List HP} {t x d b log mb : Nat} {m n : Meta} {M : Nat → Option Leaf} {ks : List Nat} {marked spoilt : Bool} {σ : Dk}

set_option maxHeartbeats 4000000 in
theorem tx_read (hh : HalfAt w0) (H : St w0 w (objP t (txCells x n (.map (some mb)) marked spoilt) 67 :: objP x (dbCells d b log m (.pointer (some ⟨t, 0, none⟩)) false) 62 :: diskP d σ :: mapP leafR leafD mb M ks :: ps))
    (hd : σ.down = false) {v : Nat → Leaf} (hv : Sees n M σ log v) (pid : Int) (hpid : pid < 9223372036854775808) :
    Calls Tryz.prog 18 #[.pointer (some ⟨t, 0, none⟩), .int .i64 pid] w fun e w' => e = .returned (.tuple #[.int .i64 ((readR n v pid).1.1 : Int), strV (readR n v pid).1.2, .int .i64 (readR n v pid).2]) ∧
      St w0 w' (objP t (txCells x n (.map (some mb)) marked spoilt) 67 :: objP x (dbCells d b log m (.pointer (some ⟨t, 0, none⟩)) false) 62 :: diskP d σ :: mapP leafR leafD mb M ks :: ps) := by
  have ht := tx_there hh H hd hv pid hpid
  unfold readR
  generalize thereR n v pid = T at *
  obtain ⟨⟨k, l⟩, te⟩ := T
  simp only [] at ht ⊢
  obtain ⟨z, hz, ez⟩ := leafV_str k l
  rw [ez] at ht
  clear H hv ez
  by_cases h0 : te = 0
  · subst h0
    rw [if_pos rfl]
    have e2 : strV l = .string z := by rw [hz.out]; rfl
    simp only [e2]
    clear e2 hz
    go_enter Tryz.func18, Tryz.ntmps18
    go_upto_region 2 with (go_at_call 52; refine ht.mono ?_; rintro e w2 ⟨rfl, H2⟩)
    have H3 := hid (H2.alloc [.int .i64 (k : Int), .string z] 101)
    generalize (w2.alloc _) = w3 at *
    generalize w2.heap.size = q at *
    clear H2 ht
    go_upto_region 4 with fail
    refine wp_stages (by kernel_rfl) ?_
    have H4 := hid H3.out.drew
    clear H3
    generalize w3.drew = w4 at *
    have c0 := (H4.out.obj 0 rfl).cell 0
    have c1 := (H4.out.obj 0 rfl).cell 1
    simp only [List.getElem?_cons_succ, List.getElem?_cons_zero] at c0 c1
    have S0 : w4.cell? ⟨q, 0, none⟩ = some (.int .i64 (k : Int)) ∧ w4.cell? ⟨q, 1, none⟩ = some (.string z) := ⟨c0, c1⟩
    refine wp_stage (fun W => W.cell? ⟨q, 0, none⟩ = some (.int .i64 (k : Int)) ∧ W.cell? ⟨q, 1, none⟩ = some (.string z)) [(0, true), (1, true), (2, true), (3, true), (4, false)] 2 rfl (by kernel_rfl) (by intro c a dd v w h; cases dd <;> exact h) (S0) ?_
    iterate 4 (refine wpOrd_read (v := _) rfl rfl (by intro w' hS; obtain ⟨s0, s1⟩ := id hS; clear hS; go_simp; rfl) ?_; (try simp only [Act.put, List.setIfInBounds_toArray, List.set_cons_succ, List.set_cons_zero, List.getElem_toArray, List.getElem_cons_succ, List.getElem_cons_zero]))
    refine wpOrd_do rfl rfl (fun K hK => ?_)
    go_simp
    refine hK _ _ ⟨S0, ?_⟩
    clear hK K
    (try simp only [Act.put, List.setIfInBounds_toArray, List.set_cons_succ, List.set_cons_zero, List.getElem_toArray, List.getElem_cons_succ, List.getElem_cons_zero])
    refine wpOrd_end ?_
    refine wp_stages_end 5 (by rfl) (by kernel_rfl) ?_
    simp only [List.drop_succ_cons, List.drop_zero]
    go_wp2
    go_ret3
    exact ⟨rfl, H4.out.drop⟩
  · rw [if_neg h0]
    have hb0 : (te != 0) = true := by simpa using h0
    simp only [show strV [] = .string ⟨#[]⟩ from rfl, Int.natCast_zero]
    clear h0 hz
    go_enter Tryz.func18, Tryz.ntmps18
    go_upto_region 2 with (go_at_call 52; refine ht.mono ?_; rintro e w2 ⟨rfl, H2⟩)
    have H3 := hid (H2.alloc [.int .i64 (k : Int), .string z] 101)
    clear H2 ht
    go_wp2
    go_ret3
    exact ⟨rfl, H3.out.drop⟩

set_option maxHeartbeats 4000000 in
theorem tx_write (hh : HalfAt w0) (H : St w0 w (objP t (txCells x n (.map (some mb)) marked spoilt) 67 :: objP x (dbCells d b log m (.pointer (some ⟨t, 0, none⟩)) false) 62 :: diskP d σ :: mapP leafR leafD mb M ks :: ps))
    (hd : σ.down = false) {v : Nat → Leaf} (hv : Sees n M σ log v) (pid kind : Int) (hpid : pid < 9223372036854775808) (s : ByteArray) (hks : ks.length < 1000000) :
    Calls Tryz.prog 22 #[.pointer (some ⟨t, 0, none⟩), .int .i64 pid, .int .i64 kind, .string s] w fun e w' => e = .returned (.int .i64 (writeR n v pid kind s.size)) ∧
      St w0 w' (objP t (txCells x n (.map (some mb)) marked spoilt) 67 :: objP x (dbCells d b log m (.pointer (some ⟨t, 0, none⟩)) false) 62 :: diskP d σ ::
        (if writeR n v pid kind s.size = 0 then mapP leafR leafD mb (putM M pid.toNat (kind.toNat, s.data.toList)) (putK ks pid.toNat) else mapP leafR leafD mb M ks) :: ps) := by
  have ht := tx_there hh H hd hv pid hpid
  have hn := fun h => thereR_nat (n := n) (v := v) (id := pid) h
  obtain ⟨F, hF⟩ : ∃ F, Hid (writeR n v pid kind s.size = F) := ⟨_, hid rfl⟩
  rw [hF.out]
  have hF2 := hF.out
  unfold writeR at hF2
  generalize thereR n v pid = T at *
  obtain ⟨⟨k, l⟩, te⟩ := T
  simp only [] at ht hF2 hn
  obtain ⟨z, hz, ez⟩ := leafV_str k l
  rw [ez] at ht
  clear H hv ez hF hz
  by_cases h0 : te = 0
  · subst h0
    rw [if_pos rfl] at hF2
    by_cases hk : kind < 1 ∨ 255 ≤ kind
    · rw [if_pos hk] at hF2
      subst hF2
      rcases hk with hk | hk
      · go_enter Tryz.func22, Tryz.ntmps22
        go_upto_region 2 with (go_at_call 52; refine ht.mono ?_; rintro e w2 ⟨rfl, H2⟩)
        have H3 := hid (H2.alloc [.int .i64 (k : Int), .string z] 101)
        clear H2 ht
        go_wp2
        go_ret
        exact ⟨rfl, H3.out.drop⟩
      · have hk1 : decide (kind < 1) = false := decide_eq_false (by omega)
        go_enter Tryz.func22, Tryz.ntmps22
        go_upto_region 2 with (go_at_call 52; refine ht.mono ?_; rintro e w2 ⟨rfl, H2⟩)
        have H3 := hid (H2.alloc [.int .i64 (k : Int), .string z] 101)
        clear H2 ht
        go_wp2
        go_ret
        exact ⟨rfl, H3.out.drop⟩
    · rw [if_neg hk] at hF2
      have hk1 : decide (kind < 1) = false := decide_eq_false (by omega)
      have hk2 : decide (255 ≤ kind) = false := decide_eq_false (by omega)
      by_cases hl : 500 < s.size
      · rw [if_pos hl] at hF2
        subst hF2
        have hl' : (500 : Int) < (s.size : Int) := by omega
        clear hk
        go_enter Tryz.func22, Tryz.ntmps22
        go_upto_region 2 with (go_at_call 52; refine ht.mono ?_; rintro e w2 ⟨rfl, H2⟩)
        have H3 := hid (H2.alloc [.int .i64 (k : Int), .string z] 101)
        clear H2 ht
        go_wp2
        go_ret
        exact ⟨rfl, H3.out.drop⟩
      · rw [if_neg hl] at hF2
        subst hF2
        have hl' : decide ((500 : Int) < (s.size : Int)) = false := decide_eq_false (by omega)
        obtain ⟨kd, hkd⟩ : ∃ kd : Nat, kind = (kd : Int) := ⟨kind.toNat, by omega⟩
        have hnn := hn rfl
        obtain ⟨q, hq⟩ : ∃ q : Nat, pid = (q : Int) := ⟨pid.toNat, by omega⟩
        subst hkd
        subst hq
        simp only [Int.toNat_natCast, if_true]
        have hkey := key_of q (by omega)
        obtain ⟨M2, hM2⟩ : ∃ M2, Hid (putM M q (kd, s.data.toList) = M2) := ⟨_, hid rfl⟩
        rw [hM2.out]
        clear hk hl hnn hn
        go_enter Tryz.func22, Tryz.ntmps22
        go_upto_region 2 with (go_at_call 52; refine ht.mono ?_; rintro e w2 ⟨rfl, H2⟩)
        have H3 := hid (H2.alloc [.int .i64 (k : Int), .string z] 101).drop
        clear H2 ht
        generalize (w2.alloc _) = w3 at *
        have c8 := (H3.out.obj 0 rfl).cell 8
        simp only [txCells, List.getElem?_cons_succ, List.getElem?_cons_zero] at c8
        obtain ⟨D, hown, hmi⟩ := H3.out.map 3 rfl
        have HM := hid hmi
        have HO := hid hown
        have HK := hid hkey
        clear hmi hown hkey
        go_wp2_with (at_mapUpdate; refine wpList_mapUpdate_own _ rfl _ _ _ 65 rfl 3 101 int_key Tryz.underlying65 leafR mb ks.length D rfl HO.out (by unfold maxLen; omega) _ _ _ rfl rfl HK.out (leafD (kd, s.data.toList)) [] (leafR_mk (kd, s.data.toList)) ?_; intro w4 hown4 hg4; have H4 := hid (H3.out.mapPut 3 rfl HM.out hown4 hg4))
        go_ret
        refine ⟨rfl, ?_⟩
        rw [← hM2.out]
        exact H4.out
  · rw [if_neg h0] at hF2
    subst hF2
    have hb0 : (te != 0) = true := by simpa using h0
    rw [if_neg h0]
    clear h0
    go_enter Tryz.func22, Tryz.ntmps22
    go_upto_region 2 with (go_at_call 52; refine ht.mono ?_; rintro e w2 ⟨rfl, H2⟩)
    have H3 := hid (H2.alloc [.int .i64 (k : Int), .string z] 101)
    clear H2 ht
    go_wp2
    go_ret
    exact ⟨rfl, H3.out.drop⟩

end

end Go.Proofs.YtnffnpndnaofhaaGreatDoor

/- A transaction (layer 10): Alloc; conditions stand in the theorems. -/
namespace Go.Proofs.YtnffnpndnaofhaaGreatDoor
open Go.RowKit
set_option maxRecDepth 100000

def Meta.pop (n : Meta) (nxt : Nat) : Meta := { n with free := nxt, count := n.count - 1 }
def Meta.more (n : Meta) : Meta := { n with high := n.high + 1 }

theorem St.setT {w0 w : World} {ps : List HP} {b : Nat} {cs : List Value} {E : TypeId} (H : St w0 w (objP b cs E :: ps)) (j : Nat) (v : Value) : St w0 (w.setCell ⟨b, j, none⟩ v) (objP b (cs.set j v) E :: ps) := H.set 0 rfl j v

section
variable {w0 w : World} {ps : List HP} {t x d b log mb : Nat} {m n : Meta} {M : Nat → Option Leaf} {ks : List Nat} {marked spoilt : Bool} {σ : Dk}

set_option maxHeartbeats 4000000 in
theorem tx_alloc_full (H : St w0 w (objP t (txCells x n (.map (some mb)) marked spoilt) 67 :: objP x (dbCells d b log m (.pointer (some ⟨t, 0, none⟩)) false) 62 :: diskP d σ :: mapP leafR leafD mb M ks :: ps))
    (hd : σ.down = false) (hf : n.free = 0) (hl : log ≤ σ.kept.length) (hc : n.high = (σ.kept.length - log) / 8) :
    Calls Tryz.prog 21 #[.pointer (some ⟨t, 0, none⟩)] w fun e w' => e = .returned (.tuple #[.int .i64 0, .int .i64 7]) ∧
      St w0 w' (objP t (txCells x n (.map (some mb)) marked spoilt) 67 :: objP x (dbCells d b log m (.pointer (some ⟨t, 0, none⟩)) false) 62 :: diskP d σ :: mapP leafR leafD mb M ks :: ps) := by
  have hu := fun W (hW : W = w) => hW ▸ tx_up H hd
  have hcn := fun W (h : St w0 W _) => pd_count (w := W) (H := (show St w0 W (objP x (dbCells d b log m (.pointer (some ⟨t, 0, none⟩)) false) 62 :: diskP d σ :: objP t (txCells x n (.map (some mb)) marked spoilt) 67 :: mapP leafR leafD mb M ks :: ps) from h)) hl
  rw [← hc] at hcn
  have c0 := (H.obj 0 rfl).cell 0
  have c5 := (H.obj 0 rfl).cell 5
  have c6 := (H.obj 0 rfl).cell 6
  simp only [txCells, List.getElem?_cons_succ, List.getElem?_cons_zero, hf] at c0 c5 c6
  have HH := hid H
  clear H
  go_enter Tryz.func21, Tryz.ntmps21
  go_upto_region 13 with (go_at_call 53; refine (hu _ rfl).mono ?_; rintro e w' ⟨rfl, rfl⟩)
  refine wp_stages (by kernel_rfl) ?_
  have HD := hid HH.out.drew
  have S0 : w.drew.cell? ⟨t, 0, none⟩ = some (.pointer (some ⟨x, 0, none⟩)) ∧ w.drew.cell? ⟨t, 5, none⟩ = some (.int .i64 (n.high : Int)) := ⟨c0, c5⟩
  clear hu HH c0 c5 c6
  generalize w.drew = wd at *
  refine wp_stage (fun W => W.cell? ⟨t, 0, none⟩ = some (.pointer (some ⟨x, 0, none⟩)) ∧ W.cell? ⟨t, 5, none⟩ = some (.int .i64 (n.high : Int))) [(0, true), (1, true), (2, true), (3, true), (4, true), (5, true), (6, true), (7, true), (8, true), (9, false)] 2 rfl (by kernel_rfl) (by intro c a dd v w h; cases dd <;> exact h) (S0) ?_
  iterate 9 (refine wpOrd_read (v := _) rfl rfl (by intro w' hS; obtain ⟨s1, s2⟩ := id hS; clear hS; go_simp; rfl) ?_; (try simp only [Act.put, List.setIfInBounds_toArray, List.set_cons_succ, List.set_cons_zero, List.getElem_toArray, List.getElem_cons_succ, List.getElem_cons_zero]))
  refine wpOrd_do rfl rfl (fun K hK => ?_)
  go_simp
  refine (hcn _ (HD.out.pull 2 rfl |>.pull 2 rfl)).mono ?_
  rintro e w2 ⟨rfl, P2⟩
  have H2 := hid (HD.out.quiet P2)
  refine hK _ _ ⟨⟨P2.cell S0.1 (by simp), P2.cell S0.2 (by simp)⟩, ?_⟩
  clear hK K
  (try simp only [Act.put, List.setIfInBounds_toArray, List.set_cons_succ, List.set_cons_zero, List.getElem_toArray, List.getElem_cons_succ, List.getElem_cons_zero])
  refine wpOrd_end ?_
  refine wp_stages_end 10 (by rfl) (by kernel_rfl) ?_
  simp only [List.drop_succ_cons, List.drop_zero]
  go_wp2
  go_ret2
  exact ⟨rfl, H2.out⟩

set_option maxHeartbeats 4000000 in
theorem tx_alloc_new (H : St w0 w (objP t (txCells x n (.map (some mb)) marked spoilt) 67 :: objP x (dbCells d b log m (.pointer (some ⟨t, 0, none⟩)) false) 62 :: diskP d σ :: mapP leafR leafD mb M ks :: ps))
    (hd : σ.down = false) (hf : n.free = 0) (hl : log ≤ σ.kept.length) (hc : n.high ≠ (σ.kept.length - log) / 8) (hh : n.high < 2147483648) (hks : ks.length < 1000000) :
    Calls Tryz.prog 21 #[.pointer (some ⟨t, 0, none⟩)] w fun e w' => e = .returned (.tuple #[.int .i64 (n.high : Int), .int .i64 0]) ∧
      St w0 w' (objP t (txCells x n.more (.map (some mb)) true spoilt) 67 :: objP x (dbCells d b log m (.pointer (some ⟨t, 0, none⟩)) false) 62 :: diskP d σ :: mapP leafR leafD mb (putM M n.high (1, [])) (putK ks n.high) :: ps) := by
  have hu := fun W (hW : W = w) => hW ▸ tx_up H hd
  have hcn := fun W (h : St w0 W _) => pd_count (w := W) (H := (show St w0 W (objP x (dbCells d b log m (.pointer (some ⟨t, 0, none⟩)) false) 62 :: diskP d σ :: objP t (txCells x n (.map (some mb)) marked spoilt) 67 :: mapP leafR leafD mb M ks :: ps) from h)) hl
  obtain ⟨C, hC⟩ : ∃ C, Hid ((σ.kept.length - log) / 8 = C) := ⟨_, hid rfl⟩
  rw [hC.out] at hcn hc
  have c0 := (H.obj 0 rfl).cell 0
  have c5 := (H.obj 0 rfl).cell 5
  have c6 := (H.obj 0 rfl).cell 6
  simp only [txCells, List.getElem?_cons_succ, List.getElem?_cons_zero, hf] at c0 c5 c6
  have hkey := hid (key_of n.high (by omega))
  obtain ⟨M2, hM2⟩ : ∃ M2, Hid (putM M n.high (1, []) = M2) := ⟨_, hid rfl⟩
  rw [hM2.out]
  have HH := hid H
  have hne : ((n.high : Int) == (C : Int)) = false := by rw [beq_eq_false_iff_ne]; omega
  have hhi : (n.high : Int) < 2147483648 := by omega
  have hw1 : IntKind.i64.wrap ((n.high : Int) + 1) = (n.high : Int) + 1 := by rw [IntKind.wrap_i64]; omega
  obtain ⟨h, hhd⟩ : ∃ h, Hid (n.high = h) := ⟨_, hid rfl⟩
  rw [hhd.out] at c5 hne hhi hw1 hkey
  rw [hhd.out]
  clear H hf hl hc hh
  go_enter Tryz.func21, Tryz.ntmps21
  go_upto_region 13 with (go_at_call 53; refine (hu _ rfl).mono ?_; rintro e w' ⟨rfl, rfl⟩)
  refine wp_stages (by kernel_rfl) ?_
  have HD := hid HH.out.drew
  have S0 : w.drew.cell? ⟨t, 0, none⟩ = some (.pointer (some ⟨x, 0, none⟩)) ∧ w.drew.cell? ⟨t, 5, none⟩ = some (.int .i64 (h : Int)) := ⟨c0, c5⟩
  clear hu HH c0 c5 c6
  generalize w.drew = wd at *
  refine wp_stage (fun W => W.cell? ⟨t, 0, none⟩ = some (.pointer (some ⟨x, 0, none⟩)) ∧ W.cell? ⟨t, 5, none⟩ = some (.int .i64 (h : Int))) [(0, true), (1, true), (2, true), (3, true), (4, true), (5, true), (6, true), (7, true), (8, true), (9, false)] 2 rfl (by kernel_rfl) (by intro c a dd v w h; cases dd <;> exact h) (S0) ?_
  iterate 9 (refine wpOrd_read (v := _) rfl rfl (by intro w' hS; obtain ⟨s1, s2⟩ := id hS; clear hS; go_simp; rfl) ?_; (try simp only [Act.put, List.setIfInBounds_toArray, List.set_cons_succ, List.set_cons_zero, List.getElem_toArray, List.getElem_cons_succ, List.getElem_cons_zero]))
  refine wpOrd_do rfl rfl (fun K hK => ?_)
  go_simp
  refine (hcn _ (HD.out.pull 2 rfl |>.pull 2 rfl)).mono ?_
  rintro e w2 ⟨rfl, P2⟩
  have H2 := hid (HD.out.quiet P2)
  refine hK _ _ ⟨⟨P2.cell S0.1 (by simp), P2.cell S0.2 (by simp)⟩, ?_⟩
  clear hK K
  (try simp only [Act.put, List.setIfInBounds_toArray, List.set_cons_succ, List.set_cons_zero, List.getElem_toArray, List.getElem_cons_succ, List.getElem_cons_zero])
  refine wpOrd_end ?_
  refine wp_stages_end 10 (by rfl) (by kernel_rfl) ?_
  simp only [List.drop_succ_cons, List.drop_zero]
  have c5 := (H2.out.obj 0 rfl).cell 5
  have c8 := (H2.out.obj 0 rfl).cell 8
  have c9 := (H2.out.obj 0 rfl).cell 9
  have f5 := (H2.out.obj 0 rfl).frozen 5
  have f9 := (H2.out.obj 0 rfl).frozen 9
  have hlt := (H2.out.obj 0 rfl).lt
  simp only [txCells, List.getElem?_cons_succ, List.getElem?_cons_zero] at c5 c8 c9
  rw [hhd.out] at c5
  clear S0 HD P2 hcn
  go_upto_region 16 with fail
  have H3 := hid (show St w0 ((w2.setCell ⟨t, 5, none⟩ (.int .i64 ((h : Int) + 1))).setCell ⟨t, 9, none⟩ (.bool true)) (objP t (txCells x n.more (.map (some mb)) true spoilt) 67 :: objP x (dbCells d b log m (.pointer (some ⟨t, 0, none⟩)) false) 62 :: diskP d σ :: mapP leafR leafD mb M ks :: ps) by
    have h3 := (H2.out.setT 5 (.int .i64 ((h : Int) + 1))).setT 9 (.bool true)
    have e : ((txCells x n (.map (some mb)) marked spoilt).set 5 (.int .i64 ((h : Int) + 1))).set 9 (.bool true) = txCells x n.more (.map (some mb)) true spoilt := by
      simp [txCells, Meta.more, hhd.out]
    rw [← e]
    exact h3)
  clear H2 c5 c8 c9 f5 f9 hlt
  generalize ((w2.setCell ⟨t, 5, none⟩ (.int .i64 ((h : Int) + 1))).setCell ⟨t, 9, none⟩ (.bool true)) = w3 at *
  have c8 := (H3.out.obj 0 rfl).cell 8
  simp only [txCells, List.getElem?_cons_succ, List.getElem?_cons_zero] at c8
  obtain ⟨D, hown, hmi⟩ := H3.out.map 3 rfl
  have HM := hid hmi
  have HO := hid hown
  clear hmi hown
  go_wp2_with (at_mapUpdate; refine wpList_mapUpdate_own _ rfl _ _ _ 65 rfl 3 101 int_key Tryz.underlying65 leafR mb ks.length D rfl HO.out (by unfold maxLen; omega) _ _ _ rfl rfl hkey.out (leafD (1, [])) [] (leafR_mk (1, [])) ?_; intro w4 hown4 hg4; have H4 := hid (H3.out.mapPut 3 rfl HM.out hown4 hg4))
  go_ret2
  refine ⟨rfl, ?_⟩
  rw [← hM2.out, hhd.out]
  exact H4.out

set_option maxHeartbeats 4000000 in
theorem tx_alloc_free (hh : HalfAt w0) (H : St w0 w (objP t (txCells x n (.map (some mb)) marked spoilt) 67 :: objP x (dbCells d b log m (.pointer (some ⟨t, 0, none⟩)) false) 62 :: diskP d σ :: mapP leafR leafD mb M ks :: ps))
    (hd : σ.down = false) {v : Nat → Leaf} (hv : Sees n M σ log v) (h1 : 1 ≤ n.free) (h2 : n.free < n.high) (h3 : n.high < 2147483648) (nxt : Nat) (hnx : nxt < 2147483648) (hb : (v n.free).2 = numLE nxt 4) (hc1 : 1 ≤ n.count) (hc2 : n.count < 2147483648) (hks : ks.length < 1000000) :
    Calls Tryz.prog 21 #[.pointer (some ⟨t, 0, none⟩)] w fun e w' => e = .returned (.tuple #[.int .i64 (n.free : Int), .int .i64 0]) ∧
      St w0 w' (objP t (txCells x (n.pop nxt) (.map (some mb)) true spoilt) 67 :: objP x (dbCells d b log m (.pointer (some ⟨t, 0, none⟩)) false) 62 :: diskP d σ :: mapP leafR leafD mb (putM M n.free (1, [])) (putK ks n.free) :: ps) := by
  have hu := fun W (hW : W = w) => hW ▸ tx_up H hd
  have hg := tx_get hh H hd hv (n.free : Int) (by omega)
  rw [show getR n v (n.free : Int) = (v n.free, 0) by rw [getR, if_neg (by omega), Int.toNat_natCast]] at hg
  obtain ⟨⟨k, l⟩, hp⟩ : ∃ p, v n.free = p := ⟨_, rfl⟩
  rw [hp] at hg hb
  simp only [] at hb
  subst hb
  obtain ⟨z, hz, ez⟩ := leafV_str k (numLE nxt 4)
  rw [ez] at hg
  simp only [] at hg
  have hzl : z.data.toList = numLE nxt 4 := by rw [hz.out, ba_mk]
  have hval := fun W => pd_value z W (by rw [ba_size, hzl, length_numLE]; exact Nat.le_refl _)
  rw [hzl, List.take_of_length_le (by rw [length_numLE]; exact Nat.le_refl _), valLE_numLE, Nat.mod_eq_of_lt (by omega)] at hval
  have c6 := (H.obj 0 rfl).cell 6
  simp only [txCells, List.getElem?_cons_succ, List.getElem?_cons_zero] at c6
  have hkey := hid (key_of n.free (by omega))
  obtain ⟨M2, hM2⟩ : ∃ M2, Hid (putM M n.free (1, []) = M2) := ⟨_, hid rfl⟩
  rw [hM2.out]
  obtain ⟨h, hhd⟩ : ∃ h, Hid (n.free = h) := ⟨_, hid rfl⟩
  obtain ⟨c, hcd⟩ : ∃ c, Hid (n.count = c) := ⟨_, hid rfl⟩
  rw [hhd.out] at c6 hkey hg h1
  rw [hhd.out]
  rw [hcd.out] at hc1 hc2
  have hpos : (0 : Int) < (h : Int) := by omega
  have hw1 : IntKind.i64.wrap ((c : Int) - 1) = (c : Int) - 1 := by rw [IntKind.wrap_i64]; omega
  clear H hv hp ez hz hzl h1 h2 h3 hnx
  go_enter Tryz.func21, Tryz.ntmps21
  go_upto_region 9 with (first
    | (go_at_call 53; refine (hu _ rfl).mono ?_; rintro e w' ⟨rfl, rfl⟩)
    | (go_at_call 59; refine hg.mono ?_; rintro e w1 ⟨rfl, H1⟩))
  have H2 := hid (H1.alloc [.int .i64 (k : Int), .string z] 101)
  generalize (w1.alloc _) = w2 at *
  generalize w1.heap.size = q at *
  clear hu hg c6 H1
  have q1 := (H2.out.obj 0 rfl).cell 1
  have c6 := (H2.out.obj 1 rfl).cell 6
  have c7 := (H2.out.obj 1 rfl).cell 7
  have f6 := (H2.out.obj 1 rfl).frozen 6
  have f7 := (H2.out.obj 1 rfl).frozen 7
  have f9 := (H2.out.obj 1 rfl).frozen 9
  have c9 := (H2.out.obj 1 rfl).cell 9
  have hlt := (H2.out.obj 1 rfl).lt
  simp only [txCells, List.getElem?_cons_succ, List.getElem?_cons_zero] at c6 c7 c9 q1
  rw [hcd.out] at c7
  rw [hhd.out] at c6
  go_upto_region 16 with (go_at_call 60; refine (hval _).mono ?_; rintro e w3 ⟨rfl, rfl⟩)
  have H3 := hid (show St w0 (((w2.setCell ⟨t, 6, none⟩ (.int .i64 (nxt : Int))).setCell ⟨t, 7, none⟩ (.int .i64 ((c : Int) - 1))).setCell ⟨t, 9, none⟩ (.bool true)).drew (objP t (txCells x (n.pop nxt) (.map (some mb)) true spoilt) 67 :: objP x (dbCells d b log m (.pointer (some ⟨t, 0, none⟩)) false) 62 :: diskP d σ :: mapP leafR leafD mb M ks :: ps) by
    have h3 := (((H2.out.drop.setT 6 (.int .i64 (nxt : Int))).setT 7 (.int .i64 ((c : Int) - 1))).setT 9 (.bool true)).drew
    have e : (((txCells x n (.map (some mb)) marked spoilt).set 6 (.int .i64 (nxt : Int))).set 7 (.int .i64 ((c : Int) - 1))).set 9 (.bool true) = txCells x (n.pop nxt) (.map (some mb)) true spoilt := by
      have ec : ((c : Int) - 1) = ((n.count - 1 : Nat) : Int) := by have := hcd.out; omega
      rw [ec]
      rfl
    rw [← e]
    exact h3)
  clear H2 c6 c7 c9 f6 f7 f9 q1 hlt
  generalize (((w2.setCell ⟨t, 6, none⟩ (.int .i64 (nxt : Int))).setCell ⟨t, 7, none⟩ (.int .i64 ((c : Int) - 1))).setCell ⟨t, 9, none⟩ (.bool true)).drew = w3 at *
  have c8 := (H3.out.obj 0 rfl).cell 8
  simp only [txCells, List.getElem?_cons_succ, List.getElem?_cons_zero] at c8
  obtain ⟨D, hown, hmi⟩ := H3.out.map 3 rfl
  have HM := hid hmi
  have HO := hid hown
  clear hmi hown
  go_wp2_with (at_mapUpdate; refine wpList_mapUpdate_own _ rfl _ _ _ 65 rfl 3 101 int_key Tryz.underlying65 leafR mb ks.length D rfl HO.out (by unfold maxLen; omega) _ _ _ rfl rfl hkey.out (leafD (1, [])) [] (leafR_mk (1, [])) ?_; intro w4 hown4 hg4; have H4 := hid (H3.out.mapPut 3 rfl HM.out hown4 hg4))
  go_ret2
  refine ⟨rfl, ?_⟩
  rw [← hM2.out, hhd.out]
  exact H4.out

end

end Go.Proofs.YtnffnpndnaofhaaGreatDoor
