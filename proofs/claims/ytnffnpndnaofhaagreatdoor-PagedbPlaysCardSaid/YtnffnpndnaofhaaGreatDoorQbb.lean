/- Parts of the proof: The document's database (aquiferref10): a state copied; conditions stand in the theorem. -/
import Derived.Test.YtnffnpndnaofhaaGreatDoorQae
import Derived.Test.YtnffnpndnaofhaaGreatDoorQba
import Derived.Test.YtnffnpndnaofhaaGreatDoorQaz

/- The document's database (aquiferref10): a state copied; conditions stand in the theorem. -/
namespace Go.Proofs.YtnffnpndnaofhaaGreatDoor
open Go.RowKit
set_option maxRecDepth 100000

/-- One of three chains: an empty slice, a load, an append: how far it has come. -/
def Ch (lb ll lp : Bool) (sb sl sp v : Value) (E : TypeId) (sz n : Nat) (xs : List Value) (q : HP) : Prop :=
  (ll = true → sl = v) ∧ ((lp = true ∧ lb = true ∧ ll = true ∧ q = slP sp E sz n xs) ∨ (lp = false ∧ lb = true ∧ q = slP sb E sz 0 []) ∨ (lp = false ∧ lb = false ∧ q = noneP))

def CopI (w0 : World) (ps : List HP) (rb sb : Nat) (pv fv rv : Value) (S : PSt) (listed : Array Bool) (a : Act) (w : World) : Prop :=
  ∃ (b0 b2 b3 b4 b6 b7 b8 b10 b11 b12 b13 : Bool) (s3 s5 s6 s7 s9 s10 s11 s13 s14 s15 : Value) (q0 q1 q2 : HP) (rs : List Value),
    listed = #[b0, true, b2, b3, b4, true, b6, b7, b8, true, b10, b11, b12, b13] ∧
    a = ⟨#[.agg #[pv, fv, rv], .pointer (some ⟨sb, 0, none⟩), .pointer (some ⟨rb, 0, none⟩), s3, .pointer (some ⟨sb, 0, none⟩), s5, s6, s7, .pointer (some ⟨sb, 1, none⟩), s9, s10, s11, .pointer (some ⟨sb, 2, none⟩), s13, s14, s15], []⟩ ∧
    Ch b0 b2 b3 s3 s5 s6 pv 54 3 S.pages.length (S.pages.flatMap pageCells) q0 ∧
    Ch b4 b6 b7 s7 s9 s10 fv 3 1 S.freed.length (S.freed.map numV) q1 ∧
    Ch b8 b10 b11 s11 s13 s14 rv 3 1 4 [numV S.r0, numV S.r1, numV S.r2, numV S.r3] q2 ∧
    (b12 = true → b3 = true ∧ b7 = true ∧ b11 = true ∧ s15 = .agg #[s6, s10, s14]) ∧ (b13 = true → b12 = true ∧ rs = [s6, s10, s14]) ∧ rs.length = 3 ∧
    St w0 w (q0 :: q1 :: q2 :: objP rb rs 37 :: objP sb [pv, fv, rv] 37 :: slP pv 54 3 S.pages.length (S.pages.flatMap pageCells) :: slP fv 3 1 S.freed.length (S.freed.map numV) :: slP rv 3 1 4 [numV S.r0, numV S.r1, numV S.r2, numV S.r3] :: ps)

section
variable {lb ll lp : Bool} {sb sl sp v : Value} {E : TypeId} {sz n : Nat} {xs : List Value} {q : HP}

theorem Ch.done (h : Ch lb ll lp sb sl sp v E sz n xs q) (hp : lp = true) : q = slP sp E sz n xs := by
  subst hp
  rcases h.2 with ⟨-, -, -, h⟩ | ⟨h, -⟩ | ⟨h, -⟩
  · exact h
  · cases h
  · cases h

theorem Ch.fresh (h : Ch false ll lp sb sl sp v E sz n xs q) : (ll = true → sl = v) ∧ lp = false ∧ q = noneP := by
  rcases h with ⟨h0, ⟨-, h, -⟩ | ⟨-, h, -⟩ | ⟨h, -, h2⟩⟩
  · cases h
  · cases h
  · exact ⟨h0, h, h2⟩

theorem Ch.loaded (h : Ch lb false lp sb sl sp v E sz n xs q) : Ch lb true lp sb v sp v E sz n xs q := by
  rcases h with ⟨h0, ⟨-, -, h, -⟩ | h | h⟩
  · cases h
  · exact ⟨fun _ => rfl, .inr (.inl h)⟩
  · exact ⟨fun _ => rfl, .inr (.inr h)⟩

theorem Ch.built (h : Ch true true false sb sl sp v E sz n xs q) : sl = v ∧ q = slP sb E sz 0 [] := by
  rcases h with ⟨h0, ⟨h, -⟩ | ⟨-, -, h⟩ | ⟨-, h, -⟩⟩
  · cases h
  · exact ⟨h0 rfl, h⟩
  · cases h
end

theorem pages_ones (S : PSt) : ∀ u ∈ S.pages.flatMap pageCells, u.oneCell' = true := by
  intro u hu
  obtain ⟨o, -, ho⟩ := List.mem_flatMap.1 hu
  obtain ⟨k, z, f, e⟩ := pageCells_three o
  rw [e] at ho
  simp only [List.mem_cons, List.not_mem_nil, or_false] at ho
  rcases ho with rfl | rfl | rfl <;> rfl

theorem results_cell_one {fn : Func} {p : Tmp} {ty : TypeId} (h : fn.results = #[.cell p ty]) {P : Program} {w : World} {b : Nat} {cs : List Value} {E : TypeId} {tmps : Array Value} (hp : tmps.getD p undef = .pointer (some ⟨b, 0, none⟩))
    (ha : IsAgg P ty) (hs : (P.info? ty).map (·.size) = some cs.length) (hat : At w b cs E) : (results fn tmps).run P w = .ok (.agg cs.toArray) w := by
  have hl := run_loadVar_piece (P := P) (off := 0) (n := cs.length) hat ha hs (by omega)
  rw [List.drop_zero, List.take_length] at hl
  have hp2 : tmps[p]?.getD undef = .pointer (some ⟨b, 0, none⟩) := by rw [← Array.getD_eq_getD_getElem?]; exact hp
  simp only [results, h]
  simp [Sem.run_bind, Result.andThen, hp2, asAddr, hl]

theorem St.none1 {w0 w : World} {ps : List HP} (H : St w0 w ps) : St w0 w (noneP :: ps) := by
  obtain ⟨fp, hs, hb⟩ := H.sep
  exact ⟨H.pres, fp, ⟨[], fp, rfl, rfl, hs, by simp⟩, hb⟩

theorem St.nones {w0 w : World} {ps : List HP} (H : St w0 w ps) : St w0 w (noneP :: noneP :: noneP :: ps) := H.none1.none1.none1

set_option maxHeartbeats 4000000 in
theorem rf_copied {w0 w : World} {ps : List HP} {pv fv rv : Value} {S : PSt} (h1 : S.pages.length ≤ 1000000) (h2 : S.freed.length ≤ 1000000) (H : St w0 w (statP pv fv rv S :: ps)) :
    Calls Tryz.prog 99 #[.agg #[pv, fv, rv]] w fun e w' => ∃ pv' fv' rv', e = .returned (.agg #[pv', fv', rv']) ∧ St w0 w' (statP pv' fv' rv' S :: statP pv fv rv S :: ps) := by
  have H0 := hid ((H.unpack.alloc [pv, fv, rv] 37).alloc [.slice none 0 0, .slice none 0 0, .slice none 0 0] 37)
  rw [show (w.alloc (.cells [pv, fv, rv].toArray 37)).heap.size = w.heap.size + 1 by simp] at H0
  have HS := hid (And.intro h1 h2)
  clear h1 h2 H
  go_enter Tryz.func99, Tryz.ntmps99
  go_upto_region 1 with fail
  refine wp_stages (by kernel_rfl) ?_
  refine wp_pures [(1, true), (5, true), (9, true)] 11 rfl (by kernel_rfl) (by kernel_rfl) (by intro c a dd v w h; cases dd <;> exact h) ?_
  iterate 3 (refine wpOrd_read (v := _) rfl rfl (by intro w' hS; skip; clear hS; go_simp; rfl) ?_; (try simp only [Act.put, List.setIfInBounds_toArray, List.set_cons_succ, List.set_cons_zero, List.getElem_toArray, List.getElem_cons_succ, List.getElem_cons_zero]))
  refine wpOrd_end ?_
  generalize w.heap.size + 1 = rb at *
  generalize w.heap.size = sb at *
  have HD := hid H0.out.drew
  clear H0
  generalize ((w.alloc _).alloc _).drew = w1 at *
  have hpo := hid (pages_ones S)
  refine wpAny_inv (I := CopI w0 ps rb sb pv fv rv S) (by kernel_rfl) ?sz ?step ?fin 11 _ _ _ (by kernel_rfl) ?start
  case sz =>
    rintro listed a w ⟨b0, b2, b3, b4, b6, b7, b8, b10, b11, b12, b13, s3, s5, s6, s7, s9, s10, s11, s13, s14, s15, q0, q1, q2, rs, rfl, -⟩
    rfl
  case start =>
    exact ⟨false, false, false, false, false, false, false, false, false, false, false, undef, undef, undef, undef, undef, undef, undef, undef, undef, undef, noneP, noneP, noneP, _, rfl, rfl, ⟨fun h => (by cases h), .inr (.inr ⟨rfl, rfl, rfl⟩)⟩, ⟨fun h => (by cases h), .inr (.inr ⟨rfl, rfl, rfl⟩)⟩, ⟨fun h => (by cases h), .inr (.inr ⟨rfl, rfl, rfl⟩)⟩, fun h => (by cases h), fun h => (by cases h), rfl, St.nones HD.out⟩
  case fin =>
    rintro listed a w ⟨b0, b2, b3, b4, b6, b7, b8, b10, b11, b12, b13, s3, s5, s6, s7, s9, s10, s11, s13, s14, s15, q0, q1, q2, rs, rfl, rfl, C0, C1, C2, h12, h13, hrs, HH⟩ hall
    have e13 : b13 = true := hall 13 (by decide)
    obtain ⟨e12, rfl⟩ := h13 e13
    obtain ⟨e3, e7, e11, rfl⟩ := h12 e12
    obtain rfl := C0.done e3
    obtain rfl := C1.done e7
    obtain rfl := C2.done e11
    have HZ := hid HH
    clear HH HD C0 C1 C2 h12 h13 hall
    simp only [Exit.then]
    go_wp2
    refine bodyPost_ret (results_cell_one (cs := [s6, s10, s14]) rfl rfl state_agg state_size (HZ.out.obj 3 rfl)) rfl ?_
    refine ⟨s6, s10, s14, rfl, ?_⟩
    have h5 := (((HZ.out.pull 3 rfl).drop).pull 3 rfl).drop
    have h6 := St.pack [_, _, _] (((h5.pull 5 rfl).pull 5 rfl).pull 5 rfl)
    exact St.pack [_, _, _] (((h6.pull 3 rfl).pull 3 rfl).pull 3 rfl)
  case step =>
    rintro listed a w ⟨b0, b2, b3, b4, b6, b7, b8, b10, b11, b12, b13, s3, s5, s6, s7, s9, s10, s11, s13, s14, s15, q0, q1, q2, rs, rfl, rfl, C0, C1, C2, h12, h13, hrs, HH⟩ i hi
    have hi14 : i < 14 := by
      obtain ⟨-, o, ho, -⟩ := mem_ready.1 hi
      exact (Array.getElem?_eq_some_iff.1 ho).1
    clear HD
    rcases (by omega : i = 0 ∨ i = 1 ∨ i = 2 ∨ i = 3 ∨ i = 4 ∨ i = 5 ∨ i = 6 ∨ i = 7 ∨ i = 8 ∨ i = 9 ∨ i = 10 ∨ i = 11 ∨ i = 12 ∨ i = 13) with rfl | rfl | rfl | rfl | rfl | rfl | rfl | rfl | rfl | rfl | rfl | rfl | rfl | rfl
    · -- operation 0
      obtain rfl : b0 = false := ready_new hi
      obtain ⟨el, rfl, rfl⟩ := C0.fresh
      have HQ := hid (HH)
      have HK := hid (And.intro C0 (And.intro C1 (And.intro C2 (And.intro h12 (And.intro h13 hrs)))))
      clear C0 C1 C2 h12 h13 hrs HH hi
      refine wpOp_do rfl rfl ?_
      go_simp
      obtain ⟨C0, C1, C2, h12, h13, hrs⟩ := HK.out
      refine ⟨true, b2, false, b4, b6, b7, b8, b10, b11, b12, b13, _, s5, s6, s7, s9, s10, s11, s13, s14, s15, _, q1, q2, rs, rfl, rfl, ⟨el, .inr (.inl ⟨rfl, rfl, rfl⟩)⟩, C1, C2, h12, h13, hrs, ?_⟩
      have HN := (HQ.out.drop).slice (v := .slice (some ⟨w.heap.size, 0, none⟩) 0 0) (E := 54) (sz := 3) (n := 0) (xs := []) ⟨rfl, .inr ⟨_, 0, _, rfl, At.new w [] _, Nat.le_refl _, by simp [maxLen], rfl, rfl⟩⟩ ((Pres.refl [] w).alloc _) (by simp [fpv])
      exact HN
    · -- operation 1
      have := ready_new hi
      cases this
    · -- operation 2
      obtain rfl : b2 = false := ready_new hi
      have hc : w.cell? ⟨sb, 0, none⟩ = some pv := (HH.obj 4 rfl).cell 0
      have HQ := hid HH
      have HK := hid (And.intro C0 (And.intro C1 (And.intro C2 (And.intro h12 (And.intro h13 hrs)))))
      clear C0 C1 C2 h12 h13 hrs HH hi
      refine wpOp_do rfl rfl ?_
      go_simp
      obtain ⟨C0, C1, C2, h12, h13, hrs⟩ := HK.out
      exact ⟨b0, true, b3, b4, b6, b7, b8, b10, b11, b12, b13, s3, _, s6, s7, s9, s10, s11, s13, s14, s15, q0, q1, q2, rs, rfl, rfl, C0.loaded, C1, C2, h12, h13, hrs, HQ.out⟩
    · -- operation 3
      obtain rfl : b3 = false := ready_new hi
      have e1 : b0 = true := ready_dep hi rfl 0 (by kernel_rfl)
      have e2 : b2 = true := ready_dep hi rfl 2 (by kernel_rfl)
      subst e1 e2
      obtain ⟨rfl, rfl⟩ := C0.built
      have HQ := hid (HH)
      have HK := hid (And.intro C0 (And.intro C1 (And.intro C2 (And.intro h12 (And.intro h13 hrs)))))
      clear C0 C1 C2 h12 h13 hrs HH hi
      refine wpOp_do rfl rfl ?_
      obtain ⟨nf, hi', hz', hs2, hb2⟩ := info_page
      refine wp_app (.tmp 3) (.tmp 5) 34 34 rfl 54 nf _ 3 Tryz.underlying34 hi' hz' hs2 rfl s3 0 [] rfl (HQ.out.sl 0 rfl) S.pages.length _ (Src.sl Tryz.underlying34 (HQ.out.sl 5 rfl) hpo.out) (by have := HS.out; simp only [maxLen]; omega) (by have := HS.out; rw [hb2]; omega) ?_
      intro v' w' Y1 Y2 Y3
      have HN := HQ.out.grow 0 rfl Y1 Y2 Y3
      rw [Nat.zero_add, List.nil_append] at HN
      obtain ⟨C0, C1, C2, h12, h13, hrs⟩ := HK.out
      refine ⟨true, true, true, b4, b6, b7, b8, b10, b11, b12, b13, s3, s5, v', s7, s9, s10, s11, s13, s14, s15, _, q1, q2, rs, rfl, rfl, ⟨fun _ => rfl, .inl ⟨rfl, rfl, rfl, rfl⟩⟩, C1, C2, fun h => ?_, fun h => (by obtain ⟨z1, z2, z3, -⟩ := h12 (h13 h).1; cases z1), hrs, HN⟩
      obtain ⟨z1, z2, z3, -⟩ := h12 h
      cases z1
    · -- operation 4
      obtain rfl : b4 = false := ready_new hi
      obtain ⟨el, rfl, rfl⟩ := C1.fresh
      have HQ := hid (HH.pull 1 rfl)
      have HK := hid (And.intro C0 (And.intro C1 (And.intro C2 (And.intro h12 (And.intro h13 hrs)))))
      clear C0 C1 C2 h12 h13 hrs HH hi
      refine wpOp_do rfl rfl ?_
      go_simp
      obtain ⟨C0, C1, C2, h12, h13, hrs⟩ := HK.out
      refine ⟨b0, b2, b3, true, b6, false, b8, b10, b11, b12, b13, s3, s5, s6, _, s9, s10, s11, s13, s14, s15, q0, _, q2, rs, rfl, rfl, C0, ⟨el, .inr (.inl ⟨rfl, rfl, rfl⟩)⟩, C2, h12, h13, hrs, ?_⟩
      have HN := (HQ.out.drop).slice (v := .slice (some ⟨w.heap.size, 0, none⟩) 0 0) (E := 3) (sz := 1) (n := 0) (xs := []) ⟨rfl, .inr ⟨_, 0, _, rfl, At.new w [] _, Nat.le_refl _, by simp [maxLen], rfl, rfl⟩⟩ ((Pres.refl [] w).alloc _) (by simp [fpv])
      exact HN.pull 1 rfl
    · -- operation 5
      have := ready_new hi
      cases this
    · -- operation 6
      obtain rfl : b6 = false := ready_new hi
      have hc : w.cell? ⟨sb, 1, none⟩ = some fv := (HH.obj 4 rfl).cell 1
      have HQ := hid HH
      have HK := hid (And.intro C0 (And.intro C1 (And.intro C2 (And.intro h12 (And.intro h13 hrs)))))
      clear C0 C1 C2 h12 h13 hrs HH hi
      refine wpOp_do rfl rfl ?_
      go_simp
      obtain ⟨C0, C1, C2, h12, h13, hrs⟩ := HK.out
      exact ⟨b0, b2, b3, b4, true, b7, b8, b10, b11, b12, b13, s3, s5, s6, s7, _, s10, s11, s13, s14, s15, q0, q1, q2, rs, rfl, rfl, C0, C1.loaded, C2, h12, h13, hrs, HQ.out⟩
    · -- operation 7
      obtain rfl : b7 = false := ready_new hi
      have e1 : b4 = true := ready_dep hi rfl 4 (by kernel_rfl)
      have e2 : b6 = true := ready_dep hi rfl 6 (by kernel_rfl)
      subst e1 e2
      obtain ⟨rfl, rfl⟩ := C1.built
      have HQ := hid (HH.pull 1 rfl)
      have HK := hid (And.intro C0 (And.intro C1 (And.intro C2 (And.intro h12 (And.intro h13 hrs)))))
      clear C0 C1 C2 h12 h13 hrs HH hi
      refine wpOp_do rfl rfl ?_
      obtain ⟨nf, hi', hz', hs2, hb2⟩ := info_intS
      refine wp_app (.tmp 7) (.tmp 9) 35 35 rfl 3 nf _ 1 Tryz.underlying35 hi' hz' hs2 rfl s7 0 [] rfl (HQ.out.sl 0 rfl) S.freed.length _ (Src.sl Tryz.underlying35 (HQ.out.sl 6 rfl) nums_one) (by have := HS.out; simp only [maxLen]; omega) (by have := HS.out; rw [hb2]; omega) ?_
      intro v' w' Y1 Y2 Y3
      have HN := HQ.out.grow 0 rfl Y1 Y2 Y3
      rw [Nat.zero_add, List.nil_append] at HN
      obtain ⟨C0, C1, C2, h12, h13, hrs⟩ := HK.out
      refine ⟨b0, b2, b3, true, true, true, b8, b10, b11, b12, b13, s3, s5, s6, s7, s9, v', s11, s13, s14, s15, q0, _, q2, rs, rfl, rfl, C0, ⟨fun _ => rfl, .inl ⟨rfl, rfl, rfl, rfl⟩⟩, C2, fun h => ?_, fun h => (by obtain ⟨z1, z2, z3, -⟩ := h12 (h13 h).1; cases z2), hrs, HN.pull 1 rfl⟩
      obtain ⟨z1, z2, z3, -⟩ := h12 h
      cases z2
    · -- operation 8
      obtain rfl : b8 = false := ready_new hi
      obtain ⟨el, rfl, rfl⟩ := C2.fresh
      have HQ := hid (HH.pull 2 rfl)
      have HK := hid (And.intro C0 (And.intro C1 (And.intro C2 (And.intro h12 (And.intro h13 hrs)))))
      clear C0 C1 C2 h12 h13 hrs HH hi
      refine wpOp_do rfl rfl ?_
      go_simp
      obtain ⟨C0, C1, C2, h12, h13, hrs⟩ := HK.out
      refine ⟨b0, b2, b3, b4, b6, b7, true, b10, false, b12, b13, s3, s5, s6, s7, s9, s10, _, s13, s14, s15, q0, q1, _, rs, rfl, rfl, C0, C1, ⟨el, .inr (.inl ⟨rfl, rfl, rfl⟩)⟩, h12, h13, hrs, ?_⟩
      have HN := (HQ.out.drop).slice (v := .slice (some ⟨w.heap.size, 0, none⟩) 0 0) (E := 3) (sz := 1) (n := 0) (xs := []) ⟨rfl, .inr ⟨_, 0, _, rfl, At.new w [] _, Nat.le_refl _, by simp [maxLen], rfl, rfl⟩⟩ ((Pres.refl [] w).alloc _) (by simp [fpv])
      exact HN.pull 2 rfl |>.pull 2 rfl
    · -- operation 9
      have := ready_new hi
      cases this
    · -- operation 10
      obtain rfl : b10 = false := ready_new hi
      have hc : w.cell? ⟨sb, 2, none⟩ = some rv := (HH.obj 4 rfl).cell 2
      have HQ := hid HH
      have HK := hid (And.intro C0 (And.intro C1 (And.intro C2 (And.intro h12 (And.intro h13 hrs)))))
      clear C0 C1 C2 h12 h13 hrs HH hi
      refine wpOp_do rfl rfl ?_
      go_simp
      obtain ⟨C0, C1, C2, h12, h13, hrs⟩ := HK.out
      exact ⟨b0, b2, b3, b4, b6, b7, b8, true, b11, b12, b13, s3, s5, s6, s7, s9, s10, s11, _, s14, s15, q0, q1, q2, rs, rfl, rfl, C0, C1, C2.loaded, h12, h13, hrs, HQ.out⟩
    · -- operation 11
      obtain rfl : b11 = false := ready_new hi
      have e1 : b8 = true := ready_dep hi rfl 8 (by kernel_rfl)
      have e2 : b10 = true := ready_dep hi rfl 10 (by kernel_rfl)
      subst e1 e2
      obtain ⟨rfl, rfl⟩ := C2.built
      have HQ := hid (HH.pull 2 rfl)
      have HK := hid (And.intro C0 (And.intro C1 (And.intro C2 (And.intro h12 (And.intro h13 hrs)))))
      clear C0 C1 C2 h12 h13 hrs HH hi
      refine wpOp_do rfl rfl ?_
      obtain ⟨nf, hi', hz', hs2, hb2⟩ := info_intS
      refine wp_app (.tmp 11) (.tmp 13) 35 35 rfl 3 nf _ 1 Tryz.underlying35 hi' hz' hs2 rfl s11 0 [] rfl (HQ.out.sl 0 rfl) 4 _ (Src.sl Tryz.underlying35 (HQ.out.sl 7 rfl) (nums_one (l := [S.r0, S.r1, S.r2, S.r3]))) (by have := HS.out; simp only [maxLen]; omega) (by have := HS.out; rw [hb2]; omega) ?_
      intro v' w' Y1 Y2 Y3
      have HN := HQ.out.grow 0 rfl Y1 Y2 Y3
      rw [Nat.zero_add, List.nil_append] at HN
      obtain ⟨C0, C1, C2, h12, h13, hrs⟩ := HK.out
      refine ⟨b0, b2, b3, b4, b6, b7, true, true, true, b12, b13, s3, s5, s6, s7, s9, s10, s11, s13, v', s15, q0, q1, _, rs, rfl, rfl, C0, C1, ⟨fun _ => rfl, .inl ⟨rfl, rfl, rfl, rfl⟩⟩, fun h => ?_, fun h => (by obtain ⟨z1, z2, z3, -⟩ := h12 (h13 h).1; cases z3), hrs, HN.pull 2 rfl |>.pull 2 rfl⟩
      obtain ⟨z1, z2, z3, -⟩ := h12 h
      cases z3
    · -- operation 12
      obtain rfl : b12 = false := ready_new hi
      have e1 : b3 = true := ready_dep hi rfl 3 (by kernel_rfl)
      have e2 : b7 = true := ready_dep hi rfl 7 (by kernel_rfl)
      have e3 : b11 = true := ready_dep hi rfl 11 (by kernel_rfl)
      obtain rfl := C0.done e1
      obtain rfl := C1.done e2
      obtain rfl := C2.done e3
      obtain ⟨a6, c6, rfl, -, -⟩ := (HH.sl 0 rfl).shape
      obtain ⟨a10, c10, rfl, -, -⟩ := (HH.sl 1 rfl).shape
      obtain ⟨a14, c14, rfl, -, -⟩ := (HH.sl 2 rfl).shape
      have HQ := hid HH
      have HK := hid (And.intro C0 (And.intro C1 (And.intro C2 (And.intro h12 (And.intro h13 (And.intro hrs (And.intro e1 (And.intro e2 e3))))))))
      clear C0 C1 C2 h12 h13 hrs HH hi e1 e2 e3
      refine wpOp_do rfl rfl ?_
      go_simp
      obtain ⟨C0, C1, C2, h12, h13, hrs, e1, e2, e3⟩ := HK.out
      exact ⟨b0, b2, b3, b4, b6, b7, b8, b10, b11, true, b13, s3, s5, _, s7, s9, _, s11, s13, _, _, _, _, _, rs, rfl, rfl, C0, C1, C2, fun _ => ⟨e1, e2, e3, rfl⟩, fun h => (by have := (h13 h).1; cases this), hrs, HQ.out⟩
    · -- operation 13
      obtain rfl : b13 = false := ready_new hi
      have e1 : b12 = true := ready_dep hi rfl 12 (by kernel_rfl)
      obtain ⟨e3, e7, e11, rfl⟩ := h12 e1
      obtain rfl := C0.done e3
      obtain rfl := C1.done e7
      obtain rfl := C2.done e11
      have hone : ∀ u ∈ [s6, s10, s14], u.oneCell' = true := by
        obtain ⟨_, _, g0, -⟩ := (HH.sl 0 rfl).shape
        obtain ⟨_, _, g1, -⟩ := (HH.sl 1 rfl).shape
        obtain ⟨_, _, g2, -⟩ := (HH.sl 2 rfl).shape
        rw [g0, g1, g2]
        simp [Value.oneCell']
      refine wpOp_do rfl rfl ?_
      refine wp_skip' (run_store_agg (b := rb) (off := 0) (n := 3) (vs := [s6, s10, s14]) rfl rfl rfl (HH.obj 3 rfl) state_size rfl (by rw [hrs]; decide) hone) ?_
      have HN := HH.put 3 rfl (At.setRow (HH.obj 3 rfl) (splice rs 0 [s6, s10, s14])) ((Pres.refl _ _).setRow (by simp) _)
      have e5 : splice rs 0 [s6, s10, s14] = [s6, s10, s14] := by
        unfold splice
        simp [hrs]
      rw [e5] at HN ⊢
      exact ⟨b0, b2, b3, b4, b6, b7, b8, b10, b11, b12, true, s3, s5, s6, s7, s9, s10, s11, s13, s14, _, _, _, _, [s6, s10, s14], rfl, rfl, C0, C1, C2, fun _ => ⟨e3, e7, e11, rfl⟩, fun _ => ⟨e1, rfl⟩, rfl, HN⟩

end Go.Proofs.YtnffnpndnaofhaaGreatDoor

/- The document's database as one piece of memory, closed and open; what its calls that read come to; conditions stand in the theorems. -/
namespace Go.Proofs.YtnffnpndnaofhaaGreatDoor
open Go.RowKit
set_option maxRecDepth 100000

structure RfV where
  pv : Value
  fv : Value
  rv : Value
  pt : Value
  ft : Value
  rt : Value
  tv : Value
  md : Bool
  sp : Bool

def rfCells (cnt log : Nat) (op : Bool) (v : RfV) : List Value :=
  [.int .i64 (cnt : Int), .int .i64 (log : Int), v.pv, v.fv, v.rv, .bool op, v.pt, v.ft, v.rt, v.tv, .bool v.md, .bool v.sp]

def tkCells (cnt : Nat) (tk : Nat → Bool) : List Value := (List.range (cnt + 1)).map fun k => .bool (tk k)

/-- Without a transaction. -/
def rfP (r cnt log : Nat) (S : PSt) : HP := exP fun v : RfV => ifP (∃ a n c, v.tv = .slice a n c) (packP [objP r (rfCells cnt log false v) 83, statP v.pv v.fv v.rv S])

/-- With a transaction. -/
def rfoP (r cnt log : Nat) (S T : PSt) (tk : Nat → Bool) (mk sp : Bool) : HP := exP fun v : RfV => ifP (v.md = mk ∧ v.sp = sp)
  (packP [objP r (rfCells cnt log true v) 83, statP v.pv v.fv v.rv S, slP v.pt 54 3 T.pages.length (T.pages.flatMap pageCells), slP v.ft 3 1 T.freed.length (T.freed.map numV), slP v.rt 3 1 4 [numV T.r0, numV T.r1, numV T.r2, numV T.r3], slP v.tv 4 1 (cnt + 1) (tkCells cnt tk)])

section
variable {w0 w : World} {ps : List HP} {r cnt log : Nat} {S T : PSt} {tk : Nat → Bool} {mk sp : Bool}

theorem rfP_open (H : St w0 w (rfP r cnt log S :: ps)) : ∃ v : RfV, (∃ a n c, v.tv = .slice a n c) ∧ St w0 w (objP r (rfCells cnt log false v) 83 :: statP v.pv v.fv v.rv S :: ps) := by
  obtain ⟨v, H⟩ := H.ex
  obtain ⟨h, H⟩ := H.fact
  exact ⟨v, h, H.unpack⟩

theorem rfP_mk (v : RfV) (h : ∃ a n c, v.tv = .slice a n c) (H : St w0 w (objP r (rfCells cnt log false v) 83 :: statP v.pv v.fv v.rv S :: ps)) : St w0 w (rfP r cnt log S :: ps) :=
  St.any (F := fun v : RfV => ifP (∃ a n c, v.tv = .slice a n c) (packP [objP r (rfCells cnt log false v) 83, statP v.pv v.fv v.rv S])) v (St.with h (St.pack [_, _] H))

theorem rfoP_open (H : St w0 w (rfoP r cnt log S T tk mk sp :: ps)) : ∃ v : RfV, v.md = mk ∧ v.sp = sp ∧ St w0 w (objP r (rfCells cnt log true v) 83 :: statP v.pv v.fv v.rv S :: slP v.pt 54 3 T.pages.length (T.pages.flatMap pageCells) :: slP v.ft 3 1 T.freed.length (T.freed.map numV) :: slP v.rt 3 1 4 [numV T.r0, numV T.r1, numV T.r2, numV T.r3] :: slP v.tv 4 1 (cnt + 1) (tkCells cnt tk) :: ps) := by
  obtain ⟨v, H⟩ := H.ex
  obtain ⟨⟨h1, h2⟩, H⟩ := H.fact
  exact ⟨v, h1, h2, H.unpack⟩

theorem rfoP_mk (v : RfV) (H : St w0 w (objP r (rfCells cnt log true v) 83 :: statP v.pv v.fv v.rv S :: slP v.pt 54 3 T.pages.length (T.pages.flatMap pageCells) :: slP v.ft 3 1 T.freed.length (T.freed.map numV) :: slP v.rt 3 1 4 [numV T.r0, numV T.r1, numV T.r2, numV T.r3] :: slP v.tv 4 1 (cnt + 1) (tkCells cnt tk) :: ps)) : St w0 w (rfoP r cnt log S T tk v.md v.sp :: ps) :=
  St.any (F := fun v' : RfV => ifP (v'.md = v.md ∧ v'.sp = v.sp) (packP [objP r (rfCells cnt log true v') 83, statP v'.pv v'.fv v'.rv S, slP v'.pt 54 3 T.pages.length (T.pages.flatMap pageCells), slP v'.ft 3 1 T.freed.length (T.freed.map numV), slP v'.rt 3 1 4 [numV T.r0, numV T.r1, numV T.r2, numV T.r3], slP v'.tv 4 1 (cnt + 1) (tkCells cnt tk)])) v (St.with ⟨rfl, rfl⟩ (St.pack [_, _, _, _, _, _] H))

/-! ## Without a transaction -/

theorem rf_there_no (H : St w0 w (rfP r cnt log S :: ps)) (id : Int) :
    Calls Tryz.prog 100 #[.pointer (some ⟨r, 0, none⟩), .int .i64 id] w fun e w' => e = .returned (.int .i64 1) ∧ w = w' := by
  obtain ⟨v, -, H1⟩ := rfP_open H
  have c5 : w.cell? ⟨r, 5, none⟩ = some (.bool false) := (H1.obj 0 rfl).cell 5
  clear H1 H
  go_enter Tryz.func100, Tryz.ntmps100
  go_wp2
  go_ret
  exact ⟨rfl, rfl⟩

theorem rf_read_no (H : St w0 w (rfP r cnt log S :: ps)) (id : Int) :
    Calls Tryz.prog 67 #[.pointer (some ⟨r, 0, none⟩), .int .i64 id] w fun e w' => e = .returned (.tuple #[.int .i64 0, .string ⟨#[]⟩, .int .i64 1]) ∧ w = w' := by
  have ht := rf_there_no H id
  clear H
  go_enter Tryz.func67, Tryz.ntmps67
  go_wp2_with (go_at_call 100; refine ht.mono ?_; rintro e w' ⟨rfl, rfl⟩)
  go_ret3
  exact ⟨rfl, rfl⟩

theorem rf_write_no (H : St w0 w (rfP r cnt log S :: ps)) (id kind : Int) (s : ByteArray) :
    Calls Tryz.prog 68 #[.pointer (some ⟨r, 0, none⟩), .int .i64 id, .int .i64 kind, .string s] w fun e w' => e = .returned (.int .i64 1) ∧ w = w' := by
  have ht := rf_there_no H id
  clear H
  go_enter Tryz.func68, Tryz.ntmps68
  go_wp2_with (go_at_call 100; refine ht.mono ?_; rintro e w' ⟨rfl, rfl⟩)
  go_ret
  exact ⟨rfl, rfl⟩

theorem rf_free_no (H : St w0 w (rfP r cnt log S :: ps)) (id : Int) :
    Calls Tryz.prog 70 #[.pointer (some ⟨r, 0, none⟩), .int .i64 id] w fun e w' => e = .returned (.int .i64 1) ∧ w = w' := by
  have ht := rf_there_no H id
  clear H
  go_enter Tryz.func70, Tryz.ntmps70
  go_wp2_with (go_at_call 100; refine ht.mono ?_; rintro e w' ⟨rfl, rfl⟩)
  go_ret
  exact ⟨rfl, rfl⟩

theorem rf_alloc_no (H : St w0 w (rfP r cnt log S :: ps)) :
    Calls Tryz.prog 69 #[.pointer (some ⟨r, 0, none⟩)] w fun e w' => e = .returned (.tuple #[.int .i64 0, .int .i64 1]) ∧ w = w' := by
  obtain ⟨v, -, H1⟩ := rfP_open H
  have c5 : w.cell? ⟨r, 5, none⟩ = some (.bool false) := (H1.obj 0 rfl).cell 5
  clear H1 H
  go_enter Tryz.func69, Tryz.ntmps69
  go_wp2
  go_ret2
  exact ⟨rfl, rfl⟩

theorem rf_setroot_no (H : St w0 w (rfP r cnt log S :: ps)) (i n : Int) :
    Calls Tryz.prog 71 #[.pointer (some ⟨r, 0, none⟩), .int .i64 i, .int .i64 n] w fun e w' => e = .returned (.int .i64 1) ∧ w = w' := by
  obtain ⟨v, -, H1⟩ := rfP_open H
  have c5 : w.cell? ⟨r, 5, none⟩ = some (.bool false) := (H1.obj 0 rfl).cell 5
  clear H1 H
  go_enter Tryz.func71, Tryz.ntmps71
  go_wp2
  go_ret
  exact ⟨rfl, rfl⟩

theorem rf_root_no (H : St w0 w (rfP r cnt log S :: ps)) (i : Int) :
    Calls Tryz.prog 39 #[.pointer (some ⟨r, 0, none⟩), .int .i64 i] w fun e w' => e = .returned (.int .i64 0) ∧ w = w' := by
  obtain ⟨v, -, H1⟩ := rfP_open H
  have c5 : w.cell? ⟨r, 5, none⟩ = some (.bool false) := (H1.obj 0 rfl).cell 5
  clear H1 H
  go_enter Tryz.func39, Tryz.ntmps39
  go_wp2
  go_ret
  exact ⟨rfl, rfl⟩

theorem rf_commit_no (H : St w0 w (rfP r cnt log S :: ps)) :
    Calls Tryz.prog 72 #[.pointer (some ⟨r, 0, none⟩)] w fun e w' => e = .returned (.int .i64 1) ∧ w = w' := by
  obtain ⟨v, -, H1⟩ := rfP_open H
  have c5 : w.cell? ⟨r, 5, none⟩ = some (.bool false) := (H1.obj 0 rfl).cell 5
  clear H1 H
  go_enter Tryz.func72, Tryz.ntmps72
  go_wp2
  go_ret
  exact ⟨rfl, rfl⟩

theorem rf_changed_no (H : St w0 w (rfP r cnt log S :: ps)) :
    Calls Tryz.prog 38 #[.pointer (some ⟨r, 0, none⟩)] w fun e w' => e = .returned (.int .i64 0) ∧ w = w' := by
  obtain ⟨v, ⟨ta, tn, tc, ht⟩, H1⟩ := rfP_open H
  have c5 : w.cell? ⟨r, 5, none⟩ = some (.bool false) := (H1.obj 0 rfl).cell 5
  have c9 : w.cell? ⟨r, 9, none⟩ = some (.slice ta tn tc) := by rw [← ht]; exact (H1.obj 0 rfl).cell 9
  clear H1 H ht
  go_enter Tryz.func38, Tryz.ntmps38
  by_cases h0 : tn = 0
  · subst h0
    go_wp2_with fail
    go_loopw [3, 4] (fun nv iv wr => nv = .int .i64 0 ∧ iv = .int .i64 0 ∧ w = wr) (fun _ iv _ => 0)
    case atStart => exact ⟨rfl, rfl, rfl⟩
    case round =>
      obtain ⟨rfl, rfl, rfl⟩ := hrel
      go_wp2_with fail
      go_ret
      exact ⟨rfl, rfl⟩
  · have h1 : (0 : Int) < (tn : Int) := by omega
    go_wp2_with fail
    go_loopw [3, 4] (fun nv iv wr => nv = .int .i64 0 ∧ iv = .int .i64 0 ∧ w = wr) (fun _ iv _ => 0)
    case atStart => exact ⟨rfl, rfl, rfl⟩
    case round =>
      obtain ⟨rfl, rfl, rfl⟩ := hrel
      go_wp2_with fail
      go_ret
      exact ⟨rfl, rfl⟩

theorem rf_abort_no (H : St w0 w (rfP r cnt log S :: ps)) :
    Calls Tryz.prog 73 #[.pointer (some ⟨r, 0, none⟩)] w fun e w' => e = .returned (.tuple #[]) ∧ St w0 w' (rfP r cnt log S :: ps) := by
  obtain ⟨v, ht, H1⟩ := rfP_open H
  have c5 := (H1.obj 0 rfl).cell 5
  simp only [rfCells, List.getElem?_cons_succ, List.getElem?_cons_zero] at c5
  have f5 := (H1.obj 0 rfl).frozen 5
  have l0 := (H1.obj 0 rfl).lt
  have H1 := hid H1
  have HT := hid ht
  clear H ht
  go_enter Tryz.func73, Tryz.ntmps73
  go_wp2
  go_end0
  exact ⟨rfl, rfP_mk v HT.out (H1.out.set 0 rfl 5 (.bool false))⟩

theorem rf_abort (H : St w0 w (rfoP r cnt log S T tk mk sp :: ps)) :
    Calls Tryz.prog 73 #[.pointer (some ⟨r, 0, none⟩)] w fun e w' => e = .returned (.tuple #[]) ∧ St w0 w' (rfP r cnt log S :: ps) := by
  obtain ⟨v, -, -, H1⟩ := rfoP_open H
  have c5 := (H1.obj 0 rfl).cell 5
  simp only [rfCells, List.getElem?_cons_succ, List.getElem?_cons_zero] at c5
  have f5 := (H1.obj 0 rfl).frozen 5
  have l0 := (H1.obj 0 rfl).lt
  have H1 := hid H1
  clear H
  go_enter Tryz.func73, Tryz.ntmps73
  go_wp2
  go_end0
  refine ⟨rfl, rfP_mk v ?_ (((((H1.out.set 0 rfl 5 (.bool false)).pull 2 rfl).drop.pull 2 rfl).drop.pull 2 rfl).drop.pull 2 rfl).drop⟩
  obtain ⟨a, c, h, -, -⟩ := (H1.out.sl 5 rfl).shape
  exact ⟨a, cnt + 1, c, h⟩

end
end Go.Proofs.YtnffnpndnaofhaaGreatDoor
