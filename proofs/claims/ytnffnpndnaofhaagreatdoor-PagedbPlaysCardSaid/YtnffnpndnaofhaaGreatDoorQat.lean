/- Parts of the proof: A database of pages (layer 10): Open; conditions stand in the theorems. -/
import Derived.Test.YtnffnpndnaofhaaGreatDoorQas
import Derived.Test.YtnffnpndnaofhaaGreatDoorQao
import Derived.Test.YtnffnpndnaofhaaGreatDoorQaq
import Derived.Test.YtnffnpndnaofhaaGreatDoorIter

/- A database of pages (layer 10): Open; conditions stand in the theorems. -/
namespace Go.Proofs.YtnffnpndnaofhaaGreatDoor
open Go.RowKit
set_option maxRecDepth 100000

abbrev Ent := Nat × List UInt8

def redoAll (log : Nat) : List (List Ent) → Dk → Int × Dk
  | [], σ => (0, σ)
  | es :: rs, σ => if (redoB log es σ).1 = 0 then redoAll log rs (redoB log es σ).2 else redoB log es σ

theorem redoB_pend (log : Nat) : ∀ (es : List Ent) (σ : Dk), (redoB log es σ).2.pend.length ≤ σ.pend.length + 9 * es.length
  | [], σ => by simp [redoB]
  | e :: es, σ => by
    have h1 := layN_pend (log + 8 * e.1 - 1) e.2 9 0 σ
    have h2 := redoB_pend log es (layN (log + 8 * e.1 - 1) e.2 9 0 σ).2
    unfold redoB
    simp only [List.length_cons]
    split
    · omega
    · omega

theorem does_len (σ : Dk) : σ.does.2.kept.length = σ.kept.length := by rw [(Dk.does_kept σ).1]

theorem write_len (σ : Dk) (i : Int) (s : List UInt8) : (σ.write i s).2.kept.length = σ.kept.length := by
  unfold Dk.write
  split
  · rfl
  split
  · split
    · rfl
    split
    · exact does_len σ
    · exact does_len σ
  · rfl

theorem layN_len (base : Nat) (all : List UInt8) : ∀ (f k : Nat) (σ : Dk), (layN base all f k σ).2.kept.length = σ.kept.length
  | 0, _, _ => rfl
  | f + 1, k, σ => by
    unfold layN
    split
    · split
      · rw [layN_len base all f, write_len]
      · exact write_len _ _ _
    · rfl

theorem redoB_len (log : Nat) : ∀ (es : List Ent) (σ : Dk), (redoB log es σ).2.kept.length = σ.kept.length
  | [], σ => rfl
  | e :: es, σ => by
    unfold redoB
    split
    · rw [redoB_len log es, layN_len]
    · rw [layN_len]

/-- What can be redone: pages of the database, not too many. -/
structure Recs (log cnt : Nat) (rs : List (List Ent)) : Prop where
  ents : ∀ es ∈ rs, Ents log es ∧ (∀ e ∈ es, e.1 < cnt) ∧ es.length ≤ 127
  many : rs.length ≤ 50000

def metaOne : Meta := ⟨0, 0, 0, 0, 1, 0, 0⟩

/-- The state at the head of a round of Open. -/
structure OpenAt (w0 wr : World) (ps : List HP) (v : Value) (x d b log : Nat) (l : Lg) (rs : List (List Ent)) (R : Int × Dk) (N k M sz : Nat) : Prop where
  st : ∃ τ, St w0 wr (slP v 9 1 N (l.recs.map strV) :: objP x (dbCells d b log ⟨0, 0, 0, 0, 0, 0, 0⟩ (.pointer none) false) 62 :: diskP d τ :: logP b d l :: ps) ∧ redoAll log (rs.drop k) τ = R ∧ τ.pend.length ≤ M + 1143 * k ∧ τ.kept.length = sz

theorem build_db (w : World) (d b : Nat) (log : Int) :
    (Instr.build 62 #[(0, .pointer (some ⟨d, 0, none⟩)), (1, .pointer (some ⟨b, 0, none⟩)), (2, .int .i64 log)]).run Tryz.prog w =
      .ok (.agg #[.pointer (some ⟨d, 0, none⟩), .pointer (some ⟨b, 0, none⟩), .int .i64 log, .int .i64 0, .int .i64 0, .int .i64 0, .int .i64 0, .int .i64 0, .int .i64 0, .int .i64 0, .pointer none, .bool false]) w := by kernel_rfl

theorem zeroPg_length : zeroPg.length = 512 := by simp [zeroPg]

set_option maxHeartbeats 8000000 in
theorem pd_open {w0 w : World} {ps : List HP} {d : Nat} {σ : Dk} (hh : HalfAt w0) (H : St w0 w (diskP d σ :: ps)) (log cnt : Nat) (l : Lg) (rs : List (List Ent)) (m : Meta) (hop : openLg σ 0 (log : Int) = (0, some l)) (hrec : l.recs = rs.map recB)
    (hcnt : cnt = (σ.kept.length - log) / 8) (hlog : log ≤ σ.kept.length) (h1 : 1 ≤ log) (h4 : 4 ≤ cnt) (hR : Recs log cnt rs) (hroom : σ.pend.length ≤ 100000000) (hm : m.Ok) (hhi : 1 ≤ m.high) (hhc : m.high ≤ cnt)
    (hfin : (redoAll log rs σ).1 = 0 → (settleB l (redoAll log rs σ).2).1 = 0 → (settleB l (redoAll log rs σ).2).2.2.down = false ∧ (settleB l (redoAll log rs σ).2).2.2.kept.length = σ.kept.length ∧
      ((sectorsB (settleB l (redoAll log rs σ).2).2.2 log 8 = zeroPg ∧ m = metaOne) ∨ sectorsB (settleB l (redoAll log rs σ).2).2.2 log 8 = pageB 0 1 (metaB m))) :
    Calls Tryz.prog 11 #[.pointer (some ⟨d, 0, none⟩), .int .i64 (log : Int)] w fun e w' =>
      if (redoAll log rs σ).1 = 0 then
        (if (settleB l (redoAll log rs σ).2).1 = 0 then ∃ x b, e = .returned (.tuple #[.pointer (some ⟨x, 0, none⟩), .int .i64 0]) ∧
            St w0 w' (objP x (dbCells d b log m (.pointer none) false) 62 :: logP b d (settleB l (redoAll log rs σ).2).2.1 :: diskP d (settleB l (redoAll log rs σ).2).2.2 :: ps)
          else e = .returned (.tuple #[.pointer none, .int .i64 (settleB l (redoAll log rs σ).2).1]) ∧ St w0 w' (diskP d (settleB l (redoAll log rs σ).2).2.2 :: ps))
      else e = .returned (.tuple #[.pointer none, .int .i64 (redoAll log rs σ).1]) ∧ St w0 w' (diskP d (redoAll log rs σ).2 :: ps) := by
  have ok := sd_ok H
  have hmost := ok.most
  have hwo := wal_open hh H 0 (log : Int) (by omega) (by omega) (by omega) (by omega)
  rw [hop] at hwo
  obtain ⟨R, hRd⟩ : ∃ R, Hid (redoAll log rs σ = R) := ⟨_, hid rfl⟩
  rw [hRd.out] at hfin ⊢
  obtain ⟨S, hSd⟩ : ∃ S, Hid (settleB l R.2 = S) := ⟨_, hid rfl⟩
  rw [hSd.out] at hfin ⊢
  obtain ⟨Re, Rd⟩ := R
  obtain ⟨Se, Sl, Sd⟩ := S
  simp only [] at hfin ⊢
  obtain ⟨Post, hPost⟩ : ∃ Post : Ending → World → Prop, Hid (Post = fun e w' => if Re = 0 then
        (if Se = 0 then ∃ x b, e = .returned (.tuple #[.pointer (some ⟨x, 0, none⟩), .int .i64 0]) ∧
            St w0 w' (objP x (dbCells d b log m (.pointer none) false) 62 :: logP b d Sl :: diskP d Sd :: ps)
          else e = .returned (.tuple #[.pointer none, .int .i64 Se]) ∧ St w0 w' (diskP d Sd :: ps))
      else e = .returned (.tuple #[.pointer none, .int .i64 Re]) ∧ St w0 w' (diskP d Rd :: ps)) := ⟨_, hid rfl⟩
  rw [← hPost.out]
  obtain ⟨sz, hsz⟩ : ∃ sz, σ.kept.length = sz := ⟨_, rfl⟩
  obtain ⟨N, hN⟩ : ∃ N, rs.length = N := ⟨_, rfl⟩
  have HF := hid hfin
  have HX := hid (And.intro hrec (And.intro hcnt (And.intro hlog (And.intro hR (And.intro hm (And.intro hhi (And.intro hhc hN)))))))
  obtain ⟨M, hM⟩ : ∃ M, Hid (σ.pend.length = M) := ⟨_, hid rfl⟩
  rw [hM.out] at hroom
  have hNm := hR.many
  rw [hN] at hNm
  have h4' : decide ((cnt : Int) < 4) = false := decide_eq_false (by omega)
  have hrl : l.recs.length = N := by rw [hrec, List.length_map, hN]
  clear H hop hfin hrec hcnt hlog hR hm hhi hhc hN ok
  go_enter Tryz.func11, Tryz.ntmps11
  go_upto_region 4 with (go_at_call 41; refine hwo.mono ?_; rintro e w1 ⟨b, rfl, H1⟩)
  have H1 := hid (H1.pull 1 rfl)
  clear hwo
  go_upto_region 5 with ((with_reducible refine at_build ?_); refine wpL_build rfl 62 _ rfl _ (by exact build_db _ _ _ _) ?_)
  have H2 := hid (H1.out.alloc (dbCells d b log ⟨0, 0, 0, 0, 0, 0, 0⟩ (.pointer none) false) 62)
  simp only [dbCells, Int.natCast_zero] at H2
  generalize (w1.alloc _) = w2 at *
  generalize w1.heap.size = x at *
  have H2 := hid (show St w0 w2 (objP x (dbCells d b log ⟨0, 0, 0, 0, 0, 0, 0⟩ (.pointer none) false) 62 :: diskP d σ :: logP b d l :: ps) from H2.out)
  clear H1
  have hcn := pd_count H2.out (by have := HX.out.2.2.1; omega)
  rw [← HX.out.2.1] at hcn
  go_upto_region 7 with (go_at_call 24; refine hcn.mono ?_; rintro e w3 ⟨rfl, P3⟩)
  have H3 := hid (H2.out.quiet P3)
  clear hcn P3 H2
  have hrec := log_records (H3.out.pull 2 rfl)
  rw [hrl] at hrec
  go_upto_region 8 with (go_at_call 42; refine hrec.mono ?_; rintro e w4 ⟨v, rfl, H4, -⟩; obtain ⟨av, cv, rfl, -, -⟩ := (H4.sl 0 rfl).shape)
  have HM := hid (show OpenAt w0 w4 ps (.slice av N cv) x d b log l rs (Re, Rd) N 0 M sz from ⟨σ, by exact ((H4.pull 3 rfl).pull 3 rfl).pull 2 rfl, hRd.out, by rw [hM.out]; omega, hsz⟩)
  clear hrec H3 H4
  go_wp2
  go_loopw [38] (fun iv wr => ∃ k : Nat, k ≤ N ∧ iv = .int .i64 (k : Int) ∧ OpenAt w0 wr ps (.slice av N cv) x d b log l rs (Re, Rd) N k M sz) (fun iv _ => N - (intOf iv).toNat)
  case atStart => exact ⟨0, Nat.zero_le _, rfl, HM.out⟩
  case round =>
    obtain ⟨k, hk, rfl, ⟨τ, hS, hRk, hp, hlen⟩⟩ := hrel
    clear HM
    have HS := hid hS
    clear hS
    by_cases hlt : k < N
    · have hlt' : (k : Int) < (N : Int) := by omega
      obtain ⟨es, hes⟩ : ∃ es, rs[k]? = some es := ⟨_, List.getElem?_eq_getElem (by have := HX.out.2.2.2.2.2.2.2; omega)⟩
      obtain ⟨he1, he2, he3⟩ := HX.out.2.2.2.1.ents es (List.mem_of_getElem? hes)
      obtain ⟨g, cg, cur, e1, -⟩ := (HS.out.sl 0 rfl).get (by omega)
      simp only [Value.slice.injEq] at e1
      obtain ⟨rfl, -, rfl⟩ := e1
      have ck : wr.cell? ⟨g, k, none⟩ = some (strV (recB es)) := sl_cells (HS.out.sl 0 rfl) (by rw [HX.out.1, List.map_map, List.getElem?_map, hes]; rfl)
      obtain ⟨z, hz, ez, -⟩ := str_z (recB es)
      rw [ez] at ck
      have hzl : z.data.toList = recB es := by rw [hz.out, ba_mk]
      have H1 := hid (HS.out.pull 2 rfl |>.pull 2 rfl)
      have hcl : cnt = (τ.kept.length - log) / 8 := by rw [hlen, ← hsz]; exact HX.out.2.1
      have hso := pd_sound H1.out z es hzl he1 (fun e he => by rw [← hcl]; exact he2 e he) (by omega) (by have := HX.out.2.2.1; omega)
      have hpr := redoB_pend log es τ
      have hle := redoB_len log es τ
      have hdk : rs.drop k = es :: rs.drop (k + 1) := by
        have hke : k < rs.length := (List.getElem?_eq_some_iff.1 hes).1
        rw [List.drop_eq_getElem_cons hke]
        rw [List.getElem?_eq_getElem hke] at hes
        rw [Option.some.inj hes]
      rw [hdk, redoAll] at hRk
      have hrd := fun W (h : St w0 W _) => pd_redo (w := W) (H := (show St w0 W (objP x (dbCells d b log ⟨0, 0, 0, 0, 0, 0, 0⟩ (.pointer none) false) 62 :: diskP d τ :: slP (.slice (some ⟨g, 0, none⟩) N cv) 9 1 N (l.recs.map strV) :: logP b d l :: ps) from h)) z es hzl he1 (by omega) h1 (by omega)
      generalize redoB log es τ = q at *
      obtain ⟨qe, τ2⟩ := q
      simp only [] at hRk hpr hle hrd
      have HN := hid (And.intro hRk (And.intro hpr (And.intro hle hlen)))
      clear hRk hpr hle hlen hdk hcl hzl hz ez hes he1 he2
      go_upto_region 12 with (go_at_call 43; refine hso.mono ?_; rintro e w5 ⟨rfl, P5⟩)
      have H5 := hid (H1.out.quiet P5)
      clear H1 HS P5 hso
      go_upto_region 13 with (go_at_call 44; refine (hrd _ H5.out).mono ?_; rintro e w6 ⟨rfl, H6⟩)
      have H6 := hid (H6.pull 2 rfl)
      clear H5 hrd
      by_cases h0 : qe = 0
      · subst h0
        go_wp2
        go_roundw
        case rel =>
          obtain ⟨hst, hpp, hll, hlen⟩ := HN.out
          exact ⟨k + 1, by omega, by go_num, ⟨τ2, H6.out, by simpa using hst, by omega, by omega⟩⟩
        case measure => first | (simp [intOf]; done) | (simp [intOf]; omega)
      · have hb0 : (qe != 0) = true := by simpa using h0
        have HN0 := hid h0
        clear h0
        go_wp2
        obtain ⟨hst, -⟩ := HN.out
        rw [if_neg HN0.out] at hst
        simp only [Prod.mk.injEq] at hst
        obtain ⟨rfl, rfl⟩ := hst
        rw [hPost.out]
        simp only [if_neg HN0.out]
        exact ⟨rfl, H6.out.drop.drop.pull 1 rfl |>.drop⟩
    · obtain rfl : k = N := by omega
      have hend : ¬ (k : Int) < (k : Int) := by omega
      rw [List.drop_eq_nil_of_le (by have := HX.out.2.2.2.2.2.2.2; omega), redoAll] at hRk
      simp only [Prod.mk.injEq] at hRk
      obtain ⟨rfl, rfl⟩ := hRk
      have hst := pd_settle hh (HS.out.drop.pull 2 rfl |>.pull 1 rfl) (by omega)
      rw [hSd.out] at hst
      simp only [] at hst
      go_upto_region 17 with (go_at_call 45; refine hst.mono ?_; rintro e w5 ⟨rfl, H5⟩)
      have H5 := hid H5
      clear hst HS
      by_cases h0 : Se = 0
      · subst h0
        obtain ⟨f1, f2, f3⟩ := HF.out (by first | trivial | rfl) (by first | trivial | rfl)
        have him := pd_image (H5.out.pull 2 rfl |>.pull 1 rfl) 0 f1 (by rw [f2]; have := HX.out.2.1; have := HX.out.2.2.1; omega)
        rw [Nat.mul_zero, Nat.add_zero] at him
        obtain ⟨z, hz, ez, -⟩ := str_z (sectorsB Sd log 8)
        rw [ez] at him
        have hzl : z.data.toList = sectorsB Sd log 8 := by rw [hz.out, ba_mk]
        go_upto_region 22 with (go_at_call 46; refine him.mono ?_; rintro e w6 ⟨rfl, H6, -⟩)
        have H6 := hid H6
        clear him H5
        have hz512 : z.size = 512 := by
          rw [ba_size, hzl]
          rcases f3 with ⟨e, -⟩ | e
          · rw [e, zeroPg_length]
          · rw [e, length_pageB (by rw [length_metaB]; omega)]
        rcases f3 with ⟨e3, em⟩ | e3
        · have hbl := pg_blank z w6 hz512 true (by simp only [if_true]; rw [hzl, e3])
          have HE := hid em
          clear hzl hz ez e3 em
          go_upto_region 23 with (go_at_call 47; refine hbl.mono ?_; rintro e w7 ⟨rfl, P7⟩)
          have H7 := hid (H6.out.quiet P7)
          clear H6 P7 hbl
          have c7 := (H7.out.obj 0 rfl).cell 7
          have f7 := (H7.out.obj 0 rfl).frozen 7
          have hxl := (H7.out.obj 0 rfl).lt
          simp only [dbCells, List.getElem?_cons_succ, List.getElem?_cons_zero] at c7
          go_wp2
          rw [hPost.out]
          simp only [if_true]
          refine ⟨x, b, rfl, ?_⟩
          have h8 := (H7.out.setT 7 (.int .i64 1)).pull 2 rfl |>.pull 1 rfl
          rw [HE.out]
          exact h8
        · have hbl := pg_blank z w6 hz512 false (by
            simp only [Bool.false_eq_true, if_false]
            rw [hzl, e3]
            exact pageB_nonzero (by omega) (by omega))
          have hpo := fun W (hW : HalfAt W) => pg_open W hW 0 1 (metaB m) z (by rw [hzl, e3]) (by omega) (by omega) (by omega) (by rw [length_metaB]; omega)
          obtain ⟨zb, hzb, ezb, -⟩ := str_z (metaB m)
          rw [ezb] at hpo
          have hpa := fun W => pd_parse W m HX.out.2.2.2.2.1 HX.out.2.2.2.2.2.1 zb (by rw [hzb.out, ba_mk])
          obtain ⟨⟨r0, r1, r2, r3, high, free, count⟩, hmm⟩ : ∃ mm, Hid (m = mm) := ⟨_, hid rfl⟩
          rw [hmm.out] at hpa
          simp only [Meta.cells] at hpa
          have hhc : high ≤ cnt := by have := HX.out.2.2.2.2.2.2.1; rw [hmm.out] at this; exact this
          have hcmp : decide ((cnt : Int) < (high : Int)) = false := decide_eq_false (by omega)
          clear hzl hz ez e3 ezb hzb
          go_upto_region 25 with (go_at_call 47; refine hbl.mono ?_; rintro e w7 ⟨rfl, P7⟩)
          have H7 := hid (H6.out.quiet P7)
          clear H6 P7 hbl
          have hpo' := hpo w7 (hh.pres H7.out.pres)
          go_upto_region 28 with (go_at_call 48; refine hpo'.mono ?_; rintro e w8 ⟨rfl, P8⟩)
          have H8 := hid (H7.out.quiet P8)
          clear H7 P8 hpo hpo'
          go_upto_region 29 with (go_at_call 49; refine (hpa _).mono ?_; rintro e w9 ⟨rfl, P9⟩)
          have H9 := hid (H8.out.quiet P9)
          clear H8 P9 hpa
          refine wp_stages (by kernel_rfl) ?_
          have HA := hid ((H9.out.alloc [.int .i64 (r0 : Int), .int .i64 (r1 : Int), .int .i64 (r2 : Int), .int .i64 (r3 : Int), .int .i64 (high : Int), .int .i64 (free : Int), .int .i64 (count : Int)] 60).drew)
          clear H9
          generalize (w9.alloc (.cells #[.int .i64 (r0 : Int), .int .i64 (r1 : Int), .int .i64 (r2 : Int), .int .i64 (r3 : Int), .int .i64 (high : Int), .int .i64 (free : Int), .int .i64 (count : Int)] 60)).drew = wa at *
          generalize w9.heap.size = q at *
          have S0 : wa.cell? ⟨q, 4, none⟩ = some (.int .i64 (high : Int)) := (HA.out.obj 0 rfl).cell 4
          have hcn := fun W (h : St w0 W _) => pd_count (w := W) (H := (show St w0 W (objP x (dbCells d b log ⟨0, 0, 0, 0, 0, 0, 0⟩ (.pointer none) false) 62 :: diskP d Sd :: objP q [.int .i64 (r0 : Int), .int .i64 (r1 : Int), .int .i64 (r2 : Int), .int .i64 (r3 : Int), .int .i64 (high : Int), .int .i64 (free : Int), .int .i64 (count : Int)] 60 :: logP b d Sl :: ps) from h)) (by rw [f2]; exact HX.out.2.2.1)
          rw [f2, ← HX.out.2.1] at hcn
          refine wp_stage (fun W => W.cell? ⟨q, 4, none⟩ = some (.int .i64 (high : Int))) [(0, true), (1, true), (2, true), (3, true), (4, true), (5, true), (6, true), (7, true), (8, true), (9, true), (10, false)] 2 rfl (by kernel_rfl) (by intro c a dd v w h; cases dd <;> exact h) (S0) ?_
          iterate 10 (refine wpOrd_readw (v := _) rfl rfl (by intro w' hS; have s1 := hS; clear hS; go_simp; rfl) ?_; (try simp only [Act.put, List.setIfInBounds_toArray, List.set_cons_succ, List.set_cons_zero, List.getElem_toArray, List.getElem_cons_succ, List.getElem_cons_zero]))
          refine wpOrd_dow rfl rfl (fun K hK => ?_)
          go_simp
          refine (hcn _ (HA.out.pull 2 rfl |>.pull 2 rfl)).mono ?_
          rintro e w10 ⟨rfl, P10⟩
          have HB := hid (HA.out.quiet P10)
          refine hK _ _ ⟨P10.cell S0 (by simp), ?_⟩
          clear hK K
          (try simp only [Act.put, List.setIfInBounds_toArray, List.set_cons_succ, List.set_cons_zero, List.getElem_toArray, List.getElem_cons_succ, List.getElem_cons_zero])
          refine wpOrd_end ?_
          refine wp_stages_end 11 (by rfl) (by kernel_rfl) ?_
          simp only [List.drop_succ_cons, List.drop_zero]
          clear S0 HA hcn P10
          go_wp2_with (first
            | ((with_reducible refine at_load ?_); refine wpL_load rfl 60 (.tmp 16) rfl q 0 7 rfl _ _ (HB.out.obj 0 rfl) meta_agg meta_size (by simp) ?_; simp only [List.drop_zero, List.take_succ_cons, List.take_zero])
            | ((with_reducible refine at_store ?_); refine wpL_store rfl 60 (.tmp 103) (.tmp 101) rfl x 3 7 rfl _ rfl _ _ (HB.out.obj 1 rfl) meta_size rfl (by simp [dbCells]) (meta_one ⟨r0, r1, r2, r3, high, free, count⟩) ?_; intro w5 A5 P5 S5; have HC := hid (HB.out.put 1 rfl A5 P5)))
          rw [hPost.out]
          simp only [if_true]
          refine ⟨x, b, rfl, ?_⟩
          rw [hmm.out]
          exact (HC.out.drop.pull 2 rfl).pull 1 rfl |>.pull 0 rfl
      · have hb0 : (Se != 0) = true := by simpa using h0
        have HN0 := hid h0
        clear h0
        go_wp2
        rw [hPost.out]
        simp only [if_neg HN0.out, if_true]
        exact ⟨rfl, H5.out.drop.drop⟩

end Go.Proofs.YtnffnpndnaofhaaGreatDoor

/- slices.Sorted(maps.Keys(m)) at a map of int keys whose elements are texts: the keys, sorted; conditions stand in the theorems. -/
namespace Go.Proofs.YtnffnpndnaofhaaGreatDoor
open Go.RowKit Go.Maps Go.Sort Go.Shelf
set_option maxRecDepth 100000

theorem sortsA (m : Nat) : AnyZI.SortsIn Tryz.prog Tryz.sortedA_ren Fence.wide m :=
  ⟨fun blk off cap ss W hH hblk hsz => callsIn_wide.2 (AnyM.slices_Sort_int Tryz.sortA blk off cap ss W hH hblk hsz),
   fun p cap W => callsIn_wide.2 (AnyM.slices_Sort_int_none Tryz.sortA p cap W)⟩

theorem keys_call (mb : Option Nat) (w : World) :
    Calls Tryz.prog 92 #[.map mb] w fun e w' => e = .returned (.func (.func 124) #[] #[.pointer (some ⟨w.heap.size, 0, none⟩)]) ∧ w' = w.alloc (.cells #[.map mb] 104) :=
  (callsIn_wide (n := 6)).1 (AnyZI.keys_in Tryz.keys0 Fence.wide 6 trivial rfl mb w)

theorem isKey_of_int {k : Nat} : Lit.sameKey (.int .i64 (k : Int)) (.int .i64 (k : Int)) = true := WideAt.sameKey_self (isKeyLit_int _)

/-- The keys that come are those of the map, in some order. -/
theorem intKeys_perm {α : Type} {dat : α → DU} {w : World} {R : Rdr} {mb n : Nat} {D : DU} {M : Nat → Option α} {ks : List Nat} (h : w.ownsMap Tryz.prog 3 R mb n D) (hi : MapIs dat D M ks) :
    (intKeys D).Perm (ks.map fun k : Nat => (k : Int)) := by
  obtain ⟨es, rfl, hp, hk⟩ := h.entries int_key
  have hsz : es.length = ks.length := hi.size
  have hint : ∀ p ∈ es, ∃ k ∈ ks, p.1 = .int .i64 (k : Int) := by
    intro p hpm
    exact hi.keys p.1 (List.any_eq_true.2 ⟨p, hpm, WideAt.sameKey_self (hk p hpm)⟩)
  have hnd : (intKeys (.map es : DU)).Nodup := by
    show (es.map fun p => _root_.Go.intOf p.1).Nodup
    rw [List.Nodup, List.pairwise_map]
    refine List.Pairwise.imp_of_mem ?_ hp
    intro a b ha hb hab e
    obtain ⟨i, -, ei⟩ := hint a ha
    obtain ⟨j, -, ej⟩ := hint b hb
    rw [ei, ej] at e hab
    exact hab (by rw [show (i : Int) = (j : Int) from e])
  have hnk : (ks.map fun k : Nat => (k : Int)).Nodup := by
    rw [List.Nodup, List.pairwise_map]
    exact hi.nodup.imp (fun h e => h (by omega))
  refine (List.perm_ext_iff_of_nodup hnd hnk).2 (fun a => ?_)
  constructor
  · intro ha
    obtain ⟨p, hpm, rfl⟩ := List.mem_map.1 ha
    obtain ⟨k, hkm, e⟩ := hint p hpm
    exact List.mem_map.2 ⟨k, hkm, by rw [e]; rfl⟩
  · intro ha
    obtain ⟨k, hkm, rfl⟩ := List.mem_map.1 ha
    have hM := (hi.mem k).1 hkm
    obtain ⟨v, hv⟩ := Option.ne_none_iff_exists'.1 hM
    have hh := (hi.there k v hv).1
    obtain ⟨p, hpm, hps⟩ := List.any_eq_true.1 hh
    refine List.mem_map.2 ⟨p, hpm, ?_⟩
    rw [WideAt.sameKey_eq hps]
    rfl

theorem Sl_of_ownsRow {w : World} {base : Nat} {E : TypeId} {sz : Nat} {v : Value} {n : Nat} {xs : List Value} (h : w.ownsRow base E sz v n xs) : Sl w E sz v n xs := by
  obtain ⟨h1, h2⟩ := h
  refine ⟨h1, ?_⟩
  rcases h2 with h2 | ⟨g, cap, cur, rfl, -, hg, h3, h4, h5, h6⟩
  · exact .inl h2
  · exact .inr ⟨g, cap, cur.toList, rfl, by simpa [At] using hg, h3, h4, by simpa using h5, h6⟩

theorem ownsRow_base {w : World} {base : Nat} {E : TypeId} {sz : Nat} {v : Value} {n : Nat} {xs : List Value} (h : w.ownsRow base E sz v n xs) : ∀ k ∈ fpv v, base ≤ k := by
  rcases h.2 with ⟨rfl, -⟩ | ⟨g, cap, cur, rfl, hb, -⟩
  · intro k hk; simp [fpv] at hk
  · intro k hk; simp [fpv] at hk; omega

set_option maxHeartbeats 1000000 in
/-- slices.Sorted(maps.Keys(m)), the second call: bm is the block that the first one has made. -/
theorem sorted_call {w0 w : World} {ps : List HP} {α : Type} {R : Rdr} {dat : α → DU} {mb : Nat} {M : Nat → Option α} {ks : List Nat} (H : St w0 w (mapP R dat mb M ks :: ps)) (bm : Nat) (hbm : bm < w.heap.size) (hc : w.cell? ⟨bm, 0, none⟩ = some (.map (some mb))) (hks : ks.length ≤ 1000000) :
    Calls Tryz.prog 91 #[.func (.func 124) #[] #[.pointer (some ⟨bm, 0, none⟩)]] w fun e w' => ∃ (v : Value) (ss : List Nat), e = .returned v ∧ ss.Perm ks ∧ St w0 w' (slP v 3 1 ks.length (ss.map fun k : Nat => Value.int .i64 (k : Int)) :: mapP R dat mb M ks :: ps) := by
  obtain ⟨D, hown, hi⟩ := H.map 0 rfl
  refine (callsIn_wide (n := 6)).1 ?_
  have hseq : SeqGives Fence.wide 3 Tryz.prog 124 #[.pointer (some ⟨bm, 0, none⟩)] encZ (fun ss => ss.Perm (intKeys D)) (Maps.size D) w :=
    AnyZI.keys_gives (ρ := Tryz.keys0_ren) { Tryz.keys0 with } Fence.wide _ trivial rfl (by omega) bm mb ks.length D w hbm hc hown
  have cS := AnyZI.sorted_in Tryz.sortedA Fence.wide 6 trivial trivial trivial trivial rfl (by omega) (sortsA _) (enters_of Tryz.func123 (by kernel_rfl) rfl) 124 #[.pointer (some ⟨bm, 0, none⟩)] trivial (enters_of Tryz.func124 (by kernel_rfl) rfl) _ _ (by rw [hi.size]; unfold maxLen; omega) (by rw [hi.size]; omega) _ hseq
  refine cS.mono ?_
  rintro e w' ⟨v, ss, rfl, hperm, hrow, -, hb⟩
  have hpk := (hperm.trans (intKeys_perm hown hi))
  have hpm := (List.mergeSort_perm ss (fun x y => decide (x ≤ y))).trans hpk
  obtain ⟨ns, hns, hmap⟩ : ∃ ns : List Nat, ns.Perm ks ∧ ss.mergeSort (fun x y => decide (x ≤ y)) = ns.map (fun k : Nat => (k : Int)) := by
    refine ⟨(ss.mergeSort (fun x y => decide (x ≤ y))).map Int.toNat, ?_, ?_⟩
    · have := hpm.map Int.toNat
      rw [List.map_map, show (Int.toNat ∘ fun k : Nat => (k : Int)) = id from funext fun k => Int.toNat_natCast k, List.map_id] at this
      exact this
    · rw [List.map_map]
      have : ∀ a ∈ ss.mergeSort (fun x y => decide (x ≤ y)), ((fun k : Nat => (k : Int)) ∘ Int.toNat) a = a := by
        intro a ha
        obtain ⟨k, -, rfl⟩ := List.mem_map.1 (hpm.mem_iff.1 ha)
        simp
      rw [List.map_congr_left this]
      simp
  have hl : ns.length = ss.length := by
    have := congrArg List.length hmap
    rw [List.length_mergeSort, List.length_map] at this
    exact this.symm
  rw [hmap, List.map_map, ← hl] at hrow
  have hp : Pres [] w w' := ⟨hb.os, hb.tape, hb.output, hb.size, fun k hk _ => hb.block k hk⟩
  rw [hns.length_eq] at hrow
  exact ⟨v, ns, rfl, hns, H.slice (Sl_of_ownsRow hrow) hp (ownsRow_base hrow)⟩

end Go.Proofs.YtnffnpndnaofhaaGreatDoor

/- A map of leaves that is being ranged over, as a piece of memory; conditions stand in the theorems. -/
namespace Go.Proofs.YtnffnpndnaofhaaGreatDoor
open Go.RowKit
set_option maxRecDepth 100000

/-- A range under way: block rb is the iterator. -/
def rangeP {α : Type} (R : Rdr) (dat : α → DU) (mb rb : Nat) (M : Nat → Option α) (ks : List Nat) (left : Lit → Bool) (cnt : Nat) : HP where
  at' w fp := fp = [mb, rb] ∧ ∃ D n, w.ranges Tryz.prog 3 R mb rb n D left cnt ∧ MapIs dat D M ks
  lt := by
    rintro w fp ⟨rfl, D, n, h, -⟩ k hk
    simp only [List.mem_cons, List.not_mem_nil, or_false] at hk
    rcases hk with rfl | rfl
    · exact h.owns.lt
    · exact h.lt
  keep := by
    rintro w w' fp ⟨rfl, D, n, ⟨es, clock, since, seen, c0, hb, F, hs, hD, hr, h1, h2, h3, h4, h5, h6⟩, hi⟩ hk
    exact ⟨rfl, D, n, ⟨es, clock, since, seen, c0, (hk mb (by simp)).trans hb, F, hs, hD, (hk rb (by simp)).trans hr, h1, h2, h3, h4, h5, h6⟩, hi⟩

/-- A piece is forgotten in part. -/
theorem St.less {w0 w : World} {p q : HP} {ps : List HP} (H : St w0 w (p :: ps)) (h : ∀ fp, p.at' w fp → ∃ fq, q.at' w fq ∧ ∀ k ∈ fq, k ∈ fp) : St w0 w (q :: ps) := by
  obtain ⟨fp, ⟨f, g, rfl, hp, hs, hd⟩, hb⟩ := H.sep
  obtain ⟨fq, hq, hsub⟩ := h f hp
  refine ⟨H.pres, fq ++ g, ⟨fq, g, rfl, hq, hs, fun k hk hm => hd k (hsub k hk) hm⟩, fun k hk => ?_⟩
  rcases List.mem_append.1 hk with h | h
  · exact hb k (List.mem_append_left _ (hsub k h))
  · exact hb k (List.mem_append_right _ h)

section
variable {α : Type} {R : Rdr} {dat : α → DU} {w0 w : World} {ps : List HP} {mb rb : Nat} {M : Nat → Option α} {ks : List Nat} {left : Lit → Bool} {cnt : Nat}

theorem St.rangeDone (H : St w0 w (rangeP R dat mb rb M ks left cnt :: ps)) : St w0 w (mapP R dat mb M ks :: ps) :=
  H.less (by rintro fp ⟨rfl, D, n, h, hi⟩; exact ⟨[mb], ⟨rfl, D, n, h.owns, hi⟩, by simp⟩)

theorem St.rangeLeft (H : St w0 w (rangeP R dat mb rb M ks left cnt :: ps)) : w.rangeLeft mb rb = cnt := by
  obtain ⟨f, ⟨-, D, n, h, -⟩, -⟩ := H.get 0 rfl
  exact h.left_eq

theorem wpL_range {P : Program} {ops : Array Oper} {rest : List Oper} {o : Oper} {a : Act} {Q : Exit → Act → World → Prop} (hP : P = Tryz.prog) (hg : o.guard = none) (m : Operand) (t e : TypeId) (hop : o.op = Op.range t m) (ht : Tryz.prog.underlying t = some (.map 3 e))
    (hm : a.eval m = .map (some mb)) (H : St w0 w (mapP R dat mb M ks :: ps))
    (hK : ∀ w' rb left, St w0 w' (rangeP R dat mb rb M ks left ks.length :: ps) → (∀ k : Nat, left (.int .i64 (k : Int)) = (M k).isSome) → wpList P ops Q rest (a.put o.dst (.pointer (some ⟨rb, 0, none⟩))) w') : wpList P ops Q (o :: rest) a w := by
  subst hP
  obtain ⟨f, ⟨rfl, D, n, h, hi⟩, -, h2⟩ := H.turn 0 rfl
  refine wpList_range_own w hg m t hop 3 e int_key ht R mb n D hm h (fun w' hr hgr hsz => ?_)
  refine hK w' w.heap.size (Maps.has D) ?_ (fun k => hi.has_iff k)
  rw [hi.size] at hr
  exact h2 (rangeP R dat mb w.heap.size M ks (Maps.has D) ks.length) w' ⟨[mb, w.heap.size], ⟨rfl, D, n, hr, hi⟩, Pres.of_grown hgr (by simp), fun k hk => by
    simp only [List.mem_cons, List.not_mem_nil, or_false] at hk
    rcases hk with rfl | rfl
    · exact .inl (by simp)
    · exact .inr (Nat.le_refl _)⟩

theorem at_next' {P : Program} {ops : Array Oper} {rest : List Oper} {a : Act} {w : World} {Q : Exit → Act → World → Prop} {d : Option Tmp} {ty : TypeId} {pos : String} {af : Array Edge} {g : Option (Nat × Bool)} {x : Operand} {c : Bool} (h : wpList P ops Q (⟨d, .next x c, ty, pos, af, g⟩ :: rest) a w) : wpList P ops Q (⟨d, .next x c, ty, pos, af, g⟩ :: rest) a w := h
theorem at_range' {P : Program} {ops : Array Oper} {rest : List Oper} {a : Act} {w : World} {Q : Exit → Act → World → Prop} {d : Option Tmp} {ty : TypeId} {pos : String} {af : Array Edge} {g : Option (Nat × Bool)} {t : TypeId} {x : Operand} (h : wpList P ops Q (⟨d, .range t x, ty, pos, af, g⟩ :: rest) a w) : wpList P ops Q (⟨d, .range t x, ty, pos, af, g⟩ :: rest) a w := h
end

/-- The step of a range over leaves. -/
theorem wpL_next_leaf {w0 w : World} {ps : List HP} {mb rb : Nat} {M : Nat → Option Leaf} {ks : List Nat} {left : Lit → Bool} {cnt : Nat} {P : Program} {ops : Array Oper} {rest : List Oper} {o : Oper} {a : Act} {Q : Exit → Act → World → Prop} (hP : P = Tryz.prog) (hg : o.guard = none) (it : Operand) (hop : o.op = Op.next it false)
    (hit : a.eval it = .pointer (some ⟨rb, 0, none⟩)) (H : St w0 w (rangeP leafR leafD mb rb M ks left cnt :: ps))
    (hDone : cnt = 0 → (∀ kl, left kl = false) → wpList P ops Q rest (a.put o.dst (.tuple #[.bool false])) w)
    (hMore : ∀ (k : Nat) (p : Leaf) (w' : World) (cnt' : Nat), M k = some p → left (.int .i64 (k : Int)) = true → St w0 w' (rangeP leafR leafD mb rb M ks (fun z => left z && !z.sameKey (.int .i64 (k : Int))) cnt' :: ps) → cnt' < cnt →
      (Instr.entry (.pointer (some ⟨rb, 0, none⟩))).run P w' = .ok (.tuple #[.int .i64 (k : Int), leafV p]) w' → wpList P ops Q rest (a.put o.dst (.tuple #[.bool true, .int .i64 (k : Int), leafV p])) w') : wpList P ops Q (o :: rest) a w := by
  subst hP
  obtain ⟨f, ⟨rfl, D, n, h, hi⟩, -, h2⟩ := H.turn 0 rfl
  refine wpList_next_ranges w hg it hop 3 int_key leafR (Value.int .i64) (fun c : Int × ByteArray => .agg #[.int .i64 c.1, .string c.2])
    (fun key kl hk => by obtain ⟨x, rfl, -⟩ := Maps.keyOf_int_inv Tryz.underlying3 hk; exact ⟨x, rfl⟩) (fun v y hv => by obtain ⟨k, s, rfl, -⟩ := leafR_inv hv; exact ⟨(k, s), rfl⟩)
    mb rb n D left cnt hit h hDone ?_
  intro x c kl y w' cnt' hkey hlk hv hat hrg hlt hgr hsz hen
  obtain ⟨x', ex, rfl, -⟩ := Maps.keyOf_int_inv Tryz.underlying3 hkey
  obtain rfl : x = x' := by injection ex
  have hhas := Maps.has_true_of_atKey hat
  obtain ⟨k, hk, ek⟩ := hi.keys _ hhas
  obtain rfl : x = (k : Int) := by injection ek
  obtain ⟨p, hp⟩ := Option.ne_none_iff_exists'.1 ((hi.mem k).1 hk)
  have hy : y.1 = leafD p := by rw [← (hi.there k p hp).2 .nil]; exact (hat .nil).symm
  have ev : (Value.agg #[.int .i64 c.1, .string c.2]) = leafV p := leafR_eq (ps := y.2) (by rw [hv, ← hy])
  rw [ev] at hen ⊢
  exact hMore k p w' cnt' hp hlk (h2 _ w' ⟨[mb, rb], ⟨rfl, D, n, hrg, hi⟩, Pres.of_grown hgr (by simp), fun k hk => .inl hk⟩) hlt hen

end Go.Proofs.YtnffnpndnaofhaaGreatDoor
