/- Parts of the proof: A transaction (layer 10): Commit; conditions stand in the theorem. -/
import Derived.Test.YtnffnpndnaofhaaGreatDoorQav
import Derived.Test.YtnffnpndnaofhaaGreatDoorQag

/- A transaction (layer 10): Commit; conditions stand in the theorem. -/
namespace Go.Proofs.YtnffnpndnaofhaaGreatDoor
open Go.RowKit
set_option maxRecDepth 100000

structure CRes where
  e : Int
  m : Meta
  l : Lg
  σ : Dk
  lost : Bool

/-- The log is told the record, and it is kept; then the pages are laid. -/
def writeB (log : Nat) (m n : Meta) (es : List Ent) (l : Lg) (σ : Dk) : CRes :=
  if ((l.add (recB es)).2.sync σ).1 = 0 then ⟨(redoB log es ((l.add (recB es)).2.sync σ).2.2).1, n, ((l.add (recB es)).2.sync σ).2.1, (redoB log es ((l.add (recB es)).2.sync σ).2.2).2, (redoB log es ((l.add (recB es)).2.sync σ).2.2).1 != 0⟩
  else ⟨((l.add (recB es)).2.sync σ).1, m, ((l.add (recB es)).2.sync σ).2.1, ((l.add (recB es)).2.sync σ).2.2, true⟩

/-- What a commit comes to. -/
def commitB (log : Nat) (m n : Meta) (spoilt : Bool) (es : List Ent) (l : Lg) (σ : Dk) : CRes :=
  if spoilt then ⟨9, m, l, σ, false⟩
  else if es.length = 0 then ⟨0, m, l, σ, false⟩
  else if 4 + 516 * es.length > 65536 ∨ 4 + 516 * es.length + 8 > 64 * (log - 1) then ⟨7, m, l, σ, false⟩
  else if ((4 + 516 * es.length + 8 : Nat) : Int) > l.room then
    (if (settleB l σ).1 = 0 then writeB log m n es (settleB l σ).2.1 (settleB l σ).2.2 else ⟨(settleB l σ).1, m, (settleB l σ).2.1, (settleB l σ).2.2, true⟩)
  else writeB log m n es l σ

theorem settleB_pend (l : Lg) (σ : Dk) : (settleB l σ).2.2.pend.length ≤ σ.pend.length + 1 := by
  unfold settleB
  split
  · simp
  · split
    · have h1 := Lg.reset_pend l σ.flush.2
      have h2 := Dk.flush_pend σ
      omega
    · have h2 := Dk.flush_pend σ
      simp only []
      omega

/-- The state where a commit's pieces are at hand. -/
def ComPs (t x d b log mb ib : Nat) (m n : Meta) (marked spoilt lost : Bool) (l : Lg) (σ : Dk) (M : Nat → Option Leaf) (I : Nat → Option (List UInt8)) (ks is : List Nat) (ps : List HP) : List HP :=
  objP x (dbCells d b log m (.pointer none) lost) 62 :: logP b d l :: diskP d σ :: objP t (txCells x n (.map (some mb)) marked spoilt) 67 :: mapP textR textD ib I is :: mapP leafR leafD mb M ks :: ps

section
variable {w0 w : World} {ps : List HP} {t x d b log mb : Nat} {m n : Meta} {M : Nat → Option Leaf} {ks : List Nat} {marked spoilt : Bool} {l : Lg} {σ : Dk}

set_option maxHeartbeats 16000000 in
theorem tx_commit (hh : HalfAt w0) (H : St w0 w (objP t (txCells x n (.map (some mb)) marked spoilt) 67 :: objP x (dbCells d b log m (.pointer (some ⟨t, 0, none⟩)) false) 62 :: diskP d σ :: mapP leafR leafD mb M ks :: logP b d l :: ps))
    (hd : σ.down = false) (hM : Sealable M) (hn : marked = true → n.Ok) (hks : ks.length ≤ 900000) (h1 : 1 ≤ log) (hlog : log ≤ σ.kept.length) (hids : ∀ k, imgM M n marked k ≠ none → log + 8 * k ≤ 65536) (hroom : σ.pend.length ≤ 600000000) :
    Calls Tryz.prog 20 #[.pointer (some ⟨t, 0, none⟩)] w fun e w' => ∃ (ss is : List Nat) (ib : Nat), ss.Perm is ∧ is.Nodup ∧ (∀ k, k ∈ is ↔ imgM M n marked k ≠ none) ∧
      e = .returned (.int .i64 (commitB log m n spoilt (ss.map fun k => (k, (imgM M n marked k).getD [])) l σ).e) ∧
      St w0 w' (ComPs t x d b log mb ib (commitB log m n spoilt (ss.map fun k => (k, (imgM M n marked k).getD [])) l σ).m n marked spoilt (commitB log m n spoilt (ss.map fun k => (k, (imgM M n marked k).getD [])) l σ).lost (commitB log m n spoilt (ss.map fun k => (k, (imgM M n marked k).getD [])) l σ).l (commitB log m n spoilt (ss.map fun k => (k, (imgM M n marked k).getD [])) l σ).σ M (imgM M n marked) ks is ps) := by
  have hmost := (sd_ok (H.pull 2 rfl)).most
  have hu := fun W (hW : W = w) => hW ▸ tx_up H hd
  have hen := tx_end H
  have c0 := (H.obj 0 rfl).cell 0
  simp only [txCells, List.getElem?_cons_succ, List.getElem?_cons_zero] at c0
  obtain ⟨Post, hPost⟩ : ∃ Post : Ending → World → Prop, Hid (Post = fun e w' => ∃ (ss is : List Nat) (ib : Nat), ss.Perm is ∧ is.Nodup ∧ (∀ k, k ∈ is ↔ imgM M n marked k ≠ none) ∧
      e = .returned (.int .i64 (commitB log m n spoilt (ss.map fun k => (k, (imgM M n marked k).getD [])) l σ).e) ∧
      St w0 w' (ComPs t x d b log mb ib (commitB log m n spoilt (ss.map fun k => (k, (imgM M n marked k).getD [])) l σ).m n marked spoilt (commitB log m n spoilt (ss.map fun k => (k, (imgM M n marked k).getD [])) l σ).lost (commitB log m n spoilt (ss.map fun k => (k, (imgM M n marked k).getD [])) l σ).l (commitB log m n spoilt (ss.map fun k => (k, (imgM M n marked k).getD [])) l σ).σ M (imgM M n marked) ks is ps)) := ⟨_, hid rfl⟩
  rw [← hPost.out]
  have HX := hid (And.intro hM (And.intro hn (And.intro hids hlog)))
  clear H hM hn hids hlog
  go_enter Tryz.func20, Tryz.ntmps20
  go_upto_region 6 with (first
    | (go_at_call 53; refine (hu _ rfl).mono ?_; rintro e w' ⟨rfl, rfl⟩)
    | (go_at_call 51; refine hen.mono ?_; rintro e w1 ⟨rfl, H1⟩))
  have hrc := tx_record hh (H1.pull 3 rfl |>.pull 1 rfl) HX.out.1 HX.out.2.1 hks
  clear hu hen c0
  go_upto_region 7 with (go_at_call 54; refine hrc.mono ?_; rintro e w2 ⟨ss, is, ib, rfl, hperm, hnd, hmem, hLb, H2⟩)
  have H2 := hid (show St w0 w2 (ComPs t x d b log mb ib m n marked spoilt false l σ M (imgM M n marked) ks is ps) from
    (H2.pull 2 rfl |>.pull 1 rfl |>.pull 2 rfl |>.pull 4 rfl |>.pull 5 rfl |>.pull 5 rfl))
  unfold ComPs at H2
  have hll : (ss.map fun k => (k, (imgM M n marked k).getD [])).length = is.length := by rw [List.length_map, hperm.length_eq]
  have hent : Ents log (ss.map fun k => (k, (imgM M n marked k).getD [])) := by
    intro e he
    obtain ⟨k, hk, rfl⟩ := List.mem_map.1 he
    have hki := (hmem k).1 (hperm.mem_iff.1 hk)
    exact ⟨(imgM_good HX.out.1 hki).2, HX.out.2.2.1 k hki⟩
  obtain ⟨L, hL⟩ : ∃ L, Hid (is.length = L) := ⟨_, hid rfl⟩
  rw [hL.out] at hll
  have hPost2 : Hid (∀ e w', Post e w' ↔ ∃ (ss is : List Nat) (ib : Nat), ss.Perm is ∧ is.Nodup ∧ (∀ k, k ∈ is ↔ imgM M n marked k ≠ none) ∧
      e = .returned (.int .i64 (commitB log m n spoilt (ss.map fun k => (k, (imgM M n marked k).getD [])) l σ).e) ∧
      St w0 w' (ComPs t x d b log mb ib (commitB log m n spoilt (ss.map fun k => (k, (imgM M n marked k).getD [])) l σ).m n marked spoilt (commitB log m n spoilt (ss.map fun k => (k, (imgM M n marked k).getD [])) l σ).lost (commitB log m n spoilt (ss.map fun k => (k, (imgM M n marked k).getD [])) l σ).l (commitB log m n spoilt (ss.map fun k => (k, (imgM M n marked k).getD [])) l σ).σ M (imgM M n marked) ks is ps)) := hid (by intro e w'; rw [hPost.out])
  have hdone : ∀ R, commitB log m n spoilt (ss.map fun k => (k, (imgM M n marked k).getD [])) l σ = R → ∀ e w', e = .returned (.int .i64 R.e) → St w0 w' (ComPs t x d b log mb ib R.m n marked spoilt R.lost R.l R.σ M (imgM M n marked) ks is ps) → Post e w' := by
    intro R hR e w' he hS
    rw [hPost2.out]
    exact ⟨ss, is, ib, hperm, hnd, hmem, by rw [hR]; exact he, by rw [hR]; exact hS⟩
  obtain ⟨es, hes⟩ : ∃ es : List Ent, (ss.map fun k => (k, (imgM M n marked k).getD [])) = es := ⟨_, rfl⟩
  rw [hes] at hdone hll hent ⊢
  have hrl : (recB es).length = 4 + 516 * L := by rw [recB, List.length_append, length_numLE, length_flat hent, hll]
  obtain ⟨z, hz, ez, hzs⟩ := str_z (recB es)
  rw [hrl] at hzs
  rw [ez]
  have hzl : z.data.toList = recB es := by rw [hz.out, ba_mk]
  have HD := hid (And.intro hdone (And.intro hll (And.intro hent hzl)))
  have hib := H2.out.map 4 rfl
  obtain ⟨D4, hown4, hmi4⟩ := hib
  have hlen := fun ty => hown4.len Tryz.underlying104 ty
  rw [hmi4.size, hL.out] at hlen
  have c10 := (H2.out.obj 3 rfl).cell 10
  have x1 := (H2.out.obj 0 rfl).cell 1
  have x2 := (H2.out.obj 0 rfl).cell 2
  simp only [txCells, dbCells, List.getElem?_cons_succ, List.getElem?_cons_zero] at c10 x1 x2
  clear hown4 hmi4 hdone hll hent hzl hperm hnd hmem hPost2 hrc hes ez hz hrl
  rw [hL.out] at hLb
  by_cases hsp : spoilt = true
  · rw [hsp] at c10
    go_wp2
    refine HD.out.1 ⟨9, m, l, σ, false⟩ (by rw [hsp]; rfl) _ _ rfl ?_
    exact H2.out
  have hsp' : spoilt = false := by simpa using hsp
  rw [hsp'] at c10
  by_cases hL0 : L = 0
  · have hb : ((L : Int) == 0) = true := by rw [hL0]; rfl
    go_wp2
    refine HD.out.1 ⟨0, m, l, σ, false⟩ (by unfold commitB; rw [hsp', if_neg (by simp), if_pos (by rw [HD.out.2.1, hL0])]) _ _ rfl ?_
    exact H2.out
  have hb : ((L : Int) == 0) = false := by rw [beq_eq_false_iff_ne]; omega
  obtain ⟨C, hC⟩ : ∃ C, Hid (4 + 516 * L = C) := ⟨_, hid rfl⟩
  rw [hC.out] at hzs
  have hCb : C ≤ 600000000 := by have := hC.out; omega
  have w1 : IntKind.i64.wrap ((C : Int) + 8) = (C : Int) + 8 := by rw [IntKind.wrap_i64]; omega
  have hlg : log ≤ 65536 := by have := HX.out.2.2.2; omega
  have w2' : IntKind.i64.wrap ((log : Int) - 1) = (log : Int) - 1 := by rw [IntKind.wrap_i64]; omega
  have w3 : IntKind.i64.wrap (64 * ((log : Int) - 1)) = 64 * ((log : Int) - 1) := by rw [IntKind.wrap_i64]; omega
  have w4 : IntKind.i64.wrap (((log : Int) - 1) * 64) = ((log : Int) - 1) * 64 := by rw [IntKind.wrap_i64]; omega
  have hcommit : commitB log m n spoilt es l σ = if C > 65536 ∨ C + 8 > 64 * (log - 1) then ⟨7, m, l, σ, false⟩
      else if ((C + 8 : Nat) : Int) > l.room then (if (settleB l σ).1 = 0 then writeB log m n es (settleB l σ).2.1 (settleB l σ).2.2 else ⟨(settleB l σ).1, m, (settleB l σ).2.1, (settleB l σ).2.2, true⟩)
      else writeB log m n es l σ := by
    unfold commitB
    rw [hsp', if_neg (by simp), if_neg (by rw [HD.out.2.1]; exact hL0), HD.out.2.1, hC.out]
  have HC := hid hcommit
  clear hcommit hL0
  by_cases hf1 : C > 65536
  · have d1 : decide ((65536 : Int) < (C : Int)) = true := decide_eq_true (by omega)
    go_wp2
    refine HD.out.1 ⟨7, m, l, σ, false⟩ (by rw [HC.out, if_pos (.inl hf1)]) _ _ rfl ?_
    exact H2.out
  have d1 : decide ((65536 : Int) < (C : Int)) = false := decide_eq_false (by omega)
  by_cases hf2 : C + 8 > 64 * (log - 1)
  · have d2 : decide (64 * ((log : Int) - 1) < (C : Int) + 8) = true := decide_eq_true (by omega)
    have d3 : decide (((log : Int) - 1) * 64 < (C : Int) + 8) = true := decide_eq_true (by omega)
    go_wp2
    refine HD.out.1 ⟨7, m, l, σ, false⟩ (by rw [HC.out, if_pos (.inr hf2)]) _ _ rfl ?_
    exact H2.out
  have d2 : decide (64 * ((log : Int) - 1) < (C : Int) + 8) = false := decide_eq_false (by omega)
  have d3 : decide (((log : Int) - 1) * 64 < (C : Int) + 8) = false := decide_eq_false (by omega)
  have hrm := log_room (H2.out.pull 1 rfl)
  obtain ⟨RM, hRM⟩ : ∃ RM, Hid (l.room = RM) := ⟨_, hid rfl⟩
  rw [hRM.out] at hrm
  have HF := hid (And.intro hf1 hf2)
  clear hf1 hf2
  by_cases hg : ((C + 8 : Nat) : Int) > RM
  · have d4 : decide (RM < (C : Int) + 8) = true := decide_eq_true (by omega)
    have hst := fun W (h : St w0 W _) => pd_settle (w := W) hh (H := (show St w0 W (objP x (dbCells d b log m (.pointer none) false) 62 :: logP b d l :: diskP d σ :: objP t (txCells x n (.map (some mb)) marked spoilt) 67 :: mapP textR textD ib (imgM M n marked) is :: mapP leafR leafD mb M ks :: ps) from h)) (by omega)
    have hspd := settleB_pend l σ
    obtain ⟨S, hS⟩ : ∃ S, Hid (settleB l σ = S) := ⟨_, hid rfl⟩
    rw [hS.out] at hst hspd
    obtain ⟨Se, Sl, Sd⟩ := S
    simp only [] at hst hspd
    have hlo := fun W (h : St w0 W _) => pd_lose (w := W) (H := (show St w0 W (objP x (dbCells d b log m (.pointer none) false) 62 :: logP b d Sl :: diskP d Sd :: objP t (txCells x n (.map (some mb)) marked spoilt) 67 :: mapP textR textD ib (imgM M n marked) is :: mapP leafR leafD mb M ks :: ps) from h)) Se
    go_upto_region 14 with (go_at_call 55; refine hrm.mono ?_; rintro e w3 ⟨rfl, P3⟩)
    have H3 := hid (H2.out.quiet P3)
    clear P3 hrm H2 c10 x1 x2 hlen
    go_upto_region 15 with (first
      | (go_at_call 45; refine (hst _ H3.out).mono ?_; rintro e w4 ⟨rfl, H4⟩)
      | (go_at_call 56; refine (hlo _ H4).mono ?_; rintro e w5 ⟨rfl, HH⟩))
    clear hst hlo H3 H4
    by_cases hS0 : Se = 0
    · subst hS0
      have HWR := hid (show commitB log m n spoilt es l σ = writeB log m n es Sl Sd by rw [HC.out, if_neg (by have := HF.out; omega), if_pos (by rw [hRM.out]; exact hg), hS.out]; simp only [if_true])
      have HH := hid (show St w0 w5 (objP x (dbCells d b log m (.pointer none) false) 62 :: logP b d Sl :: diskP d Sd :: objP t (txCells x n (.map (some mb)) marked spoilt) 67 :: mapP textR textD ib (imgM M n marked) is :: mapP leafR leafD mb M ks :: ps) from HH)
      have hHr : Sd.pend.length ≤ 600000001 := by omega
      clear hS hspd
      have hadd := log_add (HH.out.pull 1 rfl) z (by unfold maxLen; omega)
      rw [HD.out.2.2.2] at hadd
      obtain ⟨l2, hl2⟩ : ∃ l2, Hid ((Sl.add (recB es)).2 = l2) := ⟨_, hid rfl⟩
      rw [hl2.out] at hadd
      have x1 := (HH.out.obj 0 rfl).cell 1
      simp only [dbCells, List.getElem?_cons_succ, List.getElem?_cons_zero] at x1
      go_upto_region 18 with (go_at_call 57; refine hadd.mono ?_; rintro e w5 ⟨rfl, H5⟩)
      have H5 := hid (H5.pull 2 rfl |>.pull 1 rfl)
      have x1 := (H5.out.obj 2 rfl).cell 1
      simp only [dbCells, List.getElem?_cons_succ, List.getElem?_cons_zero] at x1
      clear hadd HH
      have hl2ok : l2.Ok := (log_open H5.out).choose_spec.choose_spec.choose_spec.1
      have hsp2 := Lg.sync_pend hl2ok Sd
      have hsy := log_sync hh H5.out (by omega)
      obtain ⟨Y, hY⟩ : ∃ Y, Hid (l2.sync Sd = Y) := ⟨_, hid rfl⟩
      rw [hY.out] at hsy hsp2
      obtain ⟨Ye, Yl, Yd⟩ := Y
      simp only [] at hsy hsp2
      have hlo := fun W (h : St w0 W _) => pd_lose (w := W) (H := (show St w0 W (objP x (dbCells d b log m (.pointer none) false) 62 :: logP b d Yl :: diskP d Yd :: objP t (txCells x n (.map (some mb)) marked spoilt) 67 :: mapP textR textD ib (imgM M n marked) is :: mapP leafR leafD mb M ks :: ps) from h)) Ye
      go_upto_region 19 with (first
        | (go_at_call 58; refine hsy.mono ?_; rintro e w6 ⟨rfl, H6⟩)
        | (go_at_call 56; refine (hlo _ (H6.pull 2 rfl)).mono ?_; rintro e w7 ⟨rfl, H7⟩))
      clear hsy hlo H5 x1
      by_cases hY0 : Ye = 0
      · subst hY0
        have H7 := hid (show St w0 w7 (objP x (dbCells d b log m (.pointer none) false) 62 :: logP b d Yl :: diskP d Yd :: objP t (txCells x n (.map (some mb)) marked spoilt) 67 :: mapP textR textD ib (imgM M n marked) is :: mapP leafR leafD mb M ks :: ps) from H7)
        go_upto_region 22 with (first
          | ((with_reducible refine at_load ?_); refine wpL_load rfl 60 (.tmp 86) rfl t 1 7 rfl _ 67 (H7.out.obj 3 rfl) meta_agg meta_size (by simp [txCells]) ?_; rw [show ((txCells x n (.map (some mb)) marked spoilt).drop 1).take 7 = n.cells from rfl])
          | ((with_reducible refine at_store ?_); refine wpL_store rfl 60 (.tmp 89) (.tmp 87) rfl x 3 7 rfl n.cells rfl _ _ (H7.out.obj 0 rfl) meta_size rfl (by simp [dbCells]) (meta_one n) ?_; intro w8 A8 P8 S8; have H8 := hid (H7.out.put 0 rfl A8 P8)))
        have H8 := hid (show St w0 w8 (objP x (dbCells d b log n (.pointer none) false) 62 :: logP b d Yl :: diskP d Yd :: objP t (txCells x n (.map (some mb)) marked spoilt) 67 :: mapP textR textD ib (imgM M n marked) is :: mapP leafR leafD mb M ks :: ps) from H8.out)
        clear A8 P8 S8 H7
        have hrd := pd_redo (H8.out.pull 2 rfl |>.pull 1 rfl) z es HD.out.2.2.2 HD.out.2.2.1 (by rw [HD.out.2.1]; have := hC.out; have := HF.out.1; omega) h1 (by omega)
        obtain ⟨R, hR⟩ : ∃ R, Hid (redoB log es Yd = R) := ⟨_, hid rfl⟩
        rw [hR.out] at hrd
        obtain ⟨Re, Rd⟩ := R
        simp only [] at hrd
        have hlo := fun W (h : St w0 W _) => pd_lose (w := W) (H := (show St w0 W (objP x (dbCells d b log n (.pointer none) false) 62 :: diskP d Rd :: logP b d Yl :: objP t (txCells x n (.map (some mb)) marked spoilt) 67 :: mapP textR textD ib (imgM M n marked) is :: mapP leafR leafD mb M ks :: ps) from h)) Re
        go_wp2_with (first
          | (go_at_call 44; refine hrd.mono ?_; rintro e w9 ⟨rfl, H9⟩)
          | (go_at_call 56; refine (hlo _ H9).mono ?_; rintro e wa ⟨rfl, HA⟩))
        refine HD.out.1 ⟨Re, n, Yl, Rd, Re != 0⟩ (by rw [HWR.out, writeB, hl2.out, hY.out]; simp only [if_true]; rw [hR.out]) _ _ rfl ?_
        exact HA.pull 2 rfl |>.pull 1 rfl
      · have hb0 : (Ye != 0) = true := by simpa using hY0
        have HY := hid hY0
        have H7 := hid H7
        clear hY0
        go_wp2
        refine HD.out.1 ⟨Ye, m, Yl, Yd, true⟩ (by rw [HWR.out, writeB, hl2.out, hY.out]; simp only [if_neg HY.out]) _ _ rfl ?_
        have h7 := H7.out
        rw [hb0] at h7
        exact h7
    · have hb0 : (Se != 0) = true := by simpa using hS0
      have HY := hid hS0
      have HH := hid HH
      clear hS0
      go_wp2
      refine HD.out.1 ⟨Se, m, Sl, Sd, true⟩ (by rw [HC.out, if_neg (by have := HF.out; omega), if_pos (by rw [hRM.out]; exact hg), hS.out]; simp only [if_neg HY.out]) _ _ rfl ?_
      have h7 := HH.out
      rw [hb0] at h7
      exact h7
  · have d4 : decide (RM < (C : Int) + 8) = false := decide_eq_false (by omega)
    go_upto_region 17 with (go_at_call 55; refine hrm.mono ?_; rintro e w3 ⟨rfl, P3⟩)
    have HH := hid (H2.out.quiet P3)
    have HWR := hid (show commitB log m n spoilt es l σ = writeB log m n es l σ by rw [HC.out, if_neg (by have := HF.out; omega), if_neg (by rw [hRM.out]; omega)])
    clear P3 hrm H2 c10 x1 x2 hlen
    have hadd := log_add (HH.out.pull 1 rfl) z (by unfold maxLen; omega)
    rw [HD.out.2.2.2] at hadd
    obtain ⟨l2, hl2⟩ : ∃ l2, Hid ((l.add (recB es)).2 = l2) := ⟨_, hid rfl⟩
    rw [hl2.out] at hadd
    have x1 := (HH.out.obj 0 rfl).cell 1
    simp only [dbCells, List.getElem?_cons_succ, List.getElem?_cons_zero] at x1
    go_upto_region 18 with (go_at_call 57; refine hadd.mono ?_; rintro e w5 ⟨rfl, H5⟩)
    have H5 := hid (H5.pull 2 rfl |>.pull 1 rfl)
    have x1 := (H5.out.obj 2 rfl).cell 1
    simp only [dbCells, List.getElem?_cons_succ, List.getElem?_cons_zero] at x1
    clear hadd HH
    have hl2ok : l2.Ok := (log_open H5.out).choose_spec.choose_spec.choose_spec.1
    have hsp2 := Lg.sync_pend hl2ok σ
    have hsy := log_sync hh H5.out (by omega)
    obtain ⟨Y, hY⟩ : ∃ Y, Hid (l2.sync σ = Y) := ⟨_, hid rfl⟩
    rw [hY.out] at hsy hsp2
    obtain ⟨Ye, Yl, Yd⟩ := Y
    simp only [] at hsy hsp2
    have hlo := fun W (h : St w0 W _) => pd_lose (w := W) (H := (show St w0 W (objP x (dbCells d b log m (.pointer none) false) 62 :: logP b d Yl :: diskP d Yd :: objP t (txCells x n (.map (some mb)) marked spoilt) 67 :: mapP textR textD ib (imgM M n marked) is :: mapP leafR leafD mb M ks :: ps) from h)) Ye
    go_upto_region 19 with (first
      | (go_at_call 58; refine hsy.mono ?_; rintro e w6 ⟨rfl, H6⟩)
      | (go_at_call 56; refine (hlo _ (H6.pull 2 rfl)).mono ?_; rintro e w7 ⟨rfl, H7⟩))
    clear hsy hlo H5 x1
    by_cases hY0 : Ye = 0
    · subst hY0
      have H7 := hid (show St w0 w7 (objP x (dbCells d b log m (.pointer none) false) 62 :: logP b d Yl :: diskP d Yd :: objP t (txCells x n (.map (some mb)) marked spoilt) 67 :: mapP textR textD ib (imgM M n marked) is :: mapP leafR leafD mb M ks :: ps) from H7)
      go_upto_region 22 with (first
        | ((with_reducible refine at_load ?_); refine wpL_load rfl 60 (.tmp 86) rfl t 1 7 rfl _ 67 (H7.out.obj 3 rfl) meta_agg meta_size (by simp [txCells]) ?_; rw [show ((txCells x n (.map (some mb)) marked spoilt).drop 1).take 7 = n.cells from rfl])
        | ((with_reducible refine at_store ?_); refine wpL_store rfl 60 (.tmp 89) (.tmp 87) rfl x 3 7 rfl n.cells rfl _ _ (H7.out.obj 0 rfl) meta_size rfl (by simp [dbCells]) (meta_one n) ?_; intro w8 A8 P8 S8; have H8 := hid (H7.out.put 0 rfl A8 P8)))
      have H8 := hid (show St w0 w8 (objP x (dbCells d b log n (.pointer none) false) 62 :: logP b d Yl :: diskP d Yd :: objP t (txCells x n (.map (some mb)) marked spoilt) 67 :: mapP textR textD ib (imgM M n marked) is :: mapP leafR leafD mb M ks :: ps) from H8.out)
      clear A8 P8 S8 H7
      have hrd := pd_redo (H8.out.pull 2 rfl |>.pull 1 rfl) z es HD.out.2.2.2 HD.out.2.2.1 (by rw [HD.out.2.1]; have := hC.out; have := HF.out.1; omega) h1 (by omega)
      obtain ⟨R, hR⟩ : ∃ R, Hid (redoB log es Yd = R) := ⟨_, hid rfl⟩
      rw [hR.out] at hrd
      obtain ⟨Re, Rd⟩ := R
      simp only [] at hrd
      have hlo := fun W (h : St w0 W _) => pd_lose (w := W) (H := (show St w0 W (objP x (dbCells d b log n (.pointer none) false) 62 :: diskP d Rd :: logP b d Yl :: objP t (txCells x n (.map (some mb)) marked spoilt) 67 :: mapP textR textD ib (imgM M n marked) is :: mapP leafR leafD mb M ks :: ps) from h)) Re
      go_wp2_with (first
        | (go_at_call 44; refine hrd.mono ?_; rintro e w9 ⟨rfl, H9⟩)
        | (go_at_call 56; refine (hlo _ H9).mono ?_; rintro e wa ⟨rfl, HA⟩))
      refine HD.out.1 ⟨Re, n, Yl, Rd, Re != 0⟩ (by rw [HWR.out, writeB, hl2.out, hY.out]; simp only [if_true]; rw [hR.out]) _ _ rfl ?_
      exact HA.pull 2 rfl |>.pull 1 rfl
    · have hb0 : (Ye != 0) = true := by simpa using hY0
      have HY := hid hY0
      have H7 := hid H7
      clear hY0
      go_wp2
      refine HD.out.1 ⟨Ye, m, Yl, Yd, true⟩ (by rw [HWR.out, writeB, hl2.out, hY.out]; simp only [if_neg HY.out]) _ _ rfl ?_
      have h7 := H7.out
      rw [hb0] at h7
      exact h7

end

end Go.Proofs.YtnffnpndnaofhaaGreatDoor

/- A database's pages on a disk, wherever the power goes: what redo, settle and a commit make of them. Plain Lean, no Go. -/
namespace Go.Proofs.YtnffnpndnaofhaaGreatDoor

/-- A page's bytes. -/
def pageOf (log : Nat) (img : Img) (k : Nat) : List UInt8 := (List.range 8).flatMap fun i => img (log + 8 * k + i)

theorem sectorsB_page (σ : Dk) (log k : Nat) : sectorsB σ (log + 8 * k) 8 = pageOf log σ.look k := rfl

theorem pageOf_congr {log k : Nat} {img img' : Img} (h : ∀ i, log + 8 * k ≤ i → i < log + 8 * k + 8 → img' i = img i) : pageOf log img' k = pageOf log img k := by
  unfold pageOf
  simp only [List.range_succ, List.range_zero, List.nil_append, List.flatMap_append, List.flatMap_cons, List.flatMap_nil, List.append_nil]
  rw [h _ (by omega) (by omega), h _ (by omega) (by omega), h _ (by omega) (by omega), h _ (by omega) (by omega), h _ (by omega) (by omega), h _ (by omega) (by omega), h _ (by omega) (by omega), h _ (by omega) (by omega)]

/-- What the last entry says of a page. -/
def lastOf (es : List Ent) (k : Nat) : Option (List UInt8) := es.foldl (fun a e => if e.1 = k then some e.2 else a) none

theorem lastOf_foldl (k : Nat) : ∀ (es : List Ent) (a : Option (List UInt8)), es.foldl (fun a e => if e.1 = k then some e.2 else a) a = (lastOf es k).or a
  | [], a => by simp [lastOf]
  | e :: es, a => by
    have h1 := lastOf_foldl k es (if e.1 = k then some e.2 else a)
    have h2 := lastOf_foldl k es (if e.1 = k then some e.2 else none)
    have h3 : lastOf (e :: es) k = es.foldl (fun a e => if e.1 = k then some e.2 else a) (if e.1 = k then some e.2 else none) := rfl
    rw [List.foldl_cons, h1, h3, h2]
    cases lastOf es k <;> by_cases h : e.1 = k <;> simp [h]

theorem lastOf_append (es fs : List Ent) (k : Nat) : lastOf (es ++ fs) k = (lastOf fs k).or (lastOf es k) := by
  rw [lastOf, List.foldl_append, lastOf_foldl]
  rfl

theorem lastOf_cons (e : Ent) (es : List Ent) (k : Nat) : lastOf (e :: es) k = (lastOf es k).or (if e.1 = k then some e.2 else none) := by
  rw [lastOf, List.foldl_cons, lastOf_foldl]

theorem lastOf_none {es : List Ent} {k : Nat} : lastOf es k = none ↔ ∀ e ∈ es, e.1 ≠ k := by
  induction es with
  | nil => simp [lastOf]
  | cons e es ih =>
    rw [lastOf_cons, Option.or_eq_none_iff, ih]
    simp only [List.mem_cons, forall_eq_or_imp]
    constructor
    · rintro ⟨h1, h2⟩
      exact ⟨(fun h => by rw [if_pos h] at h2; cases h2), h1⟩
    · rintro ⟨h1, h2⟩
      exact ⟨h2, if_neg h1⟩

/-- The pages P are there, but for those that the entries have: these come to be so. -/
def PgOk (log cnt : Nat) (es : List Ent) (P : Nat → List UInt8) (img : Img) : Prop :=
  ∀ k, k < cnt → (lastOf es k = none → pageOf log img k = P k) ∧ ∀ b, lastOf es k = some b → P k = b

/-- Nothing but pages that the entries have. -/
def Within (log : Nat) (es : List Ent) (i : Nat) : Prop := ∃ e ∈ es, log + 8 * e.1 ≤ i ∧ i < log + 8 * e.1 + 8

/-- What does not look at the pages that the entries have. -/
def Blind (log : Nat) (es : List Ent) (Q : Img → Prop) : Prop := ∀ img i s, Within log es i → Q img → Q (updI img i s)

theorem PgOk.blind (log cnt : Nat) (es : List Ent) (P : Nat → List UInt8) : Blind log es (PgOk log cnt es P) := by
  intro img i s ⟨e, he, h1, h2⟩ h k hk
  refine ⟨fun hn => ?_, (h k hk).2⟩
  rw [← (h k hk).1 hn]
  refine pageOf_congr (fun j h3 h4 => ?_)
  have hne := lastOf_none.1 hn e he
  simp only [updI]
  rw [if_neg (by omega)]

theorem Fits.outer {l : Lg} {img : Img} {i : Nat} {s : List UInt8} (lo : l.Ok) (hi : i < l.base ∨ l.base + l.n ≤ i) (h : Fits img l) : Fits (updI img i s) l := by
  have h2 := lo.two
  have hf := lo.fits
  refine ⟨?_, ?_⟩
  · simp only [updI]
    rw [if_neg (by omega)]
    exact h.head
  · intro p hp
    unfold byteAt
    simp only [updI]
    rw [if_neg (by omega)]
    exact h.data p hp

theorem Blind.fits {log : Nat} {es : List Ent} {l : Lg} (lo : l.Ok) (hb : l.base = 0) (hn : l.n = log) : Blind log es (fun img => Fits img l) := by
  intro img i s ⟨e, _, h1, _⟩ h
  exact h.outer lo (by omega)

theorem Blind.and {log : Nat} {es : List Ent} {Q R : Img → Prop} (h1 : Blind log es Q) (h2 : Blind log es R) : Blind log es (fun img => Q img ∧ R img) :=
  fun img i s hw h => ⟨h1 img i s hw h.1, h2 img i s hw h.2⟩

theorem pad_take {b : List UInt8} {j : Nat} (h : b.length = 512) (hj : j < 8) : pad ((b.drop (64 * j)).take 64) = (b.drop (64 * j)).take 64 :=
  pad_full (by rw [List.length_take, List.length_drop]; omega)

theorem cut8 (b : List UInt8) (h : b.length = 512) : (List.range 8).flatMap (fun j => (b.drop (64 * j)).take 64) = b := by
  have key : ∀ n, n ≤ 8 → (List.range n).flatMap (fun j => (b.drop (64 * j)).take 64) = b.take (64 * n) := by
    intro n
    induction n with
    | zero => intro _; simp
    | succ n ih =>
      intro hn
      rw [List.range_succ, List.flatMap_append, ih (by omega), List.flatMap_cons, List.flatMap_nil, List.append_nil, show 64 * (n + 1) = 64 * n + 64 by omega, List.take_add]
  rw [key 8 (Nat.le_refl _), List.take_of_length_le (by omega)]

/-- A page is laid. -/
theorem lay_page {σ : Dk} {N log : Nat} {e : Ent} {es : List Ent} {Q : Img → Prop} (u : Up σ N) (h1 : 1 ≤ log) (he : e.2.length = 512) (hN : log + 8 * e.1 + 8 ≤ N) (hm : e ∈ es) (hQ : Blind log es Q) (h : Crash σ Q) :
    Out (layN (log + 8 * e.1 - 1) e.2 9 0 σ) σ N (fun τ => τ.pend.length ≤ σ.pend.length + 9 ∧ (∀ i, ¬ (log + 8 * e.1 ≤ i ∧ i < log + 8 * e.1 + 8) → τ.look i = σ.look i) ∧ pageOf log τ.look e.1 = e.2 ∧ Crash τ Q) (fun τ => Crash τ Q) := by
  refine (Crash.layN (base := log + 8 * e.1 - 1) (N := N) (all := e.2) (fun j hj => by omega) 9 0 σ u h (by omega) (fun img j _ hj hq => hQ img _ _ ⟨e, hm, by omega, by omega⟩ hq)).mono (fun ⟨a1, a2, a3⟩ => ⟨a1, fun i hi => ?_, ?_, a3⟩) id
  · rw [a2]
    simp only [laid]
    rw [if_neg (by omega)]
  · rw [a2]
    have : ∀ j, j < 8 → laid (log + 8 * e.1 - 1) e.2 0 σ.look (log + 8 * e.1 + j) = (e.2.drop (64 * j)).take 64 := by
      intro j hj
      simp only [laid]
      rw [if_pos (by omega), show log + 8 * e.1 + j - (log + 8 * e.1 - 1 + 1) = j by omega, pad_take he hj]
    conv => rhs; rw [← cut8 e.2 he]
    unfold pageOf
    simp only [List.range_succ, List.range_zero, List.nil_append, List.flatMap_append, List.flatMap_cons, List.flatMap_nil, List.append_nil]
    rw [this 0 (by omega), this 1 (by omega), this 2 (by omega), this 3 (by omega), this 4 (by omega), this 5 (by omega), this 6 (by omega), this 7 (by omega)]

/-- redo, wherever the power goes. -/
theorem redo_run {N log cnt : Nat} {fs : List Ent} {Q : Img → Prop} (h1 : 1 ≤ log) (hN : log + 8 * cnt ≤ N) (hQ : Blind log fs Q) : ∀ (es : List Ent) (σ : Dk), (∀ e ∈ es, e ∈ fs ∧ e.2.length = 512 ∧ e.1 < cnt) → Up σ N → Crash σ Q →
    Out (redoB log es σ) σ N (fun τ => τ.pend.length ≤ σ.pend.length + 9 * es.length ∧ (∀ k, pageOf log τ.look k = (lastOf es k).getD (pageOf log σ.look k)) ∧ (∀ i, i < log → τ.look i = σ.look i) ∧ Crash τ Q) (fun τ => Crash τ Q)
  | [], σ, _, u, h => .inl ⟨rfl, u, rfl, by simp [redoB], fun k => rfl, fun _ _ => rfl, h⟩
  | e :: es, σ, he, u, h => by
    obtain ⟨hf, hl, hk⟩ := he e (by simp)
    have hp := lay_page u h1 hl (by omega) hf hQ h
    unfold redoB
    refine hp.then (fun h0 u2 _ ⟨a1, a2, a3, a4⟩ => ?_) (fun hne => by rw [if_neg hne])
    rw [if_pos h0]
    refine (redo_run h1 hN hQ es _ (fun x hx => he x (by simp [hx])) u2 a4).mono (fun ⟨b1, b2, b3, b4⟩ => ⟨by simp only [List.length_cons]; omega, fun k => ?_, fun i hi => ?_, b4⟩) id
    · rw [b2, lastOf_cons]
      cases hc : lastOf es k with
      | some b => simp
      | none =>
        simp only [Option.getD_none, Option.none_or]
        by_cases hek : e.1 = k
        · subst hek
          rw [if_pos rfl, a3]
          rfl
        · rw [if_neg hek, Option.getD_none]
          exact pageOf_congr (fun i h3 h4 => a2 i (by omega))
    · rw [b3 i hi, a2 i (by omega)]

theorem redoAll_run {N log cnt : Nat} {fs : List Ent} {Q : Img → Prop} (h1 : 1 ≤ log) (hN : log + 8 * cnt ≤ N) (hQ : Blind log fs Q) : ∀ (rs : List (List Ent)) (σ : Dk), (∀ es ∈ rs, ∀ e ∈ es, e ∈ fs ∧ e.2.length = 512 ∧ e.1 < cnt) → Up σ N → Crash σ Q →
    Out (redoAll log rs σ) σ N (fun τ => τ.pend.length ≤ σ.pend.length + 9 * rs.flatten.length ∧ (∀ k, pageOf log τ.look k = (lastOf rs.flatten k).getD (pageOf log σ.look k)) ∧ (∀ i, i < log → τ.look i = σ.look i) ∧ Crash τ Q) (fun τ => Crash τ Q)
  | [], σ, _, u, h => .inl ⟨rfl, u, rfl, by simp [redoAll], fun k => rfl, fun _ _ => rfl, h⟩
  | es :: rs, σ, he, u, h => by
    unfold redoAll
    refine (redo_run h1 hN hQ es σ (he es (by simp)) u h).then (fun h0 u2 _ ⟨a1, a2, a3, a4⟩ => ?_) (fun hne => by rw [if_neg hne])
    rw [if_pos h0]
    refine (redoAll_run h1 hN hQ rs _ (fun x hx => he x (by simp [hx])) u2 a4).mono (fun ⟨b1, b2, b3, b4⟩ => ⟨?_, fun k => ?_, fun i hi => by rw [b3 i hi, a3 i hi], b4⟩) id
    · simp only [List.flatten_cons, List.length_append]
      omega
    · rw [b2, List.flatten_cons, lastOf_append, a2]
      cases lastOf rs.flatten k <;> simp

end Go.Proofs.YtnffnpndnaofhaaGreatDoor
