/- The document's log (aquiferref08): head, Reset: each comes to what Lg says of it and of its disk; conditions stand in the theorems. -/
import Derived.Test.YtjaabhdgahljcaaDoorRefC
namespace Go.Proofs.YtjaabhdgahljcaaDoor
open Go.RowKit
set_option maxRecDepth 100000

def Lg.hurt (l : Lg) (e : Int) : Lg := if e = 0 then l else { l with lost := true }

theorem q_head {w0 w : World} {ps : List HP} {b r : Nat} {l : Lg} {σ : Dk} (H : St w0 w (qlogP b r l :: refP r σ :: ps)) (e n : Nat) (he : e < 2 ^ 63) (hn : n < 2 ^ 63) (hroom : σ.pend.length ≤ 1000000000) :
    Calls Tryd.prog 77 #[.pointer (some ⟨b, 0, none⟩), .int .i64 (e : Int), .int .i64 (n : Int)] w fun en w' => en = .returned (.int .i64 (writeHead l.base e n σ).1) ∧ St w0 w' (qlogP b r (l.hurt (writeHead l.base e n σ).1) :: refP r (writeHead l.base e n σ).2 :: ps) := by
  obtain ⟨rv, wv, ok, H⟩ := q_open H
  have HX := hid H
  have c0 := (H.obj 0 rfl).cell 0
  have c1 := (H.obj 0 rfl).cell 1
  simp only [qCells, List.getElem?_cons_succ, List.getElem?_cons_zero] at c0 c1
  have hb := ok.base
  have hbi : (l.base : Int) ≤ 65536 := by omega
  have HOK := hid ok
  have HLO := hid (Lg.lost_ok ok)
  clear H ok
  obtain ⟨z, hz⟩ : ∃ z : ByteArray, Hid (z = ⟨(headB e n).toArray⟩) := ⟨_, hid rfl⟩
  have hzl : z.data.toList = headB e n := by rw [hz.out, ba_mk]
  have hzs : z.size ≤ maxLen := by rw [ba_size, hzl, length_headB]; simp [maxLen]
  have hhd := fun W => rf_head e n W he hn
  rw [← hz.out] at hhd
  unfold writeHead
  rw [← hzl]
  clear hzl hz he hn hb
  generalize hq : σ.write (l.base : Int) z.data.toList = q at *
  have hwr := fun W ps' (h : St w0 W (refP r σ :: ps')) => ref_write h (l.base : Int) z hzs hroom
  rw [hq] at hwr
  clear hq hzs
  obtain ⟨qe, τ⟩ := q
  simp only [] at hwr ⊢
  have hfl := fun W ps' (h : St w0 W (refP r τ :: ps')) => ref_flush h
  generalize τ.flush = fl at *
  obtain ⟨fe, ρ⟩ := fl
  simp only [] at hfl ⊢
  have HWR := hid hwr
  have HFL := hid hfl
  clear hwr hfl
  have fin : ∀ (W : World) (x : Int) (σ' : Dk), x ≠ 0 → St w0 W (refP r σ' :: objP b (qCells r rv wv l) 98 :: slP rv 9 1 l.recs.length (l.recs.map strV) :: slP wv 9 1 l.waiting.length (l.waiting.map strV) :: ps) → St w0 (W.setCell ⟨b, 7, none⟩ (.bool true)) (qlogP b r (l.hurt x) :: refP r σ' :: ps) := by
    intro W x σ' hx h
    rw [Lg.hurt, if_neg hx]
    refine q_close HLO.out (rv := rv) (wv := wv) ?_
    have h1 := h.set 1 rfl 7 (.bool true)
    exact ((h1.pull 3 rfl).pull 3 rfl).pull 3 rfl
  have good : ∀ (W : World) (σ' : Dk), St w0 W (refP r σ' :: objP b (qCells r rv wv l) 98 :: slP rv 9 1 l.recs.length (l.recs.map strV) :: slP wv 9 1 l.waiting.length (l.waiting.map strV) :: ps) → St w0 W (qlogP b r (l.hurt 0) :: refP r σ' :: ps) := by
    intro W σ' h
    rw [Lg.hurt, if_pos rfl]
    refine q_close HOK.out (rv := rv) (wv := wv) ?_
    exact ((h.pull 3 rfl).pull 3 rfl).pull 3 rfl
  have FIN := hid fin
  have GOOD := hid good
  clear fin good
  have hcase : qe = 0 ∨ qe ≠ 0 := Decidable.em _
  have HCASE := hid hcase
  clear hcase
  obtain ⟨F, hF⟩ : ∃ F, Hid ((if qe = 0 then (fe, ρ) else (qe, τ)) = F) := ⟨_, hid rfl⟩
  rw [hF.out]
  go_enter Tryd.func77, Tryd.ntmps77
  go_upto_region 1 with (fail)
  refine wp_stages (by kernel_rfl) ?_
  have S0 : w.drew.cell? ⟨b, 0, none⟩ = some (.pointer (some ⟨r, 0, none⟩)) ∧ w.drew.cell? ⟨b, 1, none⟩ = some (.int .i64 (l.base : Int)) := ⟨c0, c1⟩
  refine wp_stage (fun W => W.cell? ⟨b, 0, none⟩ = some (.pointer (some ⟨r, 0, none⟩)) ∧ W.cell? ⟨b, 1, none⟩ = some (.int .i64 (l.base : Int))) [(0, true), (1, true), (2, true), (3, true), (4, true), (5, true), (6, true), (7, true), (8, true), (9, true), (10, false)] 2 rfl (by kernel_rfl) (by intro c a dd v w h; cases dd <;> exact h) (S0) ?_
  iterate 10 (refine wpOrd_read (v := _) rfl rfl (by intro w' hS; obtain ⟨s1, s2⟩ := id hS; clear hS; go_simp; rfl) ?_; (try simp only [Act.put, List.setIfInBounds_toArray, List.set_cons_succ, List.set_cons_zero, List.getElem_toArray, List.getElem_cons_succ, List.getElem_cons_zero]))
  have HD := hid HX.out.drew
  generalize w.drew = wd at *
  refine wpOrd_do rfl rfl (fun K hK => ?_)
  go_simp
  refine (hhd _).mono ?_
  rintro en w2 ⟨rfl, P2⟩
  refine hK _ _ ⟨⟨P2.cell S0.1 (by simp), P2.cell S0.2 (by simp)⟩, ?_⟩
  clear hK K
  (try simp only [Act.put, List.setIfInBounds_toArray, List.set_cons_succ, List.set_cons_zero, List.getElem_toArray, List.getElem_cons_succ, List.getElem_cons_zero])
  have H2 := hid ((HD.out.quiet P2).pull 3 rfl)
  clear HD P2 S0 c0 c1 HX
  refine wpOrd_end ?_
  refine wp_stages_end 11 (by rfl) (by kernel_rfl) ?_
  simp only [List.drop_succ_cons, List.drop_zero]
  go_wp2_with fail
  refine (HWR.out _ _ H2.out).mono ?_
  rintro en w3 ⟨rfl, H3⟩
  have c0' := (H3.obj 1 rfl).cell 0
  have f7 := (H3.obj 1 rfl).frozen 7
  have hlt7 := (H3.obj 1 rfl).lt
  obtain ⟨v7, c7⟩ : ∃ v, w3.cell? ⟨b, 7, none⟩ = some v := ⟨_, (H3.obj 1 rfl).cell 7⟩
  simp only [qCells, List.getElem?_cons_succ, List.getElem?_cons_zero] at c0'
  have H3 := hid H3
  clear H2
  rcases HCASE.out with rfl | h0
  · have hF2 := hF.out
    rw [if_pos rfl] at hF2
    subst hF2
    clear f7 c7 hlt7
    go_upto_region 4 with (go_at_call 76; refine (HFL.out _ _ H3.out).mono ?_; rintro en w4 ⟨rfl, H4⟩)
    have f7 := (H4.obj 1 rfl).frozen 7
    have hlt7 := (H4.obj 1 rfl).lt
    obtain ⟨v7, c7⟩ : ∃ v, w4.cell? ⟨b, 7, none⟩ = some v := ⟨_, (H4.obj 1 rfl).cell 7⟩
    have H4 := hid H4
    by_cases hf : fe = 0
    · subst hf
      clear f7 c7 hlt7
      go_wp2
      go_ret
      exact ⟨rfl, GOOD.out _ _ H4.out⟩
    · have hb0 : (fe != 0) = true := by simpa using hf
      have HFE := hid hf
      clear hf
      go_wp2
      go_ret
      exact ⟨rfl, FIN.out _ _ _ HFE.out H4.out⟩
  · have hF2 := hF.out
    rw [if_neg h0] at hF2
    subst hF2
    have hb0 : (qe != 0) = true := by simpa using h0
    have hb1 : (qe == 0) = false := by simpa using h0
    have HQE := hid h0
    clear h0
    go_wp2
    go_ret
    exact ⟨rfl, FIN.out _ _ _ HQE.out H3.out⟩

theorem q_reset {w0 w : World} {ps : List HP} {b r : Nat} {l : Lg} {σ : Dk} (H : St w0 w (qlogP b r l :: refP r σ :: ps)) (hroom : σ.pend.length ≤ 800000000) :
    Calls Tryd.prog 56 #[.pointer (some ⟨b, 0, none⟩)] w fun en w' => en = .returned (.int .i64 (l.reset σ).1) ∧ St w0 w' (qlogP b r (l.reset σ).2.1 :: refP r (l.reset σ).2.2 :: ps) := by
  obtain ⟨rv, wv, ok, HO⟩ := q_open H
  obtain ⟨aw, cw, rfl, hw1, hw2⟩ := (HO.sl 2 rfl).shape
  have c3 := (HO.obj 0 rfl).cell 3
  have c6 := (HO.obj 0 rfl).cell 6
  have c7 := (HO.obj 0 rfl).cell 7
  simp only [qCells, List.getElem?_cons_succ, List.getElem?_cons_zero] at c3 c6 c7
  have hcn := ok.counts
  have hep := ok.epoch
  have HOK := hid ok
  have HX := hid H
  obtain ⟨F, hF⟩ : ∃ F, Hid (l.reset σ = F) := ⟨_, hid rfl⟩
  rw [hF.out]
  have hF2 := hF.out
  unfold Lg.reset at hF2
  clear hF HO H ok hw2
  cases hlost : l.lost
  · rw [hlost] at c7 hF2
    simp only [Bool.false_eq_true, if_false] at hF2
    by_cases hwt : l.waiting = []
    · have h0 : l.waiting.length = 0 := by rw [hwt]; rfl
      rw [h0] at c6
      have hwq : ¬ l.waiting ≠ [] := by simpa using hwt
      rw [if_neg hwq] at hF2
      by_cases hmx : l.epoch = 2 ^ 62
      · rw [if_pos hmx] at hF2
        subst hF2
        have hei : ((l.epoch : Int) == 4611686018427387904) = true := by rw [beq_iff_eq]; omega
        clear hlost hwt h0 hcn hw1 hwq hmx
        go_enter Tryd.func56, Tryd.ntmps56
        go_wp2
        go_ret
        exact ⟨rfl, HX.out⟩
      · rw [if_neg hmx] at hF2
        have hei : ((l.epoch : Int) == 4611686018427387904) = false := by rw [beq_eq_false_iff_ne]; omega
        have hlt : l.epoch < 2 ^ 62 := by omega
        have hwr := fun W (hW : W = w) => hW ▸ q_head HX.out (l.epoch + 1) 0 (by omega) (by omega) (by omega)
        have hle : (l.epoch : Int) < 4611686018427387904 := by omega
        generalize writeHead l.base (l.epoch + 1) 0 σ = q2 at *
        obtain ⟨re2, σ2⟩ := q2
        simp only [] at hwr hF2
        have hcast : ((l.epoch + 1 : Nat) : Int) = (l.epoch : Int) + 1 := by omega
        simp only [hcast] at hwr
        have HL := hid hlost
        have HF := hid hF2
        have HW := hid hwt
        have HWR := hid hwr
        clear hlost hwt h0 hcn hw1 hwq hmx hF2 hcast hwr
        go_enter Tryd.func56, Tryd.ntmps56
        go_wp2_with fail
        refine (HWR.out _ rfl).mono ?_
        rintro e w5 ⟨rfl, H5⟩
        have H5 := hid H5
        clear HWR c3 c6 c7
        by_cases hre2 : re2 = 0
        · subst hre2
          have hF3 := HF.out
          simp only [if_true] at hF3
          subst hF3
          clear HF
          have h5 := H5.out
          rw [Lg.hurt, if_pos rfl] at h5
          obtain ⟨rv6, wv6, -, HO6⟩ := q_open h5
          obtain ⟨awv, cwv, rfl, -, -⟩ := (HO6.sl 2 rfl).shape
          have d3 := (HO6.obj 0 rfl).cell 3
          have d4 := (HO6.obj 0 rfl).cell 4
          have d5 := (HO6.obj 0 rfl).cell 5
          have g3 := (HO6.obj 0 rfl).frozen 3
          have g4 := (HO6.obj 0 rfl).frozen 4
          have g5 := (HO6.obj 0 rfl).frozen 5
          simp only [qCells, List.getElem?_cons_succ, List.getElem?_cons_zero] at d3 d4 d5
          have HO6 := hid HO6
          have HS := hid (show Lg.Ok { l with epoch := l.epoch + 1, bytes := [], recs := [], lost := false } by
            have h1 := HOK.out
            exact ⟨h1.two, h1.most, h1.base, by simp only []; omega, by simp [HW.out, frames], by simp [frames], by simp, h1.waits⟩)
          clear h5 H5
          go_wp2
          go_ret
          refine ⟨rfl, ?_⟩
          have h1 := St.set (St.set (St.set HO6.out 0 rfl 3 (.int .i64 ((l.epoch : Int) + 1))) 0 rfl 4 (.string ⟨#[]⟩)) 0 rfl 5 (.slice none 0 0)
          have h2 := (h1.pull 1 rfl).drop
          have h4 := (h2.nil 9 1).pull 1 rfl
          have hcast : ((l.epoch + 1 : Nat) : Int) = (l.epoch : Int) + 1 := by omega
          refine q_close HS.out (rv := .slice none 0 0) (wv := .slice awv l.waiting.length cwv) ?_
          simp only [qCells] at h4 ⊢
          rw [HL.out] at h4
          simp only [hcast]
          exact h4
        · have hb0 : (re2 != 0) = true := by simpa using hre2
          have hF3 := HF.out
          simp only [if_neg hre2] at hF3
          subst hF3
          have h5 := H5.out
          rw [Lg.hurt, if_neg hre2] at h5
          have H6 := hid h5
          clear hre2 HF h5 H5
          go_wp2
          go_ret
          exact ⟨rfl, H6.out⟩
    · have hwq : l.waiting ≠ [] := hwt
      rw [if_pos hwq] at hF2
      subst hF2
      have hwl : 0 < l.waiting.length := List.length_pos_iff.2 hwt
      have hwli : 0 < (l.waiting.length : Int) := by omega
      clear hlost hwt hcn hw1 hwq
      go_enter Tryd.func56, Tryd.ntmps56
      go_wp2
      go_ret
      exact ⟨rfl, HX.out⟩
  · rw [hlost] at c7 hF2
    simp only [if_true] at hF2
    subst hF2
    clear hlost hcn hw1 c3 c6
    go_enter Tryd.func56, Tryd.ntmps56
    go_wp2
    go_ret
    exact ⟨rfl, HX.out⟩

end Go.Proofs.YtjaabhdgahljcaaDoor
