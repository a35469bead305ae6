/- aquiferref04.SameTexts: it tells whether two lists of texts are alike; conditions stand in the theorem. -/
import Derived.Test.YtjaabhdgahljcaaDoorWalB
import Derived.Test.YtjaabhdgahljcaaDoorOrder2
namespace Go.Proofs.YtjaabhdgahljcaaDoor
open Go.RowKit
set_option maxRecDepth 100000

theorem reads_cell {w : World} {v : Value} {xs : List Value} (h : Reads w v xs) (hne : 0 < xs.length) : ∃ b off cap, v = .slice (some ⟨b, off, none⟩) xs.length cap ∧ ∀ (j : Nat) (x : Value), xs[j]? = some x → w.cell? ⟨b, off + j, none⟩ = some x := by
  obtain ⟨ao, cap, rfl, -, -, h3⟩ := h
  obtain ⟨x, hx⟩ : ∃ x, xs[0]? = some x := ⟨_, List.getElem?_eq_getElem hne⟩
  obtain ⟨b, off, rfl, -⟩ := h3 0 x hx
  refine ⟨b, off, cap, rfl, fun j y hj => ?_⟩
  obtain ⟨b2, off2, e, hc⟩ := h3 j y hj
  cases e
  exact hc

theorem same_texts (w : World) (va vb : Value) (la lb : List (List UInt8)) (ha : Reads w va (la.map strV)) (hb : Reads w vb (lb.map strV)) :
    Calls Tryd.prog 14 #[va, vb] w fun e w' => e = .returned (.bool (decide (la = lb))) ∧ Pres [] w w' := by
  obtain ⟨F, HF⟩ : ∃ F, Hid (decide (la = lb) = F) := ⟨_, hid rfl⟩
  rw [HF.out]
  have HA := hid ha
  have HB := hid hb
  obtain ⟨aa, ca, ea, ha1, ha2, -⟩ := id ha
  obtain ⟨ab, cb, eb, hb1, hb2, -⟩ := id hb
  rw [List.length_map] at ea eb ha1 hb1
  have hl1 : la.length ≤ 9223372036854775807 := by simp only [maxLen] at ha2; omega
  have hl2 : lb.length ≤ 9223372036854775807 := by simp only [maxLen] at hb2; omega
  subst ea eb
  clear ha hb ha2 hb2
  by_cases hlen : la.length = lb.length
  · have hne : ((la.length : Int) == (lb.length : Int)) = true := by rw [beq_iff_eq]; omega
    go_enter Tryd.func14, Tryd.ntmps14
    go_wp2_with fail
    go_loopw [5] (fun iv wr => ∃ k : Nat, k ≤ la.length ∧ iv = .int .i64 (k : Int) ∧ la.take k = lb.take k ∧ Pres [] w wr) (fun iv _ => la.length - (intOf iv).toNat)
    case atStart => exact ⟨0, Nat.zero_le _, rfl, by simp, Pres.refl _ _⟩
    case round =>
      obtain ⟨k, hk, rfl, htk, hP⟩ := hrel
      have HP' := hid hP
      have HT := hid htk
      clear hP htk
      by_cases hlt : k < la.length
      · have hlt' : (k : Int) < (la.length : Int) := by omega
        have hlt2 : (k : Int) < (lb.length : Int) := by omega
        obtain ⟨x, hx⟩ : ∃ x, la[k]? = some x := ⟨_, List.getElem?_eq_getElem hlt⟩
        obtain ⟨y, hy⟩ : ∃ y, lb[k]? = some y := ⟨_, List.getElem?_eq_getElem (by omega)⟩
        obtain ⟨b1, o1, c1, e1, r1⟩ := reads_cell HA.out (by rw [List.length_map]; omega)
        obtain ⟨b2, o2, c2, e2, r2⟩ := reads_cell HB.out (by rw [List.length_map]; omega)
        rw [List.length_map] at e1 e2
        simp only [Value.slice.injEq] at e1 e2
        obtain ⟨rfl, -, rfl⟩ := e1
        obtain ⟨rfl, -, rfl⟩ := e2
        have g1 := HP'.out.cell (r1 k (strV x) (by rw [List.getElem?_map, hx]; rfl)) (by simp)
        have g2 := HP'.out.cell (r2 k (strV y) (by rw [List.getElem?_map, hy]; rfl)) (by simp)
        unfold strV at g1 g2
        obtain ⟨zx, hzx⟩ : ∃ z : ByteArray, Hid ((⟨x.toArray⟩ : ByteArray) = z) := ⟨_, hid rfl⟩
        obtain ⟨zy, hzy⟩ : ∃ z : ByteArray, Hid ((⟨y.toArray⟩ : ByteArray) = z) := ⟨_, hid rfl⟩
        rw [hzx.out] at g1
        rw [hzy.out] at g2
        have HXY := hid (And.intro hx hy)
        clear r1 r2 hx hy
        go_upto_region 6 with fail
        refine wp_stages (by kernel_rfl) ?_
        have S0 : wr.drew.cell? ⟨b1, o1 + k, none⟩ = some (.string zx) ∧ wr.drew.cell? ⟨b2, o2 + k, none⟩ = some (.string zy) := ⟨g1, g2⟩
        refine wp_stage (fun W => W.cell? ⟨b1, o1 + k, none⟩ = some (.string zx) ∧ W.cell? ⟨b2, o2 + k, none⟩ = some (.string zy)) [(0, true), (1, true), (2, true), (3, true), (4, true), (5, true), (6, true), (7, true)] 1 rfl (by kernel_rfl) (by intro c a dd v w h; cases dd <;> exact h) (S0) ?_
        iterate 8 (refine wpOrd_read (v := _) rfl rfl (by intro w' hS; obtain ⟨s1, s2⟩ := id hS; clear hS; go_simp; rfl) ?_; (try simp only [Act.put, List.setIfInBounds_toArray, List.set_cons_succ, List.set_cons_zero, List.getElem_toArray, List.getElem_cons_succ, List.getElem_cons_zero]))
        refine wpOrd_end ?_
        refine wp_stages_end 8 (by rfl) (by kernel_rfl) ?_
        simp only [List.drop_succ_cons, List.drop_zero]
        have HD := hid HP'.out.drew
        generalize wr.drew = wd at *
        clear S0 g1 g2 HP'
        by_cases hxy : x = y
        · have hz : zx = zy := by rw [← hzx.out, ← hzy.out, hxy]
          clear hzx hzy
          subst hz
          go_wp2
          go_roundw
          case rel =>
            refine ⟨k + 1, by omega, by go_num, ?_, HD.out⟩
            rw [List.take_add_one, List.take_add_one, HXY.out.1, HXY.out.2, HT.out, hxy]
          case measure => first | (simp [intOf]; done) | (simp [intOf]; omega)
        · have hz : ¬ zx = zy := fun e => hxy (by
            rw [← hzx.out, ← hzy.out] at e
            have := congrArg (fun b : ByteArray => b.data.toList) e
            simpa using this)
          have hzn := toList_ne hz
          have hF : decide (la = lb) = false := decide_eq_false (fun e => hxy (by
            have h1 := HXY.out.1
            rw [e, HXY.out.2] at h1
            exact (Option.some.inj h1).symm))
          have e := HF.out
          rw [hF] at e
          subst e
          clear hz hF HF
          go_wp2
          go_ret
          exact ⟨rfl, HD.out⟩
      · have hlt' : ¬ (k : Int) < (la.length : Int) := by omega
        have hF : decide (la = lb) = true := decide_eq_true (by
          have h := HT.out
          rwa [List.take_of_length_le (by omega), List.take_of_length_le (by omega)] at h)
        have e := HF.out
        rw [hF] at e
        subst e
        clear hF HF
        go_wp2
        go_ret
        exact ⟨rfl, HP'.out⟩
  · have hne : ((la.length : Int) == (lb.length : Int)) = false := by rw [beq_eq_false_iff_ne]; omega
    have hF : decide (la = lb) = false := decide_eq_false (fun e => hlen (by rw [e]))
    have e := HF.out
    rw [hF] at e
    subst e
    clear hF HF
    go_enter Tryd.func14, Tryd.ntmps14
    go_wp2
    go_ret
    exact ⟨rfl, Pres.refl _ _⟩

end Go.Proofs.YtjaabhdgahljcaaDoor
