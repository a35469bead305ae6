/- The document's disk: Flush, On, New; all conditions stand in the theorems. -/
import Derived.Test.YtjaabhdgahljcaaDoorRef07
namespace Go.Proofs.YtjaabhdgahljcaaDoor
open Go.RowKit

theorem ref_flush {w0 w : World} {ps : List HP} {r : Nat} {σ : Dk} (H : St w0 w (refP r σ :: ps)) :
    Calls Tryd.prog 76 #[.pointer (some ⟨r, 0, none⟩)] w fun e w' => e = .returned (.int .i64 σ.flush.1) ∧ St w0 w' (refP r σ.flush.2 :: ps) := by
  have H0 := H
  have HD := fun W (hW : W = w) => hW ▸ ref_does H
  obtain ⟨kv, pv, ok, H⟩ := ref_open H
  have h2 := (H.obj 0 rfl).cell 2
  simp only [refCells, List.getElem?_cons_succ, List.getElem?_cons_zero] at h2
  clear H ok
  cases hdn : σ.down
  · rw [hdn] at h2
    by_cases hg : σ.does.1 = 0
    · have e : σ.flush = (0, σ.does.2.settle) := by simp [Dk.flush, hdn, hg]
      have es : σ.does.2.settle = σ.does.2.keptBy true [] := by simp [Dk.settle, Dk.keptBy, selTo]
      rw [e, es]
      rw [hg] at HD
      clear e es hdn hg H0
      go_enter Tryd.func76, Tryd.ntmps76
      go_wp2_with fail
      refine (HD _ rfl).mono ?_
      rintro e w1 ⟨rfl, H1⟩
      clear HD
      go_wp2_with (go_at_call 78; refine (ref_keep H1 true (.slice none 0 0) [] (Safe.nil _ _)).mono ?_; rintro e w2 ⟨rfl, H2⟩)
      go_ret
      exact ⟨rfl, H2⟩
    · have e : σ.flush = (10, σ.does.2) := by simp [Dk.flush, hdn, hg]
      have ed : σ.does.1 = 10 := by unfold Dk.does at hg ⊢; split at hg <;> simp_all
      rw [e]
      rw [ed] at HD
      clear e ed hdn hg H0
      go_enter Tryd.func76, Tryd.ntmps76
      go_wp2_with fail
      refine (HD _ rfl).mono ?_
      rintro e w1 ⟨rfl, H1⟩
      clear HD
      go_wp2
      go_ret
      exact ⟨rfl, H1⟩
  · have e : σ.flush = (10, σ) := by simp [Dk.flush, hdn]
    rw [e]
    rw [hdn] at h2
    have HX := hid H0
    clear e hdn H0 HD
    go_enter Tryd.func76, Tryd.ntmps76
    go_wp2
    go_ret
    exact ⟨rfl, HX.out⟩

theorem ref_on {w0 w : World} {ps : List HP} {r : Nat} {σ : Dk} (H : St w0 w (refP r σ :: ps)) (wv : Value) (keep : List Bool) (hk : Safe w0 ps wv (keep.map Value.bool)) :
    Calls Tryd.prog 59 #[.pointer (some ⟨r, 0, none⟩), wv] w fun e w' => e = .returned (.int .i64 (σ.on keep).1) ∧ St w0 w' (refP r (σ.on keep).2 :: ps) := by
  have H0 := H
  have HD := fun W (hW : W = w) => hW ▸ ref_keep H false wv keep hk
  obtain ⟨kv, pv, ok, H⟩ := ref_open H
  have h2 := (H.obj 0 rfl).cell 2
  simp only [refCells, List.getElem?_cons_succ, List.getElem?_cons_zero] at h2
  have OK := hid (Dk.on_ok ok keep)
  clear H ok
  cases hdn : σ.down
  · have e : σ.on keep = (9, σ) := by simp [Dk.on, hdn]
    rw [e]
    rw [hdn] at h2
    have HX := hid H0
    clear e hdn H0 HD hk OK
    go_enter Tryd.func59, Tryd.ntmps59
    go_wp2
    go_ret
    exact ⟨rfl, HX.out⟩
  · have e : σ.on keep = (0, { σ with kept := keepAll σ.kept (marked keep 0 σ.pend), pend := [], down := false, armed := false, left := 0 }) := by simp [Dk.on, hdn]
    rw [e] at OK ⊢
    rw [hdn] at h2
    clear e hdn H0 hk
    go_enter Tryd.func59, Tryd.ntmps59
    go_wp2_with fail
    refine (HD _ rfl).mono ?_
    rintro e w1 ⟨rfl, H1⟩
    obtain ⟨kv1, pv1, -, H1⟩ := ref_open H1
    have hd := H1.obj 0 rfl
    have f2 := hd.frozen 2
    have f3 := hd.frozen 3
    have g2 := hd.cell 2
    have g3 := hd.cell 3
    simp only [refCells, List.getElem?_cons_succ, List.getElem?_cons_zero] at g2 g3
    have HH := hid H1
    clear HD H1 hd
    go_wp2
    go_ret
    refine ⟨rfl, ref_close OK.out (kv := kv1) (pv := pv1) ?_⟩
    have H2 := (HH.out.set 0 rfl 2 (.bool false)).set 0 rfl 3 (.int .i64 (-1))
    simpa [refCells, refLeft, Dk.keptBy, selTo] using H2

theorem ref_new_bad (n : Int) (w : World) (h : n < 1 ∨ 65536 < n) :
    Calls Tryd.prog 28 #[.int .i64 n] w fun e w' => e = .returned (.tuple #[.pointer none, .int .i64 2]) ∧ w = w' := by
  by_cases h1 : n < 1
  · clear h
    go_enter Tryd.func28, Tryd.ntmps28
    go_wp2
    go_ret2
    exact ⟨rfl, rfl⟩
  · have h2 : 65536 < n := by omega
    clear h
    go_enter Tryd.func28, Tryd.ntmps28
    go_wp2
    go_ret2
    exact ⟨rfl, rfl⟩

theorem info_strR : ∃ i, Tryd.prog.info? 9 = some i ∧ i.zero = some (.string ⟨#[]⟩) ∧ i.size = 1 ∧ i.bytes = 16 := by
  have h : (Tryd.prog.info? 9).map (fun i => (i.zero, i.size, i.bytes)) = some (some (.string ⟨#[]⟩), 1, 16) := by kernel_rfl
  cases hq : Tryd.prog.info? 9 with
  | none => simp [hq] at h
  | some i => exact ⟨i, rfl, by simpa [hq] using h⟩

def zeroSec : List UInt8 := List.replicate 64 0
theorem pad_nil : pad [] = zeroSec := rfl

set_option maxRecDepth 10000 in
theorem ref_new_ok {w0 w : World} {ps : List HP} (H : St w0 w ps) (m : Nat) (h1 : 1 ≤ m) (h2 : m ≤ 65536) :
    Calls Tryd.prog 28 #[.int .i64 (m : Int)] w fun e w' => ∃ r, e = .returned (.tuple #[.pointer (some ⟨r, 0, none⟩), .int .i64 0]) ∧ St w0 w' (refP r (Dk.new m) :: ps) := by
  obtain ⟨nf, hi', hz', hs2, hb2⟩ := info_strR
  have HI := hid (And.intro hi' (And.intro hz' (And.intro hs2 hb2)))
  obtain ⟨t, ht⟩ : ∃ t : ByteArray, Hid (t = ⟨zeroSec.toArray⟩) := ⟨_, hid rfl⟩
  have hFi : ∀ W, Calls Tryd.prog 52 #[.string ⟨#[]⟩] W fun e w' => e = .returned (.string t) ∧ W = w' := fun W => by rw [ht.out]; exact ref_filled ⟨#[]⟩ W (by simp [maxLen, ByteArray.size])
  have HM : ∃ kv, St w0 (w.alloc (.cells #[.slice none 0 0, .slice none 0 0, .bool false, .int .i64 (-1), .int .i64 0] 69)) (objP w.heap.size [kv, .slice none 0 0, .bool false, .int .i64 (-1), .int .i64 0] 69 :: slP kv 9 1 0 (List.replicate 0 (.string t)) :: ps) :=
    ⟨.slice none 0 0, ((H.alloc [.slice none 0 0, .slice none 0 0, .bool false, .int .i64 (-1), .int .i64 0] 69).nil 9 1).perm (List.Perm.swap _ _ _)⟩
  clear hi' hz' hs2 hb2 H
  go_enter Tryd.func28, Tryd.ntmps28
  go_wp2
  generalize w.heap.size = r at *
  go_loopw [5] (fun iv wr => ∃ k : Nat, k ≤ m ∧ iv = .int .i64 (k : Int) ∧ ∃ kv, St w0 wr (objP r [kv, .slice none 0 0, .bool false, .int .i64 (-1), .int .i64 0] 69 :: slP kv 9 1 k (List.replicate k (.string t)) :: ps)) (fun iv _ => m - (intOf iv).toNat)
  case atStart => exact ⟨0, Nat.zero_le _, rfl, HM⟩
  case round =>
    obtain ⟨k, hk, rfl, kv, hH⟩ := hrel
    clear HM
    by_cases hlt : k < m
    · have hlt' : (k : Int) < (m : Int) := by omega
      obtain ⟨ao, cap, rfl, -, -⟩ := (hH.sl 1 rfl).shape
      have hd := hH.obj 0 rfl
      have c0 := hd.cell 0
      have f0 := hd.frozen 0
      simp only [List.getElem?_cons_zero] at c0
      have hL := hd.lt
      have HH := hid hH
      clear hH hd
      go_upto_region 7 with (fail)
      refine wp_region_ord (by kernel_rfl) (fun W => W.cell? ⟨r, 0, none⟩ = some (.slice ao k cap)) 8 [(0, true), (1, true), (2, true), (3, true), (4, true), (5, false), (6, false), (7, false)] (by kernel_rfl) ?hq c0 ?_
      case hq => intro c a dd v w h; cases dd <;> exact h
      iterate 5 (refine wpOrd_read (v := _) rfl rfl (by intro w' hS; have s1 := hS; clear hS; go_simp; rfl) ?_; (try simp only [Act.put, List.setIfInBounds_toArray, List.set_cons_succ, List.set_cons_zero, List.getElem_toArray, List.getElem_cons_succ, List.getElem_cons_zero]))
      refine wpOrd_do rfl rfl (fun K hK => ?_)
      go_simp
      refine (hFi _).mono ?_
      rintro e w1 ⟨rfl, rfl⟩
      refine hK _ _ ⟨c0, ?_⟩
      clear hK K
      (try simp only [Act.put, List.setIfInBounds_toArray, List.set_cons_succ, List.set_cons_zero, List.getElem_toArray, List.getElem_cons_succ, List.getElem_cons_zero])
      have HD := hid HH.out.drew
      have c0' : wr.drew.cell? ⟨r, 0, none⟩ = some (.slice ao k cap) := c0
      have f0' : wr.drew.frozen? ⟨r, 0, none⟩ = false := f0
      have hL' : r < wr.drew.heap.size := hL
      generalize wr.drew = wd at *
      clear c0 f0 hL
      refine wpOrd_do rfl rfl (fun K hK => ?_)
      go_simp
      have A1 := At.new wd [.string t] 9
      have HD2 := hid (HD.out.quiet ((Pres.refl [] wd).alloc (.cells #[.string t] 9)))
      have c2 : (wd.alloc (.cells #[.string t] 9)).cell? ⟨r, 0, none⟩ = some (.slice ao k cap) := ((Pres.refl [] wd).alloc (.cells #[.string t] 9)).cell c0' (by simp)
      refine hK _ _ ⟨c2, ?_⟩
      clear hK K
      (try simp only [Act.put, List.setIfInBounds_toArray, List.set_cons_succ, List.set_cons_zero, List.getElem_toArray, List.getElem_cons_succ, List.getElem_cons_zero])
      refine wpOrd_do rfl rfl (fun K hK => ?_)
      refine wp_app (.tmp 23) (.tmp 25) 31 31 rfl 9 nf _ 1 Tryd.underlying31 HI.out.1 HI.out.2.1 HI.out.2.2.1 rfl _ k _ rfl (HD2.out.sl 1 rfl) 1 [.string t] (Src.at Tryd.underlying31 A1 rfl (by simp [Value.oneCell'])) (by simp only [maxLen]; omega) (by rw [HI.out.2.2.2]; omega) ?_
      intro v5 w5 Y1 Y2 Y3
      have H5 := hid (HD2.out.grow 1 rfl Y1 Y2 Y3)
      obtain ⟨ao5, cap5, rfl, -, -⟩ := Y1.shape
      have hd5 := H5.out.obj 0 rfl
      have c5 := hd5.cell 0
      have f5 := hd5.frozen 0
      simp only [List.getElem?_cons_zero] at c5
      refine hK _ _ ⟨c5, ?_⟩
      clear hK K Y1 Y2 Y3 hd5
      (try simp only [Act.put, List.setIfInBounds_toArray, List.set_cons_succ, List.set_cons_zero, List.getElem_toArray, List.getElem_cons_succ, List.getElem_cons_zero])
      refine wpOrd_end ?_
      simp only [List.drop_succ_cons, List.drop_zero]
      clear c0' f0' c2 A1 HH HD HD2
      go_wp2
      go_roundw
      case rel => exact ⟨k + 1, by omega, by go_num, _, by rw [List.replicate_succ']; exact H5.out.set 0 rfl 0 (.slice ao5 (k + 1) cap5)⟩
      case measure => first | (simp [intOf]; done) | (simp [intOf]; omega)
    · have hend : ¬ (k : Int) < (m : Int) := by omega
      have ek : k = m := by omega
      subst ek
      have HH := hid hH
      clear hH
      go_wp2
      go_ret2
      refine ⟨r, rfl, ref_close (Dk.new_ok (by omega) h2) (kv := kv) (pv := .slice none 0 0) ?_⟩
      have H3 := (HH.out.nil 103 2).perm ((List.Perm.swap _ _ _).trans ((List.Perm.swap _ _ _).cons _))
      have e1 : (Dk.new k).kept.map strV = List.replicate k (.string t) := by
        rw [ht.out]
        simp [Dk.new, strV, zeroSec]
      rw [e1]
      have e2 : (Dk.new k).kept.length = k := by simp [Dk.new]
      rw [e2]
      exact H3

end Go.Proofs.YtjaabhdgahljcaaDoor
