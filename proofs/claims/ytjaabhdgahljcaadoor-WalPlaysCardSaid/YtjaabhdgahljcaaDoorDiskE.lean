/- Flush and On; the conditions stand in the theorems. -/
import Derived.Test.YtjaabhdgahljcaaDoorDiskD
namespace Go.Proofs.YtjaabhdgahljcaaDoor
open Go.RowKit

theorem keptCells_length {σ : Dk} (ok : σ.Ok) {ps : List (Nat × List UInt8)} {k : Nat} (_h : ps = σ.pend.take k := by rfl) : (keptCells (keepAll σ.kept ps)).length = σ.kept.length * 64 := by
  subst _h
  have := flat_length (f := blockCells) (sz := 64) (l := keepAll σ.kept (σ.pend.take k)) (fun x hx => by rw [length_blockCells]; exact keepAll_full _ _ ok.full (fun p hp => (ok.pend p (List.mem_of_mem_take hp)).2) x hx)
  rw [keepAll_length] at this
  exact this

theorem flush_bad {w : World} {d : Nat} {fp : List Nat} {σ : Dk} (h : DiskAt w d fp σ) (hb : σ.down = true ∨ σ.does.1 ≠ 0) :
    Calls Tryd.prog 70 #[.pointer (some ⟨d, 0, none⟩)] w fun e w' => e = .returned (.int .i64 10) ∧ DiskStep w d fp (σ.flush).2 w' := by
  have hu := fun W (hW : W = w) => hW ▸ disk_up h
  have hd := fun W (hW : W = w) => hW ▸ disk_does h
  have hR := hid (DiskStep.refl h)
  clear h
  cases hdn : σ.down
  · have hg : σ.does.1 ≠ 0 := by simpa [hdn] using hb
    have e : σ.flush.2 = σ.does.2 := by unfold Dk.flush; rw [if_neg (by simp [hdn]), if_neg hg]
    have eu : σ.up = 0 := by simp [Dk.up, hdn]
    have ed : σ.does.1 = 10 := by unfold Dk.does at hg ⊢; split at hg <;> simp_all
    rw [e]
    rw [eu] at hu
    rw [ed] at hd
    clear hb hdn hg eu ed e
    go_enter Tryd.func70, Tryd.ntmps70
    go_wp2_with (first | (go_at_call 40; refine (hu _ rfl).mono ?_; rintro e w' ⟨rfl, rfl⟩) | (go_at_call 42; refine (hd _ rfl).mono ?_; rintro e w1 ⟨rfl, D1⟩))
    go_ret
    exact ⟨rfl, D1⟩
  · have e : σ.flush.2 = σ := by unfold Dk.flush; rw [if_pos hdn]
    have eu : σ.up = 10 := by simp [Dk.up, hdn]
    rw [e]
    rw [eu] at hu
    clear hb hdn eu e hd
    go_enter Tryd.func70, Tryd.ntmps70
    go_wp2_with (go_at_call 40; refine (hu _ rfl).mono ?_; rintro e w' ⟨rfl, rfl⟩)
    go_ret
    exact ⟨rfl, hR.out⟩

/-- What is known in the middle of a Flush or an On: the struct is as it was, the kept blocks are K. -/
def Mid (d kb : Nat) (pv : Value) (τ : Dk) (K : List (List UInt8)) (w1 wr : World) : Prop :=
  At wr d (diskCells kb pv τ) 87 ∧ At wr kb (keptCells K) 81 ∧ Sl wr 83 65 pv τ.pend.length (pendCells τ.pend) ∧ Pres [kb] w1 wr

theorem Mid.next {d kb : Nat} {pv : Value} {τ : Dk} {K : List (List UInt8)} {w1 wr w' : World} (h : Mid d kb pv τ K w1 wr) (hp : Pres [] wr w') : Mid d kb pv τ K w1 w' :=
  ⟨h.1.pres hp (by simp), h.2.1.pres hp (by simp), h.2.2.1.pres hp (by simp), h.2.2.2.then hp⟩

theorem Mid.set {d kb : Nat} {pv : Value} {τ : Dk} {K : List (List UInt8)} {w1 wr w' : World} (h : Mid d kb pv τ K w1 wr) (n1 : d ≠ kb) (n3 : kb ∉ fpv pv) {p : Nat × List UInt8} (hK : ∀ b ∈ K, b.length = 64) (hp : p.1 < K.length) (hl : p.2.length = 64)
    (hw : At w' kb (splice (keptCells K) (p.1 * 64) (p.2.map byteV)) 81) (hP : Pres [kb] wr w') : Mid d kb pv τ (K.set p.1 p.2) w1 w' := by
  refine ⟨h.1.pres hP (by simpa using n1), ?_, h.2.2.1.pres hP (by intro k hk hm; simp at hm; subst hm; exact n3 hk), h.2.2.2.trans hP (by simp)⟩
  have e := flat_splice (f := blockCells) (sz := 64) (l := K) (i := p.1) (y := p.2) (fun x hx => by rw [length_blockCells]; exact hK x hx) (by rw [length_blockCells, hl]) hp
  have : splice (keptCells K) (p.1 * 64) (p.2.map byteV) = keptCells (K.set p.1 p.2) := e
  rw [← this]
  exact hw

theorem keepAll_take (kept : List (List UInt8)) (ps : List (Nat × List UInt8)) (k : Nat) (q : Nat × List UInt8) (h : ps[k]? = some q) : keepAll kept (ps.take (k + 1)) = (keepAll kept (ps.take k)).set q.1 q.2 := by
  obtain ⟨hk, rfl⟩ := List.getElem?_eq_some_iff.1 h
  rw [List.take_succ_eq_append_getElem hk, keepAll_snoc]

set_option maxHeartbeats 1000000 in
theorem flush_good {w : World} {d : Nat} {fp : List Nat} {σ : Dk} (h : DiskAt w d fp σ) (hdn : σ.down = false) (hg : σ.does.1 = 0) :
    Calls Tryd.prog 70 #[.pointer (some ⟨d, 0, none⟩)] w fun e w' => e = .returned (.int .i64 0) ∧ DiskStep w d fp (σ.does.2.settle) w' := by
  have hu := fun W (hW : W = w) => hW ▸ disk_up h
  have hd := fun W (hW : W = w) => hW ▸ disk_does h
  have eu : σ.up = 0 := by simp [Dk.up, hdn]
  rw [eu] at hu
  rw [hg] at hd
  clear h hdn eu hg
  go_enter Tryd.func70, Tryd.ntmps70
  go_upto_region 7 with (first | (go_at_call 40; refine (hu _ rfl).mono ?_; rintro e w' ⟨rfl, rfl⟩) | (go_at_call 42; refine (hd _ rfl).mono ?_; rintro e w1 ⟨rfl, D1⟩))
  clear hu hd
  obtain ⟨fp1, hD, P1, F1⟩ := D1
  generalize hτ : σ.does.2 = τ at *
  have Hτ := hid hτ
  clear hτ
  obtain ⟨kb, pv, rfl, n1, n2, n3, A1, A2, A3, ok⟩ := hD
  obtain ⟨ao, cap, epv, hc1, hc2⟩ := A3.shape
  subst epv
  have h0 := A1.cell 0
  have h1 := A1.cell 1
  simp only [diskCells, List.getElem?_cons_succ, List.getElem?_cons_zero] at h0 h1
  have hmax : τ.pend.length ≤ 9223372036854775807 := by simp only [maxLen] at hc2; omega
  have HM : Mid d kb (.slice ao τ.pend.length cap) τ (keepAll τ.kept (τ.pend.take 0)) w1 w1 := ⟨A1, A2, A3, Pres.refl _ _⟩
  have HH := And.intro ok (And.intro n1 (And.intro n2 (And.intro n3 (And.intro P1 (And.intro F1 A1.lt)))))
  clear A1 A2 A3 ok n1 n2 n3 P1 F1 hc1 hc2
  go_wp2_with fail
  go_loopw [22] (fun v wr => ∃ k : Nat, k ≤ τ.pend.length ∧ v = .int .i64 (k : Int) ∧ Mid d kb (.slice ao τ.pend.length cap) τ (keepAll τ.kept (τ.pend.take k)) w1 wr) (fun v _ => τ.pend.length - (intOf v).toNat)
  case atStart => exact ⟨0, Nat.zero_le _, rfl, HM⟩
  case round =>
    obtain ⟨k, hk, rfl, hM⟩ := hrel
    clear h0 h1 HM
    by_cases hlt : k < τ.pend.length
    · obtain ⟨g, cap', cur, e1, hg, -, -, hcl, htake⟩ := hM.2.2.1.get (by omega)
      simp only [Value.slice.injEq] at e1
      obtain ⟨rfl, -, rfl⟩ := e1
      obtain ⟨q, hq⟩ : ∃ q, τ.pend[k]? = some q := ⟨τ.pend[k], List.getElem?_eq_getElem hlt⟩
      have hpiece := hid (pend_piece HH.1 hq)
      rw [← take_drop_take htake (by omega)] at hpiece
      have hq2 := HH.1.pend q (List.mem_of_getElem? hq)
      have hfit : k * 65 + 65 ≤ cur.length := by
        have : (cur.take (τ.pend.length * 65)).length = τ.pend.length * 65 := by rw [htake]; exact hM.2.2.1.1
        rw [List.length_take] at this
        omega
      have g0 := hM.1.cell 0
      simp only [diskCells, List.getElem?_cons_succ, List.getElem?_cons_zero] at g0
      have hqi : (q.1 : Int) ≤ 9223372036854775807 := by have := hq2.1; have := HH.1.most; omega
      have hql : (q.1 : Int) < (τ.kept.length : Int) := by have := hq2.1; omega
      have hwl : (writeCells q).length = 65 := by rw [length_writeCells, hq2.2]
      have HQ := hid hq
      have hdl : d < wr.heap.size := hM.1.lt
      clear hq htake hcl
      go_upto_region 10 with (first | ((with_reducible refine at_load ?_); refine wpL_load rfl 83 (.tmp 24) rfl g (k * 65) 65 rfl cur 83 hg agg_write size_write hfit ?_) | ((with_reducible refine at_alloc ?_); refine wpL_alloc rfl 83 rfl (Value.int .i64 0 :: List.replicate 64 (byteV 0)) zero_write ?_; intro w2 A3 P3 S3) | ((with_reducible refine at_store ?_); refine wpL_store rfl 83 (.tmp 6) (.tmp 25) rfl wr.heap.size 0 65 rfl _ rfl _ 83 A3 size_write (by rw [hpiece.out, length_writeCells, hq2.2]) (by simp) (by rw [hpiece.out]; exact writes_one q) ?_; intro w3 A4 P4 S4; rw [hpiece.out, splice_full _ _ (by rw [length_writeCells, hq2.2]; simp)] at A4))
      have PM : Pres [] wr w3 := P3.trans P4 (by simp)
      have hM3 := hM.next PM
      have g3 := PM.cell g0 (by simp)
      refine wp_region_ord (by kernel_rfl) (fun W => W.cell? ⟨d, 0, none⟩ = some (.slice (some ⟨kb, 0, none⟩) τ.kept.length τ.kept.length) ∧ At W wr.heap.size (writeCells q) 83) 8
        [(0, true), (1, true), (2, true), (3, true), (4, true), (5, true), (6, true), (7, true)] (by kernel_rfl) ?hq ⟨g3, A4.drew⟩ ?_
      case hq => intro c a dd v w h; cases dd <;> exact h
      (try simp only [Act.put, List.setIfInBounds_toArray, List.set_cons_succ, List.set_cons_zero, List.getElem_toArray, List.getElem_cons_succ, List.getElem_cons_zero])
      iterate 7 (refine wpOrd_read (v := _) rfl rfl (by intro w' hS; have hs1 := hS.1; have hs2 := hS.2.cell 0; simp only [writeCells, List.getElem?_cons_zero] at hs2; clear hS; go_simp; rfl) ?_; (try simp only [Act.put, List.setIfInBounds_toArray, List.set_cons_succ, List.set_cons_zero, List.getElem_toArray, List.getElem_cons_succ, List.getElem_cons_zero]))
      refine wpOrd_read (v := _) rfl rfl (by intro w' hS; exact run_load_agg (n := 64) rfl rfl hS.2 agg_block size_block (by omega)) ?_
      rw [write_text hq2.2]
      (try simp only [Act.put, List.setIfInBounds_toArray, List.set_cons_succ, List.set_cons_zero, List.getElem_toArray, List.getElem_cons_succ, List.getElem_cons_zero])
      refine wpOrd_end ?_
      simp only [List.drop_succ_cons, List.drop_zero]
      have hM4 : Mid d kb (.slice (some ⟨g, 0, none⟩) τ.pend.length cap) τ (keepAll τ.kept (τ.pend.take k)) w1 w3.drew := hM3.next (Pres.refl _ _).drew
      generalize w3.drew = w4 at *
      clear hM hM3 g3 A4 hg P3 P4 A3 S3 S4 PM hpiece
      go_wp2_with ((with_reducible refine at_store ?_); refine wpL_store rfl 81 (.tmp 34) (.tmp 33) rfl kb (q.1 * 64) 64 rfl (q.2.map byteV) rfl _ 81 hM4.2.1 size_block (by simp [hq2.2]) (by rw [keptCells_length HH.1]; omega) bytes_one ?_; intro w5 A6 P6 S6; have hM5 := hM4.set HH.2.1 HH.2.2.2.1 (keepAll_full _ _ HH.1.full (fun p hp => (HH.1.pend p (List.mem_of_mem_take hp)).2)) (by rw [keepAll_length]; exact hq2.1) hq2.2 A6 P6)
      rw [← keepAll_take _ _ _ _ HQ.out] at hM5
      go_roundw
      case rel => exact ⟨k + 1, by omega, by go_num, hM5⟩
      case measure => simp [intOf]; omega
    · have hend : ¬ (k : Int) < (τ.pend.length : Int) := by omega
      have ek : k = τ.pend.length := by omega
      subst ek
      rw [List.take_length] at hM
      have f1 := hM.1.frozen 1
      have c1 := hM.1.cell 1
      simp only [diskCells, List.getElem?_cons_succ, List.getElem?_cons_zero] at c1
      go_wp2
      go_ret
      refine ⟨rfl, ?_⟩
      rw [Hτ.out]
      obtain ⟨ok, n1, n2, n3, P1, F1, -⟩ := HH
      have PS : Pres [d] wr (wr.setCell ⟨d, 1, none⟩ (.slice none 0 0)) := (Pres.refl _ _).setCell (by simp) _
      have PT : Pres (d :: kb :: fpv (.slice ao τ.pend.length cap)) w1 (wr.setCell ⟨d, 1, none⟩ (.slice none 0 0)) := (hM.2.2.2.wider (by simp)).trans PS (by simp)
      refine ⟨[d, kb], ⟨kb, .slice none 0 0, rfl, n1, by simp [fpv], by simp [fpv], ?_, ?_, Sl.nil _ _ _, Dk.settle_ok ok⟩, P1.trans PT F1, ?_⟩
      · have := hM.1.setCell 1 (.slice none 0 0)
        simpa [diskCells, Dk.settle, keepAll_length] using this
      · exact hM.2.1.pres PS (by simpa using Ne.symm n1)
      · intro x hx
        exact F1 x (by simp at hx ⊢; rcases hx with rfl | rfl <;> simp)

end Go.Proofs.YtjaabhdgahljcaaDoor
