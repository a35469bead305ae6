/- Parts of the proof: Flush and On; the conditions stand in the theorems. -/
import Derived.Test.YtnffnpndnaofhaaGreatDoorQah
import Derived.Test.YtnffnpndnaofhaaGreatDoorQab

/- Flush and On; the conditions stand in the theorems. -/
namespace Go.Proofs.YtnffnpndnaofhaaGreatDoor
open Go.RowKit

theorem keptCells_length {σ : Dk} (ok : σ.Ok) {ps : List (Nat × List UInt8)} {k : Nat} (_h : ps = σ.pend.take k := by rfl) : (keptCells (keepAll σ.kept ps)).length = σ.kept.length * 64 := by
  subst _h
  have := flat_length (f := blockCells) (sz := 64) (l := keepAll σ.kept (σ.pend.take k)) (fun x hx => by rw [length_blockCells]; exact keepAll_full _ _ ok.full (fun p hp => (ok.pend p (List.mem_of_mem_take hp)).2) x hx)
  rw [keepAll_length] at this
  exact this

theorem flush_bad {w : World} {d : Nat} {fp : List Nat} {σ : Dk} (h : DiskAt w d fp σ) (hb : σ.down = true ∨ σ.does.1 ≠ 0) :
    Calls Tryz.prog 83 #[.pointer (some ⟨d, 0, none⟩)] w fun e w' => e = .returned (.int .i64 10) ∧ DiskStep w d fp (σ.flush).2 w' := by
  have hu := fun W (hW : W = w) => hW ▸ disk_up h
  have hd := fun W (hW : W = w) => hW ▸ disk_does h
  have hR := hid (DiskStep.refl h)
  clear h
  cases hdn : σ.down
  · have hg : σ.does.1 ≠ 0 := by simpa [hdn] using hb
    have e : σ.flush.2 = σ.does.2 := by unfold Dk.flush; rw [if_neg (by simp [hdn]), if_neg hg]
    have eu : σ.up = 0 := by simp [Dk.up, hdn]
    have ed : σ.does.1 = 10 := by unfold Dk.does at hg ⊢; split at hg <;> simp_all
    rw [e]
    rw [eu] at hu
    rw [ed] at hd
    clear hb hdn hg eu ed e
    go_enter Tryz.func83, Tryz.ntmps83
    go_wp2_with (first | (go_at_call 40; refine (hu _ rfl).mono ?_; rintro e w' ⟨rfl, rfl⟩) | (go_at_call 112; refine (hd _ rfl).mono ?_; rintro e w1 ⟨rfl, D1⟩))
    go_ret
    exact ⟨rfl, D1⟩
  · have e : σ.flush.2 = σ := by unfold Dk.flush; rw [if_pos hdn]
    have eu : σ.up = 10 := by simp [Dk.up, hdn]
    rw [e]
    rw [eu] at hu
    clear hb hdn eu e hd
    go_enter Tryz.func83, Tryz.ntmps83
    go_wp2_with (go_at_call 40; refine (hu _ rfl).mono ?_; rintro e w' ⟨rfl, rfl⟩)
    go_ret
    exact ⟨rfl, hR.out⟩

/-- What is known in the middle of a Flush or an On: the struct is as it was, the kept blocks are K. -/
def Mid (d kb : Nat) (pv : Value) (τ : Dk) (K : List (List UInt8)) (w1 wr : World) : Prop :=
  At wr d (diskCells kb pv τ) 88 ∧ At wr kb (keptCells K) 111 ∧ Sl wr 113 65 pv τ.pend.length (pendCells τ.pend) ∧ Pres [kb] w1 wr

theorem Mid.next {d kb : Nat} {pv : Value} {τ : Dk} {K : List (List UInt8)} {w1 wr w' : World} (h : Mid d kb pv τ K w1 wr) (hp : Pres [] wr w') : Mid d kb pv τ K w1 w' :=
  ⟨h.1.pres hp (by simp), h.2.1.pres hp (by simp), h.2.2.1.pres hp (by simp), h.2.2.2.then hp⟩

theorem Mid.set {d kb : Nat} {pv : Value} {τ : Dk} {K : List (List UInt8)} {w1 wr w' : World} (h : Mid d kb pv τ K w1 wr) (n1 : d ≠ kb) (n3 : kb ∉ fpv pv) {p : Nat × List UInt8} (hK : ∀ b ∈ K, b.length = 64) (hp : p.1 < K.length) (hl : p.2.length = 64)
    (hw : At w' kb (splice (keptCells K) (p.1 * 64) (p.2.map byteV)) 111) (hP : Pres [kb] wr w') : Mid d kb pv τ (K.set p.1 p.2) w1 w' := by
  refine ⟨h.1.pres hP (by simpa using n1), ?_, h.2.2.1.pres hP (by intro k hk hm; simp at hm; subst hm; exact n3 hk), h.2.2.2.trans hP (by simp)⟩
  have e := flat_splice (f := blockCells) (sz := 64) (l := K) (i := p.1) (y := p.2) (fun x hx => by rw [length_blockCells]; exact hK x hx) (by rw [length_blockCells, hl]) hp
  have : splice (keptCells K) (p.1 * 64) (p.2.map byteV) = keptCells (K.set p.1 p.2) := e
  rw [← this]
  exact hw

theorem keepAll_take (kept : List (List UInt8)) (ps : List (Nat × List UInt8)) (k : Nat) (q : Nat × List UInt8) (h : ps[k]? = some q) : keepAll kept (ps.take (k + 1)) = (keepAll kept (ps.take k)).set q.1 q.2 := by
  obtain ⟨hk, rfl⟩ := List.getElem?_eq_some_iff.1 h
  rw [List.take_succ_eq_append_getElem hk, keepAll_snoc]

set_option maxHeartbeats 1000000 in
theorem flush_good {w : World} {d : Nat} {fp : List Nat} {σ : Dk} (h : DiskAt w d fp σ) (hdn : σ.down = false) (hg : σ.does.1 = 0) :
    Calls Tryz.prog 83 #[.pointer (some ⟨d, 0, none⟩)] w fun e w' => e = .returned (.int .i64 0) ∧ DiskStep w d fp (σ.does.2.settle) w' := by
  have hu := fun W (hW : W = w) => hW ▸ disk_up h
  have hd := fun W (hW : W = w) => hW ▸ disk_does h
  have eu : σ.up = 0 := by simp [Dk.up, hdn]
  rw [eu] at hu
  rw [hg] at hd
  clear h hdn eu hg
  go_enter Tryz.func83, Tryz.ntmps83
  go_upto_region 7 with (first | (go_at_call 40; refine (hu _ rfl).mono ?_; rintro e w' ⟨rfl, rfl⟩) | (go_at_call 112; refine (hd _ rfl).mono ?_; rintro e w1 ⟨rfl, D1⟩))
  clear hu hd
  obtain ⟨fp1, hD, P1, F1⟩ := D1
  generalize hτ : σ.does.2 = τ at *
  have Hτ := hid hτ
  clear hτ
  obtain ⟨kb, pv, rfl, n1, n2, n3, A1, A2, A3, ok⟩ := hD
  obtain ⟨ao, cap, epv, hc1, hc2⟩ := A3.shape
  subst epv
  have h0 := A1.cell 0
  have h1 := A1.cell 1
  simp only [diskCells, List.getElem?_cons_succ, List.getElem?_cons_zero] at h0 h1
  have hmax : τ.pend.length ≤ 9223372036854775807 := by simp only [maxLen] at hc2; omega
  have HM : Mid d kb (.slice ao τ.pend.length cap) τ (keepAll τ.kept (τ.pend.take 0)) w1 w1 := ⟨A1, A2, A3, Pres.refl _ _⟩
  have HH := And.intro ok (And.intro n1 (And.intro n2 (And.intro n3 (And.intro P1 (And.intro F1 A1.lt)))))
  clear A1 A2 A3 ok n1 n2 n3 P1 F1 hc1 hc2
  go_wp2_with fail
  go_loopw [22] (fun v wr => ∃ k : Nat, k ≤ τ.pend.length ∧ v = .int .i64 (k : Int) ∧ Mid d kb (.slice ao τ.pend.length cap) τ (keepAll τ.kept (τ.pend.take k)) w1 wr) (fun v _ => τ.pend.length - (intOf v).toNat)
  case atStart => exact ⟨0, Nat.zero_le _, rfl, HM⟩
  case round =>
    obtain ⟨k, hk, rfl, hM⟩ := hrel
    clear h0 h1 HM
    by_cases hlt : k < τ.pend.length
    · obtain ⟨g, cap', cur, e1, hg, -, -, hcl, htake⟩ := hM.2.2.1.get (by omega)
      simp only [Value.slice.injEq] at e1
      obtain ⟨rfl, -, rfl⟩ := e1
      obtain ⟨q, hq⟩ : ∃ q, τ.pend[k]? = some q := ⟨τ.pend[k], List.getElem?_eq_getElem hlt⟩
      have hpiece := hid (pend_piece HH.1 hq)
      rw [← take_drop_take htake (by omega)] at hpiece
      have hq2 := HH.1.pend q (List.mem_of_getElem? hq)
      have hfit : k * 65 + 65 ≤ cur.length := by
        have : (cur.take (τ.pend.length * 65)).length = τ.pend.length * 65 := by rw [htake]; exact hM.2.2.1.1
        rw [List.length_take] at this
        omega
      have g0 := hM.1.cell 0
      simp only [diskCells, List.getElem?_cons_succ, List.getElem?_cons_zero] at g0
      have hqi : (q.1 : Int) ≤ 9223372036854775807 := by have := hq2.1; have := HH.1.most; omega
      have hql : (q.1 : Int) < (τ.kept.length : Int) := by have := hq2.1; omega
      have hwl : (writeCells q).length = 65 := by rw [length_writeCells, hq2.2]
      have HQ := hid hq
      have hdl : d < wr.heap.size := hM.1.lt
      clear hq htake hcl
      go_upto_region 10 with (first | ((with_reducible refine at_load ?_); refine wpL_load rfl 113 (.tmp 24) rfl g (k * 65) 65 rfl cur 113 hg agg_write size_write hfit ?_) | ((with_reducible refine at_alloc ?_); refine wpL_alloc rfl 113 rfl (Value.int .i64 0 :: List.replicate 64 (byteV 0)) zero_write ?_; intro w2 A3 P3 S3) | ((with_reducible refine at_store ?_); refine wpL_store rfl 113 (.tmp 6) (.tmp 25) rfl wr.heap.size 0 65 rfl _ rfl _ 113 A3 size_write (by rw [hpiece.out, length_writeCells, hq2.2]) (by simp) (by rw [hpiece.out]; exact writes_one q) ?_; intro w3 A4 P4 S4; rw [hpiece.out, splice_full _ _ (by rw [length_writeCells, hq2.2]; simp)] at A4))
      have PM : Pres [] wr w3 := P3.trans P4 (by simp)
      have hM3 := hM.next PM
      have g3 := PM.cell g0 (by simp)
      refine wp_region_ord (by kernel_rfl) (fun W => W.cell? ⟨d, 0, none⟩ = some (.slice (some ⟨kb, 0, none⟩) τ.kept.length τ.kept.length) ∧ At W wr.heap.size (writeCells q) 113) 8
        [(0, true), (1, true), (2, true), (3, true), (4, true), (5, true), (6, true), (7, true)] (by kernel_rfl) ?hq ⟨g3, A4.drew⟩ ?_
      case hq => intro c a dd v w h; cases dd <;> exact h
      (try simp only [Act.put, List.setIfInBounds_toArray, List.set_cons_succ, List.set_cons_zero, List.getElem_toArray, List.getElem_cons_succ, List.getElem_cons_zero])
      iterate 7 (refine wpOrd_read (v := _) rfl rfl (by intro w' hS; have hs1 := hS.1; have hs2 := hS.2.cell 0; simp only [writeCells, List.getElem?_cons_zero] at hs2; clear hS; go_simp; rfl) ?_; (try simp only [Act.put, List.setIfInBounds_toArray, List.set_cons_succ, List.set_cons_zero, List.getElem_toArray, List.getElem_cons_succ, List.getElem_cons_zero]))
      refine wpOrd_read (v := _) rfl rfl (by intro w' hS; exact run_load_agg (n := 64) rfl rfl hS.2 agg_block size_block (by omega)) ?_
      rw [write_text hq2.2]
      (try simp only [Act.put, List.setIfInBounds_toArray, List.set_cons_succ, List.set_cons_zero, List.getElem_toArray, List.getElem_cons_succ, List.getElem_cons_zero])
      refine wpOrd_end ?_
      simp only [List.drop_succ_cons, List.drop_zero]
      have hM4 : Mid d kb (.slice (some ⟨g, 0, none⟩) τ.pend.length cap) τ (keepAll τ.kept (τ.pend.take k)) w1 w3.drew := hM3.next (Pres.refl _ _).drew
      generalize w3.drew = w4 at *
      clear hM hM3 g3 A4 hg P3 P4 A3 S3 S4 PM hpiece
      go_wp2_with ((with_reducible refine at_store ?_); refine wpL_store rfl 111 (.tmp 34) (.tmp 33) rfl kb (q.1 * 64) 64 rfl (q.2.map byteV) rfl _ 111 hM4.2.1 size_block (by simp [hq2.2]) (by rw [keptCells_length HH.1]; omega) bytes_one ?_; intro w5 A6 P6 S6; have hM5 := hM4.set HH.2.1 HH.2.2.2.1 (keepAll_full _ _ HH.1.full (fun p hp => (HH.1.pend p (List.mem_of_mem_take hp)).2)) (by rw [keepAll_length]; exact hq2.1) hq2.2 A6 P6)
      rw [← keepAll_take _ _ _ _ HQ.out] at hM5
      go_roundw
      case rel => exact ⟨k + 1, by omega, by go_num, hM5⟩
      case measure => simp [intOf]; omega
    · have hend : ¬ (k : Int) < (τ.pend.length : Int) := by omega
      have ek : k = τ.pend.length := by omega
      subst ek
      rw [List.take_length] at hM
      have f1 := hM.1.frozen 1
      have c1 := hM.1.cell 1
      simp only [diskCells, List.getElem?_cons_succ, List.getElem?_cons_zero] at c1
      go_wp2
      go_ret
      refine ⟨rfl, ?_⟩
      rw [Hτ.out]
      obtain ⟨ok, n1, n2, n3, P1, F1, -⟩ := HH
      have PS : Pres [d] wr (wr.setCell ⟨d, 1, none⟩ (.slice none 0 0)) := (Pres.refl _ _).setCell (by simp) _
      have PT : Pres (d :: kb :: fpv (.slice ao τ.pend.length cap)) w1 (wr.setCell ⟨d, 1, none⟩ (.slice none 0 0)) := (hM.2.2.2.wider (by simp)).trans PS (by simp)
      refine ⟨[d, kb], ⟨kb, .slice none 0 0, rfl, n1, by simp [fpv], by simp [fpv], ?_, ?_, Sl.nil _ _ _, Dk.settle_ok ok⟩, P1.trans PT F1, ?_⟩
      · have := hM.1.setCell 1 (.slice none 0 0)
        simpa [diskCells, Dk.settle, keepAll_length] using this
      · exact hM.2.1.pres PS (by simpa using Ne.symm n1)
      · intro x hx
        exact F1 x (by simp at hx ⊢; rcases hx with rfl | rfl <;> simp)

end Go.Proofs.YtnffnpndnaofhaaGreatDoor

/- Flush in one contract, and On; the conditions stand in the theorems. -/
namespace Go.Proofs.YtnffnpndnaofhaaGreatDoor
open Go.RowKit

/-- Flush, whatever the state. -/
theorem disk_flush {w : World} {d : Nat} {fp : List Nat} {σ : Dk} (h : DiskAt w d fp σ) :
    Calls Tryz.prog 83 #[.pointer (some ⟨d, 0, none⟩)] w fun e w' => e = .returned (.int .i64 σ.flush.1) ∧ DiskStep w d fp σ.flush.2 w' := by
  by_cases hb : σ.down = true ∨ σ.does.1 ≠ 0
  · have e : σ.flush.1 = 10 := by
      unfold Dk.flush
      split
      · rfl
      · rename_i hd
        rw [if_neg (by rcases hb with h1 | h1 <;> simp_all)]
    rw [e]
    exact flush_bad h hb
  · have hdn : σ.down = false := by cases h1 : σ.down <;> simp_all
    have hg : σ.does.1 = 0 := by simpa [hdn] using hb
    have e : σ.flush = (0, σ.does.2.settle) := by unfold Dk.flush; rw [if_neg (by simp [hdn]), if_pos hg]
    rw [e]
    exact flush_good h hdn hg

theorem marked_take {keep : List Bool} {ps : List (Nat × List UInt8)} {k : Nat} {q : Nat × List UInt8} (h : ps[k]? = some q) :
    marked keep 0 (ps.take (k + 1)) = marked keep 0 (ps.take k) ++ (if keep.getD k false then [q] else []) := by
  obtain ⟨hk, rfl⟩ := List.getElem?_eq_some_iff.1 h
  rw [List.take_succ_eq_append_getElem hk, marked_snoc, List.length_take, Nat.zero_add, Nat.min_eq_left (by omega)]

theorem keptCells_length' {σ : Dk} (ok : σ.Ok) {ps : List (Nat × List UInt8)} (h : ∀ p ∈ ps, p ∈ σ.pend) : (keptCells (keepAll σ.kept ps)).length = σ.kept.length * 64 := by
  have := flat_length (f := blockCells) (sz := 64) (l := keepAll σ.kept ps) (fun x hx => by rw [length_blockCells]; exact keepAll_full _ _ ok.full (fun p hp => (ok.pend p (h p hp)).2) x hx)
  rw [keepAll_length] at this
  exact this

theorem on_bad {w : World} {d : Nat} {fp : List Nat} {σ : Dk} (h : DiskAt w d fp σ) (hdn : σ.down = false) (v : Value) :
    Calls Tryz.prog 34 #[.pointer (some ⟨d, 0, none⟩), v] w fun e w' => e = .returned (.int .i64 9) ∧ w = w' := by
  have hn := fun W (hW : W = w) => hW ▸ disk_none h
  obtain ⟨kb, pv, -, -, -, -, hd, -, -, ok⟩ := h
  have h2 := hd.cell 2
  simp only [diskCells, List.getElem?_cons_succ, List.getElem?_cons_zero] at h2
  rw [hdn] at h2
  clear ok hd hdn
  go_enter Tryz.func34, Tryz.ntmps34
  go_wp2_with (go_at_call 64; refine (hn _ rfl).mono ?_; rintro e w' ⟨rfl, rfl⟩)
  go_ret
  exact ⟨rfl, rfl⟩

set_option maxHeartbeats 2000000 in
theorem on_good {w : World} {d : Nat} {fp : List Nat} {σ : Dk} (h : DiskAt w d fp σ) (hdn : σ.down = true) {v : Value} {keep : List Bool} (hv : Reads w v (keep.map Value.bool)) (hap : keep ≠ [] → ∀ k ∈ fpv v, k ∉ fp) :
    Calls Tryz.prog 34 #[.pointer (some ⟨d, 0, none⟩), v] w fun e w' => e = .returned (.int .i64 0) ∧
      DiskStep w d fp { σ with kept := keepAll σ.kept (marked keep 0 σ.pend), pend := [], down := false, armed := false, left := 0 } w' := by
  have hn := fun W (hW : W = w) => hW ▸ disk_none h
  obtain ⟨kb, pv, rfl, n1, n2, n3, A1, A2, A3, ok⟩ := h
  obtain ⟨ao, cap, epv, hc1, hc2⟩ := A3.shape
  subst epv
  obtain ⟨av, capv, ev, hv1, hv2, -⟩ := id hv
  rw [List.length_map] at ev hv1
  subst ev
  have h0 := A1.cell 0
  have h1 := A1.cell 1
  have h2 := A1.cell 2
  simp only [diskCells, List.getElem?_cons_succ, List.getElem?_cons_zero] at h0 h1 h2
  rw [hdn] at h2
  have hmax : σ.pend.length ≤ 9223372036854775807 := by simp only [maxLen] at hc2; omega
  have hmaxk : keep.length ≤ 9223372036854775807 := by simp only [maxLen] at hv2; omega
  have HM : Mid d kb (.slice ao σ.pend.length cap) σ (keepAll σ.kept (marked keep 0 (σ.pend.take 0))) w w := ⟨A1, A2, A3, Pres.refl _ _⟩
  have HH := And.intro ok (And.intro n1 (And.intro n2 (And.intro n3 (And.intro hv (And.intro hap A1.lt)))))
  clear A1 A2 A3 ok n1 n2 n3 hc1 hc2 hv hap hv1 hv2 hdn
  go_enter Tryz.func34, Tryz.ntmps34
  go_wp2_with (go_at_call 64; refine (hn _ rfl).mono ?_; rintro e w' ⟨rfl, rfl⟩)
  go_loopw [21] (fun v wr => ∃ k : Nat, k ≤ σ.pend.length ∧ v = .int .i64 (k : Int) ∧ Mid d kb (.slice ao σ.pend.length cap) σ (keepAll σ.kept (marked keep 0 (σ.pend.take k))) w wr) (fun v _ => σ.pend.length - (intOf v).toNat)
  case atStart => exact ⟨0, Nat.zero_le _, rfl, HM⟩
  case round =>
    obtain ⟨k, hk, rfl, hM⟩ := hrel
    clear h0 h1 h2 HM hn
    by_cases hlt : k < σ.pend.length
    · obtain ⟨g, cap', cur, e1, hg, -, -, hcl, htake⟩ := hM.2.2.1.get (by omega)
      simp only [Value.slice.injEq] at e1
      obtain ⟨rfl, -, rfl⟩ := e1
      obtain ⟨q, hq⟩ : ∃ q, σ.pend[k]? = some q := ⟨σ.pend[k], List.getElem?_eq_getElem hlt⟩
      have hpiece := hid (pend_piece HH.1 hq)
      rw [← take_drop_take htake (by omega)] at hpiece
      have hq2 := HH.1.pend q (List.mem_of_getElem? hq)
      have hfit : k * 65 + 65 ≤ cur.length := by
        have : (cur.take (σ.pend.length * 65)).length = σ.pend.length * 65 := by rw [htake]; exact hM.2.2.1.1
        rw [List.length_take] at this
        omega
      have g0 := hM.1.cell 0
      simp only [diskCells, List.getElem?_cons_zero] at g0
      have hqi : (q.1 : Int) ≤ 9223372036854775807 := by have := hq2.1; have := HH.1.most; omega
      have hql : (q.1 : Int) < (σ.kept.length : Int) := by have := hq2.1; omega
      have hwl : (writeCells q).length = 65 := by rw [length_writeCells, hq2.2]
      have HT := hid (marked_take (keep := keep) hq)
      have hkl : (k : Int) < (σ.pend.length : Int) := by omega
      clear hq htake hcl
      go_upto_region 8 with (first | ((with_reducible refine at_load ?_); refine wpL_load rfl 113 (.tmp 24) rfl g (k * 65) 65 rfl cur 113 hg agg_write size_write hfit ?_) | ((with_reducible refine at_alloc ?_); refine wpL_alloc rfl 113 rfl (Value.int .i64 0 :: List.replicate 64 (byteV 0)) zero_write ?_; intro w2 A3 P3 S3) | ((with_reducible refine at_store ?_); refine wpL_store rfl 113 (.tmp 6) (.tmp 25) rfl wr.heap.size 0 65 rfl _ rfl _ 113 A3 size_write (by rw [hpiece.out, length_writeCells, hq2.2]) (by simp) (by rw [hpiece.out]; exact writes_one q) ?_; intro w3 A4 P4 S4; rw [hpiece.out, splice_full _ _ (by rw [length_writeCells, hq2.2]; simp)] at A4))
      have PM : Pres [] wr w3 := P3.trans P4 (by simp)
      have hM3 := hM.next PM
      have g3 := PM.cell g0 (by simp)
      have V3 : Reads w3 (.slice av keep.length capv) (keep.map Value.bool) := HH.2.2.2.2.1.pres hM3.2.2.2 (fun hne x hx hm => HH.2.2.2.2.2.1 (fun e => hne (by rw [e]; rfl)) x hx (by simp at hm; simp [hm]))
      clear hM hg P3 P4 A3 S3 S4 PM hpiece g0 hfit
      by_cases hkk : keep.getD k false = true
      · have hkl2 : k < keep.length := by
          rcases Nat.lt_or_ge k keep.length with h1 | h1
          · exact h1
          · rw [List.getD_eq_getElem?_getD, List.getElem?_eq_none h1] at hkk; cases hkk
        have hkl3 : (k : Int) < (keep.length : Int) := by omega
        have hke : keep[k] = true := by rw [List.getD_eq_getElem?_getD, List.getElem?_eq_getElem hkl2] at hkk; exact hkk
        obtain ⟨av', capv', ev, -, -, hv3⟩ := V3
        obtain ⟨b, off, ea, hcb⟩ := hv3 k (.bool true) (by rw [List.getElem?_map, List.getElem?_eq_getElem hkl2, hke]; rfl)
        simp only [List.length_map, Value.slice.injEq] at ev
        obtain ⟨rfl, -, rfl⟩ := ev
        subst ea
        rw [hkk, if_pos rfl] at HT
        clear hv3 hkk hke
        go_upto_region 9 with (fail)
        refine wp_region_ord (by kernel_rfl) (fun W => W.cell? ⟨d, 0, none⟩ = some (.slice (some ⟨kb, 0, none⟩) σ.kept.length σ.kept.length) ∧ At W wr.heap.size (writeCells q) 113) 8
          [(0, true), (1, true), (2, true), (3, true), (4, true), (5, true), (6, true), (7, true)] (by kernel_rfl) ?hq ⟨g3, A4.drew⟩ ?_
        case hq => intro c a dd v w h; cases dd <;> exact h
        iterate 7 (refine wpOrd_read (v := _) rfl rfl (by intro w' hS; have hs1 := hS.1; have hs2 := hS.2.cell 0; simp only [writeCells, List.getElem?_cons_zero] at hs2; clear hS; go_simp; rfl) ?_; (try simp only [Act.put, List.setIfInBounds_toArray, List.set_cons_succ, List.set_cons_zero, List.getElem_toArray, List.getElem_cons_succ, List.getElem_cons_zero]))
        refine wpOrd_read (v := _) rfl rfl (by intro w' hS; exact run_load_agg (n := 64) rfl rfl hS.2 agg_block size_block (by omega)) ?_
        rw [write_text hq2.2]
        (try simp only [Act.put, List.setIfInBounds_toArray, List.set_cons_succ, List.set_cons_zero, List.getElem_toArray, List.getElem_cons_succ, List.getElem_cons_zero])
        refine wpOrd_end ?_
        simp only [List.drop_succ_cons, List.drop_zero]
        have hM4 : Mid d kb (.slice (some ⟨g, 0, none⟩) σ.pend.length cap) σ (keepAll σ.kept (marked keep 0 (σ.pend.take k))) w w3.drew := hM3.next (Pres.refl _ _).drew
        generalize w3.drew = w4 at *
        clear hM3 g3 A4
        go_wp2_with ((with_reducible refine at_store ?_); refine wpL_store rfl 111 (.tmp 44) (.tmp 43) rfl kb (q.1 * 64) 64 rfl (q.2.map byteV) rfl _ 111 hM4.2.1 size_block (by simp [hq2.2]) (by rw [keptCells_length' HH.1 (fun p hp => List.mem_of_mem_take (marked_sub _ _ _ _ hp))]; omega) bytes_one ?_; intro w5 A6 P6 S6; have hM5 := hM4.set HH.2.1 HH.2.2.2.1 (keepAll_full _ _ HH.1.full (fun p hp => (HH.1.pend p (List.mem_of_mem_take (marked_sub _ _ _ _ hp))).2)) (by rw [keepAll_length]; exact hq2.1) hq2.2 A6 P6)
        rw [← keepAll_snoc, ← HT.out] at hM5
        go_roundw
        case rel => exact ⟨k + 1, by omega, by go_num, hM5⟩
        case measure => simp [intOf]; omega
      · have hkf : keep.getD k false = false := by simpa using hkk
        rw [hkf, if_neg (by simp), List.append_nil] at HT
        rw [← HT.out] at hM3
        by_cases hkl2 : k < keep.length
        · have hkl3 : (k : Int) < (keep.length : Int) := by omega
          have hke : keep[k] = false := by rw [List.getD_eq_getElem?_getD, List.getElem?_eq_getElem hkl2] at hkf; exact hkf
          obtain ⟨av', capv', ev, -, -, hv3⟩ := V3
          obtain ⟨b, off, ea, hcb⟩ := hv3 k (.bool false) (by rw [List.getElem?_map, List.getElem?_eq_getElem hkl2, hke]; rfl)
          simp only [List.length_map, Value.slice.injEq] at ev
          obtain ⟨rfl, -, rfl⟩ := ev
          subst ea
          clear hv3 hkk hke hkf
          go_wp2
          go_roundw
          case rel => exact ⟨k + 1, by omega, by go_num, hM3⟩
          case measure => simp [intOf]; omega
        · have hkl3 : ¬ (k : Int) < (keep.length : Int) := by omega
          clear hkk hkf V3
          go_wp2
          go_roundw
          case rel => exact ⟨k + 1, by omega, by go_num, hM3⟩
          case measure => simp [intOf]; omega
    · have hend : ¬ (k : Int) < (σ.pend.length : Int) := by omega
      have ek : k = σ.pend.length := by omega
      subst ek
      rw [List.take_length] at hM
      have f1 := hM.1.frozen 1
      have c1 := hM.1.cell 1
      have f2 := hM.1.frozen 2
      have c2 := hM.1.cell 2
      have f3 := hM.1.frozen 3
      have c3 := hM.1.cell 3
      have f4 := hM.1.frozen 4
      have c4 := hM.1.cell 4
      simp only [diskCells, List.getElem?_cons_succ, List.getElem?_cons_zero] at c1 c2 c3 c4
      go_wp2
      go_ret
      refine ⟨rfl, ?_⟩
      obtain ⟨ok, n1, n2, n3, -, -, -⟩ := HH
      have okn : ({ σ with kept := keepAll σ.kept (marked keep 0 σ.pend), pend := [], down := false, armed := false, left := 0 } : Dk).Ok := by
        have := Dk.on_ok (σ := { σ with down := true }) ⟨ok.pos, ok.most, ok.full, ok.pend, ok.left0, ok.left1⟩ keep
        simpa [Dk.on] using this
      have PS : Pres [d] wr ((((wr.setCell ⟨d, 1, none⟩ (.slice none 0 0)).setCell ⟨d, 2, none⟩ (.bool false)).setCell ⟨d, 3, none⟩ (.bool false)).setCell ⟨d, 4, none⟩ (.int .i64 0)) :=
        (((((Pres.refl _ _).setCell (by simp) _).setCell (by simp) _).setCell (by simp) _).setCell (by simp) _)
      have PT := (hM.2.2.2.wider (fq := d :: kb :: fpv (.slice ao σ.pend.length cap)) (by simp)).trans PS (by simp)
      refine ⟨[d, kb], ⟨kb, .slice none 0 0, rfl, n1, by simp [fpv], by simp [fpv], ?_, ?_, Sl.nil _ _ _, okn⟩, PT, ?_⟩
      · have := (((hM.1.setCell 1 (.slice none 0 0)).setCell 2 (.bool false)).setCell 3 (.bool false)).setCell 4 (.int .i64 0)
        simpa [diskCells, keepAll_length] using this
      · exact hM.2.1.pres PS (by simpa using Ne.symm n1)
      · intro x hx
        left
        simp at hx ⊢
        rcases hx with rfl | rfl <;> simp

/-- On, whatever the state. -/
theorem disk_on {w : World} {d : Nat} {fp : List Nat} {σ : Dk} (h : DiskAt w d fp σ) {v : Value} {keep : List Bool} (hv : Reads w v (keep.map Value.bool)) (hap : keep ≠ [] → ∀ k ∈ fpv v, k ∉ fp) :
    Calls Tryz.prog 34 #[.pointer (some ⟨d, 0, none⟩), v] w fun e w' => e = .returned (.int .i64 (σ.on keep).1) ∧ DiskStep w d fp (σ.on keep).2 w' := by
  cases hdn : σ.down
  · have e : σ.on keep = (9, σ) := by simp [Dk.on, hdn]
    rw [e]
    exact (on_bad h hdn v).mono fun e w' ⟨h1, h2⟩ => ⟨h1, h2 ▸ DiskStep.refl h⟩
  · have e : σ.on keep = (0, { σ with kept := keepAll σ.kept (marked keep 0 σ.pend), pend := [], down := false, armed := false, left := 0 }) := by simp [Dk.on, hdn]
    rw [e]
    exact on_good h hdn hv hap

end Go.Proofs.YtnffnpndnaofhaaGreatDoor

/- The disk's contracts on a state of pieces; all conditions stand in the theorems. -/
namespace Go.Proofs.YtnffnpndnaofhaaGreatDoor
open Go.RowKit

def diskP (d : Nat) (σ : Dk) : HP := ⟨fun w fp => DiskAt w d fp σ, DiskAt.lt, DiskAt.keep⟩

section
variable {w0 w : World} {ps : List HP} {d : Nat} {σ : Dk}

theorem sd_ok (H : St w0 w (diskP d σ :: ps)) : σ.Ok := by
  obtain ⟨f, h, -⟩ := H.get 0 rfl
  exact DiskAt.ok h

theorem sd_new (H : St w0 w ps) (n : Int) (h1 : 1 ≤ n) (h2 : n ≤ 65536) :
    Calls Tryz.prog 9 #[.int .i64 n] w fun e w' => ∃ d, e = .returned (.tuple #[.pointer (some ⟨d, 0, none⟩), .int .i64 0]) ∧ St w0 w' (diskP d (Dk.new n.toNat) :: ps) := by
  refine (new_ok' n w h1 h2).mono ?_
  rintro e w' ⟨d, fp, rfl, h3, h4, h5⟩
  exact ⟨d, rfl, H.fresh _ h4 ⟨fp, h3, h5⟩⟩

theorem sd_size (H : St w0 w (diskP d σ :: ps)) :
    Calls Tryz.prog 62 #[.pointer (some ⟨d, 0, none⟩)] w fun e w' => e = .returned (.int .i64 (σ.kept.length : Int)) ∧ w = w' := by
  obtain ⟨f, h, -⟩ := H.get 0 rfl
  exact disk_size h

theorem sd_down (H : St w0 w (diskP d σ :: ps)) :
    Calls Tryz.prog 33 #[.pointer (some ⟨d, 0, none⟩)] w fun e w' => e = .returned (.bool σ.down) ∧ w = w' := by
  obtain ⟨f, h, -⟩ := H.get 0 rfl
  exact disk_down h

theorem sd_read (H : St w0 w (diskP d σ :: ps)) (i : Int) :
    Calls Tryz.prog 75 #[.pointer (some ⟨d, 0, none⟩), .int .i64 i] w fun e w' => e = .returned (.tuple #[.string ⟨(σ.read i).1.toArray⟩, .int .i64 (σ.read i).2]) ∧ St w0 w' (diskP d σ :: ps) ∧ Pres [] w w' := by
  obtain ⟨f, h, -⟩ := H.get 0 rfl
  exact (disk_read h i).mono fun e w' h => ⟨h.1, H.quiet h.2, h.2⟩

theorem sd_write (H : St w0 w (diskP d σ :: ps)) (i : Int) (s : ByteArray) (hroom : σ.pend.length ≤ 1000000000) :
    Calls Tryz.prog 111 #[.pointer (some ⟨d, 0, none⟩), .int .i64 i, .string s] w fun e w' => e = .returned (.int .i64 (σ.write i s.data.toList).1) ∧ St w0 w' (diskP d (σ.write i s.data.toList).2 :: ps) :=
  H.run fun _ h => disk_write h i s hroom

theorem sd_flush (H : St w0 w (diskP d σ :: ps)) :
    Calls Tryz.prog 83 #[.pointer (some ⟨d, 0, none⟩)] w fun e w' => e = .returned (.int .i64 σ.flush.1) ∧ St w0 w' (diskP d σ.flush.2 :: ps) :=
  H.run fun _ h => disk_flush h

theorem sd_arm (H : St w0 w (diskP d σ :: ps)) (n : Int) (hb : n ≤ 9223372036854775807) :
    Calls Tryz.prog 32 #[.pointer (some ⟨d, 0, none⟩), .int .i64 n] w fun e w' => e = .returned (.int .i64 (σ.arm n).1) ∧ St w0 w' (diskP d (σ.arm n).2 :: ps) :=
  H.run fun _ h => disk_arm h n hb

theorem sd_off (H : St w0 w (diskP d σ :: ps)) :
    Calls Tryz.prog 10 #[.pointer (some ⟨d, 0, none⟩)] w fun e w' => e = .returned (.int .i64 σ.off.1) ∧ St w0 w' (diskP d σ.off.2 :: ps) :=
  H.run fun _ h => disk_off h

theorem sd_on (H : St w0 w (diskP d σ :: ps)) {v : Value} {keep : List Bool} (hs : Safe w0 ps v (keep.map Value.bool)) :
    Calls Tryz.prog 34 #[.pointer (some ⟨d, 0, none⟩), v] w fun e w' => e = .returned (.int .i64 (σ.on keep).1) ∧ St w0 w' (diskP d (σ.on keep).2 :: ps) :=
  H.runS hs fun _ h hd => disk_on h (hs.reads H.drop) (fun hk => hd (by simpa using hk))
end

end Go.Proofs.YtnffnpndnaofhaaGreatDoor
