/- Parts of the proof: Flush in one contract, and On; the conditions stand in the theorems. -/
import Derived.Test.YtnffnpndnaofhaaGreatDoorQac
import Derived.Test.YtnffnpndnaofhaaGreatDoorQaa
import Derived.Test.YtnffnpndnaofhaaGreatDoorQab
import Derived.Test.YtnffnpndnaofhaaGreatDoorShelf
import Derived.Deep.DeepMust
import Derived.Laws.DeepStrings4
import Derived.WalkSpells

/- Flush in one contract, and On; the conditions stand in the theorems. -/
namespace Go.Proofs.YtnffnpndnaofhaaGreatDoor
open Go.RowKit

/-- Flush, whatever the state. -/
theorem disk_flush {w : World} {d : Nat} {fp : List Nat} {σ : Dk} (h : DiskAt w d fp σ) :
    Calls Tryz.prog 83 #[.pointer (some ⟨d, 0, none⟩)] w fun e w' => e = .returned (.int .i64 σ.flush.1) ∧ DiskStep w d fp σ.flush.2 w' := by
  by_cases hb : σ.down = true ∨ σ.does.1 ≠ 0
  · have e : σ.flush.1 = 10 := by
      unfold Dk.flush
      split
      · rfl
      · rename_i hd
        rw [if_neg (by rcases hb with h1 | h1 <;> simp_all)]
    rw [e]
    exact flush_bad h hb
  · have hdn : σ.down = false := by cases h1 : σ.down <;> simp_all
    have hg : σ.does.1 = 0 := by simpa [hdn] using hb
    have e : σ.flush = (0, σ.does.2.settle) := by unfold Dk.flush; rw [if_neg (by simp [hdn]), if_pos hg]
    rw [e]
    exact flush_good h hdn hg

theorem marked_take {keep : List Bool} {ps : List (Nat × List UInt8)} {k : Nat} {q : Nat × List UInt8} (h : ps[k]? = some q) :
    marked keep 0 (ps.take (k + 1)) = marked keep 0 (ps.take k) ++ (if keep.getD k false then [q] else []) := by
  obtain ⟨hk, rfl⟩ := List.getElem?_eq_some_iff.1 h
  rw [List.take_succ_eq_append_getElem hk, marked_snoc, List.length_take, Nat.zero_add, Nat.min_eq_left (by omega)]

theorem keptCells_length' {σ : Dk} (ok : σ.Ok) {ps : List (Nat × List UInt8)} (h : ∀ p ∈ ps, p ∈ σ.pend) : (keptCells (keepAll σ.kept ps)).length = σ.kept.length * 64 := by
  have := flat_length (f := blockCells) (sz := 64) (l := keepAll σ.kept ps) (fun x hx => by rw [length_blockCells]; exact keepAll_full _ _ ok.full (fun p hp => (ok.pend p (h p hp)).2) x hx)
  rw [keepAll_length] at this
  exact this

theorem on_bad {w : World} {d : Nat} {fp : List Nat} {σ : Dk} (h : DiskAt w d fp σ) (hdn : σ.down = false) (v : Value) :
    Calls Tryz.prog 34 #[.pointer (some ⟨d, 0, none⟩), v] w fun e w' => e = .returned (.int .i64 9) ∧ w = w' := by
  have hn := fun W (hW : W = w) => hW ▸ disk_none h
  obtain ⟨kb, pv, -, -, -, -, hd, -, -, ok⟩ := h
  have h2 := hd.cell 2
  simp only [diskCells, List.getElem?_cons_succ, List.getElem?_cons_zero] at h2
  rw [hdn] at h2
  clear ok hd hdn
  go_enter Tryz.func34, Tryz.ntmps34
  go_wp2_with (go_at_call 64; refine (hn _ rfl).mono ?_; rintro e w' ⟨rfl, rfl⟩)
  go_ret
  exact ⟨rfl, rfl⟩

set_option maxHeartbeats 2000000 in
theorem on_good {w : World} {d : Nat} {fp : List Nat} {σ : Dk} (h : DiskAt w d fp σ) (hdn : σ.down = true) {v : Value} {keep : List Bool} (hv : Reads w v (keep.map Value.bool)) (hap : keep ≠ [] → ∀ k ∈ fpv v, k ∉ fp) :
    Calls Tryz.prog 34 #[.pointer (some ⟨d, 0, none⟩), v] w fun e w' => e = .returned (.int .i64 0) ∧
      DiskStep w d fp { σ with kept := keepAll σ.kept (marked keep 0 σ.pend), pend := [], down := false, armed := false, left := 0 } w' := by
  have hn := fun W (hW : W = w) => hW ▸ disk_none h
  obtain ⟨kb, pv, rfl, n1, n2, n3, A1, A2, A3, ok⟩ := h
  obtain ⟨ao, cap, epv, hc1, hc2⟩ := A3.shape
  subst epv
  obtain ⟨av, capv, ev, hv1, hv2, -⟩ := id hv
  rw [List.length_map] at ev hv1
  subst ev
  have h0 := A1.cell 0
  have h1 := A1.cell 1
  have h2 := A1.cell 2
  simp only [diskCells, List.getElem?_cons_succ, List.getElem?_cons_zero] at h0 h1 h2
  rw [hdn] at h2
  have hmax : σ.pend.length ≤ 9223372036854775807 := by simp only [maxLen] at hc2; omega
  have hmaxk : keep.length ≤ 9223372036854775807 := by simp only [maxLen] at hv2; omega
  have HM : Mid d kb (.slice ao σ.pend.length cap) σ (keepAll σ.kept (marked keep 0 (σ.pend.take 0))) w w := ⟨A1, A2, A3, Pres.refl _ _⟩
  have HH := And.intro ok (And.intro n1 (And.intro n2 (And.intro n3 (And.intro hv (And.intro hap A1.lt)))))
  clear A1 A2 A3 ok n1 n2 n3 hc1 hc2 hv hap hv1 hv2 hdn
  go_enter Tryz.func34, Tryz.ntmps34
  go_wp2_with (go_at_call 64; refine (hn _ rfl).mono ?_; rintro e w' ⟨rfl, rfl⟩)
  go_loopw [21] (fun v wr => ∃ k : Nat, k ≤ σ.pend.length ∧ v = .int .i64 (k : Int) ∧ Mid d kb (.slice ao σ.pend.length cap) σ (keepAll σ.kept (marked keep 0 (σ.pend.take k))) w wr) (fun v _ => σ.pend.length - (intOf v).toNat)
  case atStart => exact ⟨0, Nat.zero_le _, rfl, HM⟩
  case round =>
    obtain ⟨k, hk, rfl, hM⟩ := hrel
    clear h0 h1 h2 HM hn
    by_cases hlt : k < σ.pend.length
    · obtain ⟨g, cap', cur, e1, hg, -, -, hcl, htake⟩ := hM.2.2.1.get (by omega)
      simp only [Value.slice.injEq] at e1
      obtain ⟨rfl, -, rfl⟩ := e1
      obtain ⟨q, hq⟩ : ∃ q, σ.pend[k]? = some q := ⟨σ.pend[k], List.getElem?_eq_getElem hlt⟩
      have hpiece := hid (pend_piece HH.1 hq)
      rw [← take_drop_take htake (by omega)] at hpiece
      have hq2 := HH.1.pend q (List.mem_of_getElem? hq)
      have hfit : k * 65 + 65 ≤ cur.length := by
        have : (cur.take (σ.pend.length * 65)).length = σ.pend.length * 65 := by rw [htake]; exact hM.2.2.1.1
        rw [List.length_take] at this
        omega
      have g0 := hM.1.cell 0
      simp only [diskCells, List.getElem?_cons_zero] at g0
      have hqi : (q.1 : Int) ≤ 9223372036854775807 := by have := hq2.1; have := HH.1.most; omega
      have hql : (q.1 : Int) < (σ.kept.length : Int) := by have := hq2.1; omega
      have hwl : (writeCells q).length = 65 := by rw [length_writeCells, hq2.2]
      have HT := hid (marked_take (keep := keep) hq)
      have hkl : (k : Int) < (σ.pend.length : Int) := by omega
      clear hq htake hcl
      go_upto_region 8 with (first | ((with_reducible refine at_load ?_); refine wpL_load rfl 113 (.tmp 24) rfl g (k * 65) 65 rfl cur 113 hg agg_write size_write hfit ?_) | ((with_reducible refine at_alloc ?_); refine wpL_alloc rfl 113 rfl (Value.int .i64 0 :: List.replicate 64 (byteV 0)) zero_write ?_; intro w2 A3 P3 S3) | ((with_reducible refine at_store ?_); refine wpL_store rfl 113 (.tmp 6) (.tmp 25) rfl wr.heap.size 0 65 rfl _ rfl _ 113 A3 size_write (by rw [hpiece.out, length_writeCells, hq2.2]) (by simp) (by rw [hpiece.out]; exact writes_one q) ?_; intro w3 A4 P4 S4; rw [hpiece.out, splice_full _ _ (by rw [length_writeCells, hq2.2]; simp)] at A4))
      have PM : Pres [] wr w3 := P3.trans P4 (by simp)
      have hM3 := hM.next PM
      have g3 := PM.cell g0 (by simp)
      have V3 : Reads w3 (.slice av keep.length capv) (keep.map Value.bool) := HH.2.2.2.2.1.pres hM3.2.2.2 (fun hne x hx hm => HH.2.2.2.2.2.1 (fun e => hne (by rw [e]; rfl)) x hx (by simp at hm; simp [hm]))
      clear hM hg P3 P4 A3 S3 S4 PM hpiece g0 hfit
      by_cases hkk : keep.getD k false = true
      · have hkl2 : k < keep.length := by
          rcases Nat.lt_or_ge k keep.length with h1 | h1
          · exact h1
          · rw [List.getD_eq_getElem?_getD, List.getElem?_eq_none h1] at hkk; cases hkk
        have hkl3 : (k : Int) < (keep.length : Int) := by omega
        have hke : keep[k] = true := by rw [List.getD_eq_getElem?_getD, List.getElem?_eq_getElem hkl2] at hkk; exact hkk
        obtain ⟨av', capv', ev, -, -, hv3⟩ := V3
        obtain ⟨b, off, ea, hcb⟩ := hv3 k (.bool true) (by rw [List.getElem?_map, List.getElem?_eq_getElem hkl2, hke]; rfl)
        simp only [List.length_map, Value.slice.injEq] at ev
        obtain ⟨rfl, -, rfl⟩ := ev
        subst ea
        rw [hkk, if_pos rfl] at HT
        clear hv3 hkk hke
        go_upto_region 9 with (fail)
        refine wp_region_ord (by kernel_rfl) (fun W => W.cell? ⟨d, 0, none⟩ = some (.slice (some ⟨kb, 0, none⟩) σ.kept.length σ.kept.length) ∧ At W wr.heap.size (writeCells q) 113) 8
          [(0, true), (1, true), (2, true), (3, true), (4, true), (5, true), (6, true), (7, true)] (by kernel_rfl) ?hq ⟨g3, A4.drew⟩ ?_
        case hq => intro c a dd v w h; cases dd <;> exact h
        iterate 7 (refine wpOrd_read (v := _) rfl rfl (by intro w' hS; have hs1 := hS.1; have hs2 := hS.2.cell 0; simp only [writeCells, List.getElem?_cons_zero] at hs2; clear hS; go_simp; rfl) ?_; (try simp only [Act.put, List.setIfInBounds_toArray, List.set_cons_succ, List.set_cons_zero, List.getElem_toArray, List.getElem_cons_succ, List.getElem_cons_zero]))
        refine wpOrd_read (v := _) rfl rfl (by intro w' hS; exact run_load_agg (n := 64) rfl rfl hS.2 agg_block size_block (by omega)) ?_
        rw [write_text hq2.2]
        (try simp only [Act.put, List.setIfInBounds_toArray, List.set_cons_succ, List.set_cons_zero, List.getElem_toArray, List.getElem_cons_succ, List.getElem_cons_zero])
        refine wpOrd_end ?_
        simp only [List.drop_succ_cons, List.drop_zero]
        have hM4 : Mid d kb (.slice (some ⟨g, 0, none⟩) σ.pend.length cap) σ (keepAll σ.kept (marked keep 0 (σ.pend.take k))) w w3.drew := hM3.next (Pres.refl _ _).drew
        generalize w3.drew = w4 at *
        clear hM3 g3 A4
        go_wp2_with ((with_reducible refine at_store ?_); refine wpL_store rfl 111 (.tmp 44) (.tmp 43) rfl kb (q.1 * 64) 64 rfl (q.2.map byteV) rfl _ 111 hM4.2.1 size_block (by simp [hq2.2]) (by rw [keptCells_length' HH.1 (fun p hp => List.mem_of_mem_take (marked_sub _ _ _ _ hp))]; omega) bytes_one ?_; intro w5 A6 P6 S6; have hM5 := hM4.set HH.2.1 HH.2.2.2.1 (keepAll_full _ _ HH.1.full (fun p hp => (HH.1.pend p (List.mem_of_mem_take (marked_sub _ _ _ _ hp))).2)) (by rw [keepAll_length]; exact hq2.1) hq2.2 A6 P6)
        rw [← keepAll_snoc, ← HT.out] at hM5
        go_roundw
        case rel => exact ⟨k + 1, by omega, by go_num, hM5⟩
        case measure => simp [intOf]; omega
      · have hkf : keep.getD k false = false := by simpa using hkk
        rw [hkf, if_neg (by simp), List.append_nil] at HT
        rw [← HT.out] at hM3
        by_cases hkl2 : k < keep.length
        · have hkl3 : (k : Int) < (keep.length : Int) := by omega
          have hke : keep[k] = false := by rw [List.getD_eq_getElem?_getD, List.getElem?_eq_getElem hkl2] at hkf; exact hkf
          obtain ⟨av', capv', ev, -, -, hv3⟩ := V3
          obtain ⟨b, off, ea, hcb⟩ := hv3 k (.bool false) (by rw [List.getElem?_map, List.getElem?_eq_getElem hkl2, hke]; rfl)
          simp only [List.length_map, Value.slice.injEq] at ev
          obtain ⟨rfl, -, rfl⟩ := ev
          subst ea
          clear hv3 hkk hke hkf
          go_wp2
          go_roundw
          case rel => exact ⟨k + 1, by omega, by go_num, hM3⟩
          case measure => simp [intOf]; omega
        · have hkl3 : ¬ (k : Int) < (keep.length : Int) := by omega
          clear hkk hkf V3
          go_wp2
          go_roundw
          case rel => exact ⟨k + 1, by omega, by go_num, hM3⟩
          case measure => simp [intOf]; omega
    · have hend : ¬ (k : Int) < (σ.pend.length : Int) := by omega
      have ek : k = σ.pend.length := by omega
      subst ek
      rw [List.take_length] at hM
      have f1 := hM.1.frozen 1
      have c1 := hM.1.cell 1
      have f2 := hM.1.frozen 2
      have c2 := hM.1.cell 2
      have f3 := hM.1.frozen 3
      have c3 := hM.1.cell 3
      have f4 := hM.1.frozen 4
      have c4 := hM.1.cell 4
      simp only [diskCells, List.getElem?_cons_succ, List.getElem?_cons_zero] at c1 c2 c3 c4
      go_wp2
      go_ret
      refine ⟨rfl, ?_⟩
      obtain ⟨ok, n1, n2, n3, -, -, -⟩ := HH
      have okn : ({ σ with kept := keepAll σ.kept (marked keep 0 σ.pend), pend := [], down := false, armed := false, left := 0 } : Dk).Ok := by
        have := Dk.on_ok (σ := { σ with down := true }) ⟨ok.pos, ok.most, ok.full, ok.pend, ok.left0, ok.left1⟩ keep
        simpa [Dk.on] using this
      have PS : Pres [d] wr ((((wr.setCell ⟨d, 1, none⟩ (.slice none 0 0)).setCell ⟨d, 2, none⟩ (.bool false)).setCell ⟨d, 3, none⟩ (.bool false)).setCell ⟨d, 4, none⟩ (.int .i64 0)) :=
        (((((Pres.refl _ _).setCell (by simp) _).setCell (by simp) _).setCell (by simp) _).setCell (by simp) _)
      have PT := (hM.2.2.2.wider (fq := d :: kb :: fpv (.slice ao σ.pend.length cap)) (by simp)).trans PS (by simp)
      refine ⟨[d, kb], ⟨kb, .slice none 0 0, rfl, n1, by simp [fpv], by simp [fpv], ?_, ?_, Sl.nil _ _ _, okn⟩, PT, ?_⟩
      · have := (((hM.1.setCell 1 (.slice none 0 0)).setCell 2 (.bool false)).setCell 3 (.bool false)).setCell 4 (.int .i64 0)
        simpa [diskCells, keepAll_length] using this
      · exact hM.2.1.pres PS (by simpa using Ne.symm n1)
      · intro x hx
        left
        simp at hx ⊢
        rcases hx with rfl | rfl <;> simp

/-- On, whatever the state. -/
theorem disk_on {w : World} {d : Nat} {fp : List Nat} {σ : Dk} (h : DiskAt w d fp σ) {v : Value} {keep : List Bool} (hv : Reads w v (keep.map Value.bool)) (hap : keep ≠ [] → ∀ k ∈ fpv v, k ∉ fp) :
    Calls Tryz.prog 34 #[.pointer (some ⟨d, 0, none⟩), v] w fun e w' => e = .returned (.int .i64 (σ.on keep).1) ∧ DiskStep w d fp (σ.on keep).2 w' := by
  cases hdn : σ.down
  · have e : σ.on keep = (9, σ) := by simp [Dk.on, hdn]
    rw [e]
    exact (on_bad h hdn v).mono fun e w' ⟨h1, h2⟩ => ⟨h1, h2 ▸ DiskStep.refl h⟩
  · have e : σ.on keep = (0, { σ with kept := keepAll σ.kept (marked keep 0 σ.pend), pend := [], down := false, armed := false, left := 0 }) := by simp [Dk.on, hdn]
    rw [e]
    exact on_good h hdn hv hap

end Go.Proofs.YtnffnpndnaofhaaGreatDoor

/- The disk's contracts on a state of pieces; all conditions stand in the theorems. -/
namespace Go.Proofs.YtnffnpndnaofhaaGreatDoor
open Go.RowKit

def diskP (d : Nat) (σ : Dk) : HP := ⟨fun w fp => DiskAt w d fp σ, DiskAt.lt, DiskAt.keep⟩

section
variable {w0 w : World} {ps : List HP} {d : Nat} {σ : Dk}

theorem sd_ok (H : St w0 w (diskP d σ :: ps)) : σ.Ok := by
  obtain ⟨f, h, -⟩ := H.get 0 rfl
  exact DiskAt.ok h

theorem sd_new (H : St w0 w ps) (n : Int) (h1 : 1 ≤ n) (h2 : n ≤ 65536) :
    Calls Tryz.prog 9 #[.int .i64 n] w fun e w' => ∃ d, e = .returned (.tuple #[.pointer (some ⟨d, 0, none⟩), .int .i64 0]) ∧ St w0 w' (diskP d (Dk.new n.toNat) :: ps) := by
  refine (new_ok' n w h1 h2).mono ?_
  rintro e w' ⟨d, fp, rfl, h3, h4, h5⟩
  exact ⟨d, rfl, H.fresh _ h4 ⟨fp, h3, h5⟩⟩

theorem sd_size (H : St w0 w (diskP d σ :: ps)) :
    Calls Tryz.prog 62 #[.pointer (some ⟨d, 0, none⟩)] w fun e w' => e = .returned (.int .i64 (σ.kept.length : Int)) ∧ w = w' := by
  obtain ⟨f, h, -⟩ := H.get 0 rfl
  exact disk_size h

theorem sd_down (H : St w0 w (diskP d σ :: ps)) :
    Calls Tryz.prog 33 #[.pointer (some ⟨d, 0, none⟩)] w fun e w' => e = .returned (.bool σ.down) ∧ w = w' := by
  obtain ⟨f, h, -⟩ := H.get 0 rfl
  exact disk_down h

theorem sd_read (H : St w0 w (diskP d σ :: ps)) (i : Int) :
    Calls Tryz.prog 75 #[.pointer (some ⟨d, 0, none⟩), .int .i64 i] w fun e w' => e = .returned (.tuple #[.string ⟨(σ.read i).1.toArray⟩, .int .i64 (σ.read i).2]) ∧ St w0 w' (diskP d σ :: ps) ∧ Pres [] w w' := by
  obtain ⟨f, h, -⟩ := H.get 0 rfl
  exact (disk_read h i).mono fun e w' h => ⟨h.1, H.quiet h.2, h.2⟩

theorem sd_write (H : St w0 w (diskP d σ :: ps)) (i : Int) (s : ByteArray) (hroom : σ.pend.length ≤ 1000000000) :
    Calls Tryz.prog 111 #[.pointer (some ⟨d, 0, none⟩), .int .i64 i, .string s] w fun e w' => e = .returned (.int .i64 (σ.write i s.data.toList).1) ∧ St w0 w' (diskP d (σ.write i s.data.toList).2 :: ps) :=
  H.run fun _ h => disk_write h i s hroom

theorem sd_flush (H : St w0 w (diskP d σ :: ps)) :
    Calls Tryz.prog 83 #[.pointer (some ⟨d, 0, none⟩)] w fun e w' => e = .returned (.int .i64 σ.flush.1) ∧ St w0 w' (diskP d σ.flush.2 :: ps) :=
  H.run fun _ h => disk_flush h

theorem sd_arm (H : St w0 w (diskP d σ :: ps)) (n : Int) (hb : n ≤ 9223372036854775807) :
    Calls Tryz.prog 32 #[.pointer (some ⟨d, 0, none⟩), .int .i64 n] w fun e w' => e = .returned (.int .i64 (σ.arm n).1) ∧ St w0 w' (diskP d (σ.arm n).2 :: ps) :=
  H.run fun _ h => disk_arm h n hb

theorem sd_off (H : St w0 w (diskP d σ :: ps)) :
    Calls Tryz.prog 10 #[.pointer (some ⟨d, 0, none⟩)] w fun e w' => e = .returned (.int .i64 σ.off.1) ∧ St w0 w' (diskP d σ.off.2 :: ps) :=
  H.run fun _ h => disk_off h

theorem sd_on (H : St w0 w (diskP d σ :: ps)) {v : Value} {keep : List Bool} (hs : Safe w0 ps v (keep.map Value.bool)) :
    Calls Tryz.prog 34 #[.pointer (some ⟨d, 0, none⟩), v] w fun e w' => e = .returned (.int .i64 (σ.on keep).1) ∧ St w0 w' (diskP d (σ.on keep).2 :: ps) :=
  H.runS hs fun _ h hd => disk_on h (hs.reads H.drop) (fun hk => hd (by simpa using hk))
end

end Go.Proofs.YtnffnpndnaofhaaGreatDoor

/- A region that draws its order, walked in stages: each stage is a set of operations that all the rest waits for (directly or through others), walked in one order under a condition of its own. No condition but what 'stageB' asks, which the kernel reckons. -/
namespace Go.Proofs.YtnffnpndnaofhaaGreatDoor
section
variable {P : Program} {ops : Array Oper} {Q : Exit → Act → World → Prop} {md : Region.Mode} {S : World → Prop} {X : List Nat}

inductive Forced (md : Region.Mode) (ops : Array Oper) : Nat → Nat → Prop
  | one {j : Nat} {o : Oper} {e : Edge} : ops[j]? = some o → e ∈ o.after → Region.binds md e = true → Forced md ops j e.on
  | step {j i : Nat} {o : Oper} {e : Edge} : ops[j]? = some o → e ∈ o.after → Region.binds md e = true → Forced md ops e.on i → Forced md ops j i

/-- What is listed is listed with all that it waits for. -/
def Shut (md : Region.Mode) (ops : Array Oper) (listed : Array Bool) : Prop :=
  ∀ j o, ops[j]? = some o → listed.getD j false = true → ∀ e ∈ o.after, Region.binds md e = true → listed.getD e.on false = true

theorem Shut.forced {listed : Array Bool} (h : Shut md ops listed) {j i : Nat} (hf : Forced md ops j i) : listed.getD j false = true → listed.getD i false = true := by
  induction hf with
  | one ho he hb => exact fun hj => h _ _ ho hj _ he hb
  | step ho he hb _ ih => exact fun hj => ih (h _ _ ho hj _ he hb)

theorem Shut.ready {listed : Array Bool} (h : Shut md ops listed) {j i : Nat} (hj : j ∈ Region.ready md ops listed) (hf : Forced md ops j i) : listed.getD i false = true := by
  obtain ⟨_, oj, hoj, hall⟩ := mem_ready.1 hj
  cases hf with
  | one ho he hb =>
    have : _ = oj := Option.some.inj (ho.symm.trans hoj)
    subst this
    exact hall _ he hb
  | step ho he hb hf =>
    have : _ = oj := Option.some.inj (ho.symm.trans hoj)
    subst this
    exact h.forced hf (hall _ he hb)

theorem Shut.set {listed : Array Bool} (h : Shut md ops listed) {i : Nat} (hi : i ∈ Region.ready md ops listed) : Shut md ops (listed.setIfInBounds i true) := by
  intro j o ho hj e he hb
  by_cases hij : i = j
  · subst hij
    obtain ⟨_, oj, hoj, hall⟩ := mem_ready.1 hi
    have : o = oj := Option.some.inj (ho.symm.trans hoj)
    subst this
    exact getD_set_true (hall e he hb)
  · rw [getD_set_ne false hij] at hj
    exact getD_set_true (h j o ho hj e he hb)

def maskOf (md : Region.Mode) (acc : List Nat) (o : Oper) : Nat := o.after.toList.foldl (fun s e => if Region.binds md e then s ||| 2 ^ e.on ||| acc.getD e.on 0 else s) 0
def masks (md : Region.Mode) (ops : Array Oper) : List Nat := ops.toList.foldl (fun acc o => acc ++ [maskOf md acc o]) []

theorem maskOf_spec {acc : List Nat} {o : Oper} {i : Nat} (h : (maskOf md acc o).testBit i = true) : ∃ e ∈ o.after, Region.binds md e = true ∧ (e.on = i ∨ (acc.getD e.on 0).testBit i = true) := by
  have key : ∀ (l : List Edge) (s : Nat), (l.foldl (fun s e => if Region.binds md e then s ||| 2 ^ e.on ||| acc.getD e.on 0 else s) s).testBit i = true →
      s.testBit i = true ∨ ∃ e ∈ l, Region.binds md e = true ∧ (e.on = i ∨ (acc.getD e.on 0).testBit i = true) := by
    intro l
    induction l with
    | nil => intro s h; exact .inl h
    | cons e l ih =>
      intro s h
      simp only [List.foldl_cons] at h
      rcases ih _ h with h1 | ⟨e', he', h1⟩
      · split at h1
        · rename_i hb
          simp only [Nat.testBit_or, Bool.or_eq_true, Nat.testBit_two_pow, decide_eq_true_eq] at h1
          rcases h1 with (h1 | h1) | h1
          · exact .inl h1
          · exact .inr ⟨e, by simp, hb, .inl h1⟩
          · exact .inr ⟨e, by simp, hb, .inr h1⟩
        · exact .inl h1
      · exact .inr ⟨e', by simp [he'], h1⟩
  rcases key _ _ h with h1 | ⟨e, he, h1⟩
  · simp at h1
  · exact ⟨e, by simpa using he, h1⟩

theorem masks_spec {j i : Nat} (h : ((masks md ops).getD j 0).testBit i = true) : Forced md ops j i := by
  have key : ∀ (rest pre : List Oper) (acc : List Nat), ops.toList = pre ++ rest → acc.length = pre.length → (∀ j i, (acc.getD j 0).testBit i = true → Forced md ops j i) →
      ∀ j i, ((rest.foldl (fun acc o => acc ++ [maskOf md acc o]) acc).getD j 0).testBit i = true → Forced md ops j i := by
    intro rest
    induction rest with
    | nil => intro pre acc _ _ h j i hj; exact h j i hj
    | cons o rest ih =>
      intro pre acc he hl h j i hj
      simp only [List.foldl_cons] at hj
      refine ih (pre ++ [o]) (acc ++ [maskOf md acc o]) (by simp [he]) (by simp [hl]) (fun j i hb => ?_) j i hj
      rcases Nat.lt_or_ge j acc.length with h1 | h1
      · refine h j i ?_
        rw [List.getD_eq_getElem?_getD, List.getElem?_append_left h1] at hb
        rwa [List.getD_eq_getElem?_getD]
      · rw [List.getD_eq_getElem?_getD, List.getElem?_append_right h1] at hb
        by_cases h2 : j - acc.length = 0
        · have hj' : j = acc.length := by omega
          rw [h2] at hb
          simp only [List.getElem?_cons_zero, Option.getD_some] at hb
          obtain ⟨e, he', hbd, hor⟩ := maskOf_spec hb
          have ho : ops[j]? = some o := by
            rw [← Array.getElem?_toList, he, hj', hl, List.getElem?_append_right (Nat.le_refl _)]
            simp
          rcases hor with rfl | h3
          · exact .one ho he' hbd
          · exact .step ho he' hbd (h _ _ h3)
        · rw [List.getElem?_cons] at hb
          simp [h2] at hb
  exact key ops.toList [] [] rfl rfl (by simp) j i h

/-- Behind each operation of X the condition S holds. -/
def wpAnyX (P : Program) (md : Region.Mode) (ops : Array Oper) (Q : Exit → Act → World → Prop) (S : World → Prop) (X : List Nat) : Nat → Array Bool → Act → World → Prop
  | 0, listed, a, w => Region.ready md ops listed = [] ∧ Q .normal a w
  | fuel + 1, listed, a, w =>
    (Region.ready md ops listed = [] → Q .normal a w) ∧
    ∀ i ∈ Region.ready md ops listed, wpOp P ops Q i (fun a' w' => (i ∈ X → S w') ∧ wpAnyX P md ops Q S X fuel (listed.setIfInBounds i true) a' w') a w

theorem wpAny_of_X : ∀ (fuel : Nat) (listed : Array Bool) (a : Act) (w : World), wpAnyX P md ops Q S X fuel listed a w → wpAny P md ops Q fuel listed a w
  | 0, _, _, _, h => h
  | fuel + 1, _, _, _, h => ⟨h.1, fun i hi => wpOp_mono (fun a' w' h' => wpAny_of_X fuel _ a' w' h'.2) (h.2 i hi)⟩

theorem X_of_wpAny : ∀ (fuel : Nat) (listed : Array Bool) (a : Act) (w : World), (∀ i ∈ X, listed.getD i true = true) → wpAny P md ops Q fuel listed a w → wpAnyX P md ops Q S X fuel listed a w
  | 0, _, _, _, _, h => h
  | fuel + 1, listed, _, _, hX, h => by
    refine ⟨h.1, fun i hi => wpOp_mono (fun a' w' h' => ?_) (h.2 i hi)⟩
    have hno : i ∉ X := fun hx => by
      have h1 := (mem_ready.1 hi).1
      rw [hX i hx] at h1
      cases h1
    refine ⟨fun hx => absurd hx hno, X_of_wpAny fuel _ a' w' (fun k hk => ?_) h'⟩
    have hik : i ≠ k := fun e => hno (e ▸ hk)
    rw [getD_set_ne true hik]
    exact hX k hk

theorem wpAnyX_first {i : Nat} {oi : Oper} {v : Value} (hi : ops[i]? = some oi) (hsel : ∀ (j : Nat) (o : Oper) cs b, ops[j]? = some o → o.op ≠ .select cs b)
    (hQ : ∀ c a w, Q (.panic c) (a.put oi.dst v) w → Q (.panic c) a w) :
    ∀ (fuel : Nat) (listed : Array Bool) (a : Act) (w : World), (∀ t o, ops[t]? = some o → t ∉ X → listed.getD t true = false → Forced md ops t i) → Shut md ops listed →
      (∀ j oj, ops[j]? = some oj → j ≠ i → listed.getD j true = false → (∀ e ∈ oj.after, Region.binds md e = true → e.on ≠ i) → oi.apart ops oj = true) →
      i ∈ Region.ready md ops listed → YieldsIf P ops S oi v a → S w →
      wpAnyX P md ops Q S X fuel (listed.setIfInBounds i true) (a.put oi.dst v) w → wpAnyX P md ops Q S X (fuel + 1) listed a w := by
  intro fuel
  induction fuel with
  | zero =>
    intro listed a w _ _ _ hr hy hS H
    refine ⟨fun h => (by rw [h] at hr; cases hr), fun j hj => ?_⟩
    by_cases hji : j = i
    · subst hji; exact hy.wpOp hi hS ⟨fun _ => hS, H⟩
    · have := ready_mono hj hji
      rw [H.1] at this
      cases this
  | succ fuel ih =>
    intro listed a w htail hshut hfree hr hy hS H
    refine ⟨fun h => (by rw [h] at hr; cases hr), fun j hj => ?_⟩
    by_cases hji : j = i
    · subst hji; exact hy.wpOp hi hS ⟨fun _ => hS, H⟩
    · have h1 := H.2 j (ready_mono hj hji)
      obtain ⟨hjun, oj, hoj, hall⟩ := mem_ready.1 hj
      have h0 := (mem_ready.1 hr).1
      have hjn : j ∈ X := by
        by_cases h : j ∈ X
        · exact h
        · have h2 := hshut.ready hj (htail j oj hoj h hjun)
          rw [getD_both' h0] at h2
          cases h2
      have hnot : ∀ e ∈ oj.after, Region.binds md e = true → e.on ≠ i := fun e he hb heq => by
        have h1 := hall e he hb
        rw [heq, getD_both' h0] at h1
        cases h1
      have h2 := wpOp_putIf hoj (hfree j oj hoj hji hjun hnot) (fun cs b => hsel i oi cs b hi) (fun cs b => hsel j oj cs b hoj) hQ hy h1
      have hfree' : ∀ k ok, ops[k]? = some ok → k ≠ i → (listed.setIfInBounds j true).getD k true = false →
          (∀ e ∈ ok.after, Region.binds md e = true → e.on ≠ i) → oi.apart ops ok = true := fun k ok hk hki hun hno => by
        refine hfree k ok hk hki ?_ hno
        by_cases hjk : j = k
        · subst hjk; exact hjun
        · rw [getD_set_ne true hjk] at hun; exact hun
      have htail' : ∀ t o, ops[t]? = some o → t ∉ X → (listed.setIfInBounds j true).getD t true = false → Forced md ops t i := fun t o ho hx hun => by
        refine htail t o ho hx ?_
        by_cases hjt : j = t
        · subst hjt; exact hjun
        · rw [getD_set_ne true hjt] at hun; exact hun
      refine wpOp_mono (fun a' w' h3 => ⟨fun hj => h3.2.1 hj, ih (listed.setIfInBounds j true) a' w' htail' (hshut.set hj) hfree' (ready_mono hr (Ne.symm hji)) h3.1 (h3.2.1 hjn) ?_⟩) h2
      rw [Array.setIfInBounds_comm _ _ hji]
      exact h3.2.2

/-- What is listed behind a stage. -/
def listedBy (ord : List (Nat × Bool)) (listed : Array Bool) : Array Bool := ord.foldl (fun l p => l.setIfInBounds p.1 true) listed

def tailB (md : Region.Mode) (ops : Array Oper) (ms : List Nat) (X : List Nat) (listed : Array Bool) (i : Nat) : Bool :=
  (List.range ops.size).all fun t => X.contains t || listed.getD t true || (ms.getD t 0).testBit i

def ordX (md : Region.Mode) (ops : Array Oper) (ms : List Nat) (X : List Nat) : List (Nat × Bool) → Array Bool → Bool
  | [], listed => X.all fun i => listed.getD i true
  | (i, true) :: r, listed => (Region.ready md ops listed).contains i && Region.free md ops listed i && tailB md ops ms X listed i && ordX md ops ms X r (listed.setIfInBounds i true)
  | (i, false) :: r, listed => decide (Region.ready md ops listed = [i]) && ordX md ops ms X r (listed.setIfInBounds i true)

def shutB (md : Region.Mode) (ops : Array Oper) (listed : Array Bool) : Bool :=
  (List.range ops.size).all fun j => !listed.getD j false || match ops[j]? with | some o => o.after.all (fun e => !Region.binds md e || listed.getD e.on false) | none => true

def stageB (md : Region.Mode) (ops : Array Oper) (ord : List (Nat × Bool)) (listed : Array Bool) : Bool :=
  Region.noSelect ops && shutB md ops listed && ordX md ops (masks md ops) (ord.map (·.1)) ord listed

theorem shutB_spec {listed : Array Bool} (h : shutB md ops listed = true) : Shut md ops listed := by
  intro j o ho hj e he hb
  simp only [shutB, List.all_eq_true, List.mem_range] at h
  have h1 := h j (Array.getElem?_eq_some_iff.1 ho).1
  simp only [ho, hj, Bool.not_true, Bool.false_or, Array.all_eq_true_iff_forall_mem, Bool.or_eq_true, Bool.not_eq_true'] at h1
  rcases h1 e he with h2 | h2
  · rw [hb] at h2; cases h2
  · exact h2

theorem wpAnyX_of_ord (hsel : ∀ (j : Nat) (o : Oper) cs b, ops[j]? = some o → o.op ≠ .select cs b) (hQ : ∀ c a d v w, Q (.panic c) (a.put d v) w → Q (.panic c) a w) (fuel : Nat) :
    ∀ (ord : List (Nat × Bool)) (listed : Array Bool) (a : Act) (w : World), ordX md ops (masks md ops) X ord listed = true → (∀ i, (i, false) ∈ ord → i ∈ X) → Shut md ops listed → S w →
      wpOrd P ops Q S (fun a w => wpAny P md ops Q fuel (listedBy ord listed) a w) ord a w → wpAnyX P md ops Q S X (ord.length + fuel) listed a w
  | [], listed, a, w, hB, _, _, _, h => by
    rw [List.length_nil, Nat.zero_add]
    exact X_of_wpAny fuel listed a w (by simpa [ordX] using hB) h
  | (i, true) :: r, listed, a, w, hB, hX, hsh, hS, h => by
    simp only [ordX, Bool.and_eq_true] at hB
    obtain ⟨⟨⟨hr, hf⟩, ht⟩, hB⟩ := hB
    have hr' : i ∈ Region.ready md ops listed := by simpa using hr
    obtain ⟨o, v, ho, hy, h⟩ := h
    have ih := wpAnyX_of_ord hsel hQ fuel r _ _ _ hB (fun k hk => hX k (by simp [hk])) (hsh.set hr') hS h
    rw [List.length_cons, show r.length + 1 + fuel = (r.length + fuel) + 1 by omega]
    refine wpAnyX_first ho hsel (fun c a w => hQ c a _ _ w) _ _ _ _ (fun t o' ho' hx hun => ?_) hsh (Region.free_spec ho hf) hr' hy hS ih
    simp only [tailB, List.all_eq_true, List.mem_range, Bool.or_eq_true] at ht
    rcases ht t (Array.getElem?_eq_some_iff.1 ho').1 with (h1 | h1) | h1
    · exact absurd (by simpa using h1) hx
    · rw [hun] at h1; cases h1
    · exact masks_spec h1
  | (i, false) :: r, listed, a, w, hB, hX, hsh, hS, h => by
    simp only [ordX, Bool.and_eq_true, decide_eq_true_eq] at hB
    obtain ⟨hr, hB⟩ := hB
    rw [List.length_cons, show r.length + 1 + fuel = (r.length + fuel) + 1 by omega]
    refine ⟨fun h0 => (by rw [hr] at h0; cases h0), fun j hj => ?_⟩
    have hj0 := hj
    rw [hr] at hj
    have hji : j = i := by simpa using hj
    subst hji
    exact wpOp_mono (fun a' w' h' => ⟨fun _ => h'.1, wpAnyX_of_ord hsel hQ fuel r _ a' w' hB (fun k hk => hX k (by simp [hk])) (hsh.set hj0) h'.1 h'.2⟩) h

/-- One stage of a region that draws its order. -/
theorem wp_stage (S : World → Prop) (ord : List (Nat × Bool)) (fuel : Nat) {listed : Array Bool} {a : Act} {w : World} {full : Nat} (hfull : full = ord.length + fuel) (hB : stageB md ops ord listed = true)
    (hQ : ∀ c a d v w, Q (.panic c) (a.put d v) w → Q (.panic c) a w) (hS : S w)
    (h : wpOrd P ops Q S (fun a w => wpAny P md ops Q fuel (listedBy ord listed) a w) ord a w) : wpAny P md ops Q full listed a w := by
  subst hfull
  simp only [stageB, Bool.and_eq_true] at hB
  obtain ⟨⟨h1, h2⟩, h3⟩ := hB
  exact wpAny_of_X (S := S) (X := ord.map (·.1)) _ _ _ _ (wpAnyX_of_ord (Region.noSelect_spec h1) hQ fuel ord listed a w h3 (fun i hi => List.mem_map.2 ⟨_, hi, rfl⟩) (shutB_spec h2) hS h)

def pureB (md : Region.Mode) (ops : Array Oper) : List (Nat × Bool) → Array Bool → Bool
  | [], _ => true
  | (i, b) :: r, listed => b && (Region.ready md ops listed).contains i && Region.free md ops listed i && pureB md ops r (listed.setIfInBounds i true)

theorem yields_pure {o : Oper} {v : Value} {a : Act} (h : YieldsIf P ops (fun _ => True) o v a) : Yields P ops o v a := by
  rcases h with ⟨h1, h2⟩ | h
  · exact .inl ⟨h1, fun w => h2 w trivial⟩
  · exact .inr h

theorem wpAny_of_pure (hsel : ∀ (j : Nat) (o : Oper) cs b, ops[j]? = some o → o.op ≠ .select cs b) (hQ : ∀ c a d v w, Q (.panic c) (a.put d v) w → Q (.panic c) a w) (fuel : Nat) :
    ∀ (ord : List (Nat × Bool)) (listed : Array Bool) (a : Act) (w : World), pureB md ops ord listed = true →
      wpOrd P ops Q (fun _ => True) (fun a w => wpAny P md ops Q fuel (listedBy ord listed) a w) ord a w → wpAny P md ops Q (ord.length + fuel) listed a w
  | [], listed, a, w, _, h => by rw [List.length_nil, Nat.zero_add]; exact h
  | (i, true) :: r, listed, a, w, hB, h => by
    simp only [pureB, Bool.and_eq_true, Bool.true_and] at hB
    obtain ⟨⟨hr, hf⟩, hB⟩ := hB
    obtain ⟨o, v, ho, hy, h⟩ := h
    have ih := wpAny_of_pure hsel hQ fuel r _ _ _ hB h
    rw [List.length_cons, show r.length + 1 + fuel = (r.length + fuel) + 1 by omega]
    exact wpAny_first ho hsel (fun c a w => hQ c a _ _ w) _ _ _ _ (Region.free_spec ho hf) (by simpa using hr) (yields_pure hy) ih
  | (i, false) :: r, listed, a, w, hB, h => by simp [pureB] at hB

/-- A first stage of operations that touch no memory. -/
theorem wp_pures (ord : List (Nat × Bool)) (fuel : Nat) {listed : Array Bool} {a : Act} {w : World} {full : Nat} (hfull : full = ord.length + fuel) (hs : Region.noSelect ops = true) (hB : pureB md ops ord listed = true)
    (hQ : ∀ c a d v w, Q (.panic c) (a.put d v) w → Q (.panic c) a w)
    (h : wpOrd P ops Q (fun _ => True) (fun a w => wpAny P md ops Q fuel (listedBy ord listed) a w) ord a w) : wpAny P md ops Q full listed a w := by
  subst hfull
  exact wpAny_of_pure (Region.noSelect_spec hs) hQ fuel ord listed a w hB h

/-- A region that draws its order begins. -/
theorem wp_stages {id : Nat} {a : Act} {w : World} (hm : P.follows .mixedOrders = true) (h : wpAny P .any ops Q ops.size (Array.replicate ops.size false) a w.drew) : (Code.region id ops true).wp P Q a w :=
  wp_region_any hm h

/-- The last stage is behind: nothing is left, or what is left comes up in one order. -/
theorem wp_stages_end (k : Nat) {fuel : Nat} {listed : Array Bool} {a : Act} {w : World} (hl : (ops.toList.drop k).length = fuel) (hB : seqB md ops fuel k listed = true) (h : wpList P ops Q (ops.toList.drop k) a w) : wpAny P md ops Q fuel listed a w := by
  subst hl
  exact wpAny_of_T (S := fun _ => True) (n := 0) _ _ _ _ (wpAnyT_of_seq (n := 0) _ k listed a w (Nat.zero_le _) (fun j => by simp) hB h)
end
end Go.Proofs.YtnffnpndnaofhaaGreatDoor

/- The small functions of a log: number, value, sum, head, frame, unframe come to their data; conditions stand in the theorems. -/
namespace Go.Proofs.YtnffnpndnaofhaaGreatDoor
open Go.RowKit
set_option maxRecDepth 100000

theorem info_u8 : ∃ i, Tryz.prog.info? 5 = some i ∧ i.zero = some (.int .u8 0) ∧ i.size = 1 ∧ i.bytes = 1 := by
  have h : (Tryz.prog.info? 5).map (fun i => (i.zero, i.size, i.bytes)) = some (some (.int .u8 0), 1, 1) := by kernel_rfl
  cases hq : Tryz.prog.info? 5 with
  | none => simp [hq] at h
  | some i => exact ⟨i, rfl, by simpa [hq] using h⟩

def numTo (n k j : Nat) : List UInt8 := numLE n j ++ List.replicate (k - j) 0

theorem numTo_succ {n k j : Nat} (h : j < k) : (numTo n k j).set j (UInt8.ofNat (n / 2 ^ (8 * j))) = numTo n k (j + 1) := by
  unfold numTo
  rw [List.set_append_right _ _ (by rw [length_numLE]; omega), length_numLE, Nat.sub_self]
  have e : k - j = (k - (j + 1)) + 1 := by omega
  rw [e, List.replicate_succ, List.set_cons_zero]
  simp [numLE, List.range_succ]

theorem numTo_zero (n k : Nat) : numTo n k 0 = List.replicate k 0 := by simp [numTo, numLE]
theorem numTo_all (n k : Nat) : numTo n k k = numLE n k := by simp [numTo]

theorem map_byte_set (l : List UInt8) (j : Nat) (x : UInt8) : (l.map byteV).set j (byteV x) = (l.set j x).map byteV := by rw [List.map_set]

theorem num_cell (n j : Nat) : Value.int .u8 ((n : Int) / 2 ^ (8 * j) % 256) = byteV (UInt8.ofNat (n / 2 ^ (8 * j))) := by
  have h : ((n : Int) / 2 ^ (8 * j)) = ((n / 2 ^ (8 * j) : Nat) : Int) := by
    rw [Int.natCast_ediv, Int.natCast_pow]; rfl
  rw [h, byteV, UInt8.toNat_ofNat']
  congr 1

theorem wal_number (n k : Nat) (w : World) (hn : n < 2 ^ 64) (hk : k ≤ 8) :
    Calls Tryz.prog 108 #[.int .u64 (n : Int), .int .i64 (k : Int)] w fun e w' => e = .returned (.string ⟨(numLE n k).toArray⟩) ∧ Pres [] w w' := by
  obtain ⟨i, hi, hz, hs, hb⟩ := info_u8
  have HI := hid (And.intro hi (And.intro hz (And.intro hs hb)))
  clear hi hz hs hb
  go_enter Tryz.func108, Tryz.ntmps108
  go_wp2_with (((with_reducible refine at_mk ?_); refine wpL_make rfl 122 _ _ rfl 5 i _ (byteV 0) Tryz.underlying122 HI.out.1 HI.out.2.1 (by rw [HI.out.2.2.1]; rfl) (by rw [HI.out.2.2.1]; omega) k rfl rfl (by rw [HI.out.2.2.2]; omega) (by omega) ?_; intro w1 A1 P1 S1))
  have HM : St w w1 [objP w.heap.size ((numTo n k 0).map byteV) 5] := by
    have := (St.start w).made A1 P1
    rw [HI.out.2.2.1, Nat.mul_one] at this
    simpa [numTo_zero] using this
  clear A1 P1 S1
  generalize w.heap.size = b at *
  go_loopw [11] (fun iv wr => ∃ j : Nat, j ≤ k ∧ iv = .int .i64 (j : Int) ∧ St w wr [objP b ((numTo n k j).map byteV) 5]) (fun iv _ => k - (intOf iv).toNat)
  case atStart => exact ⟨0, Nat.zero_le _, rfl, HM⟩
  case round =>
    obtain ⟨j, hj, rfl, hH⟩ := hrel
    clear HM
    by_cases hlt : j < k
    · have hlt' : (j : Int) < (k : Int) := by omega
      have hd := hH.obj 0 rfl
      have f0 := hd.frozen j
      obtain ⟨u, c0⟩ : ∃ u, wr.cell? ⟨b, j, none⟩ = some u := ⟨_, (hd.cell j).trans (List.getElem?_eq_getElem (by simp [numTo, length_numLE]; omega))⟩
      have HH := hid hH
      clear hH hd
      have HS := hid (numTo_succ (n := n) hlt)
      go_wp2
      refine ⟨⟨j + 1, by omega, by go_num, ?_⟩, by simp [intOf]; omega⟩
      have := HH.out.set 0 rfl j (byteV (UInt8.ofNat (n / 2 ^ (8 * j))))
      rw [map_byte_set, HS.out] at this
      rw [num_cell]
      exact this
    · have ek : j = k := by omega
      have hend : ¬ (j : Int) < (k : Int) := by omega
      subst ek
      rw [numTo_all] at hH
      have hd := hH.obj 0 rfl
      have HP := hid hH.pres
      have HL := hid (length_numLE n j)
      clear hH
      go_wp2_with (((with_reducible refine at_conv ?_); refine wpL_bytes_string rfl 122 9 _ rfl 5 Tryz.underlying122 Tryz.underlying5 Tryz.underlying9 b 0 j j rfl (numLE n j) HL.out _ _ hd (by rw [List.drop_zero, List.take_of_length_le (by rw [List.length_map, HL.out]; omega)]) ?_))
      go_ret
      exact ⟨rfl, HP.out⟩

/-! value -/
theorem bits_or64 {a b : Nat} (hb : b < 256) (h : a * 256 < 2 ^ 64) : bits .or .u64 ((a : Int) * 256) (b : Int) = ((b + 256 * a : Nat) : Int) := by
  have e1 : (BitVec.ofInt 64 ((a : Int) * 256)).toNat = a * 256 := by rw [BitVec.toNat_ofInt]; omega
  have e2 : (BitVec.ofInt 64 (b : Int)).toNat = b := by rw [BitVec.toNat_ofInt]; omega
  have e3 : a * 256 ||| b = a * 256 + b := by
    have := Nat.two_pow_add_eq_or_of_lt (i := 8) hb a
    rw [Nat.mul_comm] at this
    exact this.symm
  have e : (BitVec.ofInt 64 ((a : Int) * 256) ||| BitVec.ofInt 64 (b : Int)).toNat = b + 256 * a := by rw [BitVec.toNat_or, e1, e2, e3]; omega
  change IntKind.u64.wrap ((BitVec.ofInt 64 ((a : Int) * 256) ||| BitVec.ofInt 64 (b : Int)).toNat : Int) = _
  rw [e, IntKind.wrap_u64]
  omega

theorem valLE_drop {l : List UInt8} {k : Nat} (h : k < l.length) : valLE (l.drop k) = l[k].toNat + 256 * valLE (l.drop (k + 1)) := by
  rw [List.drop_eq_getElem_cons h]; rfl

theorem wal_value (s : ByteArray) (w : World) (hs : s.size ≤ 8) :
    Calls Tryz.prog 77 #[.string s] w fun e w' => e = .returned (.int .u64 ((valLE s.data.toList : Nat) : Int)) ∧ w = w' := by
  go_enter Tryz.func77, Tryz.ntmps77
  go_wp2
  go_loop [3, 4] (fun nv iv => ∃ k : Nat, k ≤ s.size ∧ iv = .int .i64 ((k : Int) - 1) ∧ nv = .int .u64 ((valLE (s.data.toList.drop k) : Nat) : Int)) (fun _ iv => (intOf iv + 1).toNat)
  case atStart => exact ⟨s.size, Nat.le_refl _, by first | rfl | go_num, by rw [List.drop_of_length_le (by simp)]; rfl⟩
  case round =>
    obtain ⟨k, hk, rfl, rfl⟩ := hrel
    cases k with
    | zero =>
      have hend : ¬ (0 : Int) ≤ ((0 : Nat) : Int) - 1 := by omega
      go_wp2
      go_ret
      exact ⟨rfl, rfl⟩
    | succ k =>
      have hkl : k < s.data.toList.length := by simp; omega
      have hstep := valLE_drop hkl
      have hlt := valLE_lt (s.data.toList.drop (k + 1))
      have hlen : (s.data.toList.drop (k + 1)).length ≤ 7 := by simp; omega
      have hp : 256 ^ (s.data.toList.drop (k + 1)).length ≤ 256 ^ 7 := Nat.pow_le_pow_right (by omega) hlen
      generalize valLE (s.data.toList.drop (k + 1)) = a at *
      have ha : a < 2 ^ 56 := by omega
      have hx : s.data.toList[k].toNat < 256 := s.data.toList[k].toNat_lt
      obtain ⟨x, hxd⟩ : ∃ x, Hid (s.data.toList[k].toNat = x) := ⟨_, hid rfl⟩
      have hor := bits_or64 (a := a) (b := s.data.toList[k].toNat) hx (by omega)
      rw [← hstep] at hor
      have hw : (a : Int) * 256 % 18446744073709551616 = (a : Int) * 256 := by omega
      have hge : (0 : Int) ≤ ((k + 1 : Nat) : Int) - 1 := by omega
      have hks : k < s.size := by omega
      have hkk : ((k + 1 : Nat) : Int) - 1 = (k : Int) := by omega
      rw [hkk] at *
      have HO := hid hor
      have HL := hid (show s[k].toNat = s.data.toList[k].toNat from rfl)
      clear hor hstep hxd
      go_wp2
      refine ⟨⟨k, by omega, rfl, ?_⟩, by simp [intOf]⟩
      rw [show IntKind.u64.wrap (s[k].toNat : Int) = (s.data.toList[k].toNat : Int) from by rw [IntKind.wrap_u64, HL.out]; omega, HO.out]

/-! sum, head, frame -/
theorem string_bytes (s : ByteArray) : s.data.toList.map byteV = s.data.toList.map fun b => Value.int .u8 (b.toNat : Int) := rfl

theorem wal_sum (s : ByteArray) (w : World) (hh : HalfAt w) (hs : s.size ≤ maxLen) :
    Calls Tryz.prog 109 #[.string s] w fun e w' => e = .returned (.string ⟨(sum4 s.data.toList).toArray⟩) ∧ Pres [] w w' := by
  have HH := hid hh
  have HS := hid hs
  clear hh hs
  have hc := crc_lt s.data.toList
  have hm : ((crc s.data.toList : Nat) : Int) % 18446744073709551616 = ((crc s.data.toList : Nat) : Int) := by omega
  have hn := fun W => wal_number (crc s.data.toList) 4 W (by omega) (by omega)
  have HN : ∀ W, Calls Tryz.prog 108 #[.int .u64 ((crc s.data.toList : Nat) : Int), .int .i64 4] W fun e w' => e = .returned (.string ⟨(sum4 s.data.toList).toArray⟩) ∧ Pres [] W w' := hn
  generalize (sum4 s.data.toList).toArray = z at *
  obtain ⟨n, hnd⟩ : ∃ n, Hid (crc s.data.toList = n) := ⟨_, hid rfl⟩
  rw [hnd.out] at hm HN hc
  clear hn
  have hc' : (n : Int) < 18446744073709551616 := by omega
  go_enter Tryz.func109, Tryz.ntmps109
  go_wp2_with (first
    | ((with_reducible refine at_conv ?_); refine wpL_string_bytes rfl 9 122 _ rfl 5 Tryz.underlying9 Tryz.underlying122 Tryz.underlying5 s rfl HS.out ?_; intro cap w1 R1 P1)
    | (go_at_call 86; refine (crc_sum w1 (HH.out.pres P1) _ s.data.toList R1).mono ?_; rw [hnd.out]; rintro e w2 ⟨rfl, rfl⟩)
    | (go_at_call 108; refine (HN _).mono ?_; rintro e w3 ⟨rfl, P3⟩))
  go_ret
  exact ⟨rfl, P1.then P3⟩

theorem ba_ext {a b : ByteArray} (h : a.data.toList = b.data.toList) : a = b := ByteArray.ext (Array.ext' h)
theorem ba_mk (l : List UInt8) : (⟨l.toArray⟩ : ByteArray).data.toList = l := by simp
theorem ba_append (a b : ByteArray) : (a ++ b).data.toList = a.data.toList ++ b.data.toList := by simp [ByteArray.data_append]
theorem ba_size (a : ByteArray) : a.size = a.data.toList.length := by simp
theorem ret_str {a b : ByteArray} (h : a.data.toList = b.data.toList) : Ending.returned (.string a) = .returned (.string b) := by rw [ba_ext h]

theorem repeat_nought (c : Nat) (w : World) (hc : c ≤ 1000000) :
    Calls Tryz.prog 76 #[.string ⟨#[0]⟩, .int .i64 (c : Int)] w fun e w' => e = .returned (.string ⟨(List.replicate c (0 : UInt8)).toArray⟩) ∧ Pres [] w w' := by
  refine (Tryz.strings_Repeat ⟨#[0]⟩ c w (by omega) (by show 1 * c ≤ _; omega)).mono ?_
  rintro e w' ⟨rfl, hb⟩
  refine ⟨ret_str ?_, Pres.of_below hb⟩
  rw [ba_mk, ba_mk]
  have : ∀ n : Nat, Lib.repeatL [(0 : UInt8)] n = List.replicate n 0 := by
    intro n
    induction n with
    | zero => rfl
    | succ n ih => first | (rw [List.replicate_succ, ← ih]; rfl) | (rw [List.replicate_succ', ← ih]; rfl)
  exact this c

theorem wal_head (e l : Nat) (w : World) (hh : HalfAt w) (he : e < 2 ^ 63) (hl : l < 2 ^ 63) :
    Calls Tryz.prog 78 #[.int .i64 (e : Int), .int .i64 (l : Int)] w fun en w' => en = .returned (.string ⟨(headB e l).toArray⟩) ∧ Pres [] w w' := by
  have HH := hid hh
  have n8 := fun W => wal_number e 8 W (by omega) (by omega)
  have n4 := fun W => wal_number l 4 W (by omega) (by omega)
  obtain ⟨z8, hz8⟩ : ∃ z : ByteArray, Hid (z = ⟨(numLE e 8).toArray⟩) := ⟨_, hid rfl⟩
  obtain ⟨z4, hz4⟩ : ∃ z : ByteArray, Hid (z = ⟨(numLE l 4).toArray⟩) := ⟨_, hid rfl⟩
  obtain ⟨zr, hzr⟩ : ∃ z : ByteArray, Hid (z = ⟨(List.replicate 44 (0 : UInt8)).toArray⟩) := ⟨_, hid rfl⟩
  have nr := fun W => repeat_nought 44 W (by omega)
  rw [← hz8.out] at n8
  rw [← hz4.out] at n4
  rw [← hzr.out] at nr
  have he1 : (e : Int) < 9223372036854775808 := by omega
  have hl1 : (l : Int) < 9223372036854775808 := by omega
  obtain ⟨t, htd⟩ : ∃ t : ByteArray, (⟨#[65, 81, 87, 76]⟩ : ByteArray) ++ z8 ++ z4 = t := ⟨_, rfl⟩
  have ht : t.data.toList = headTop e l := by
    rw [← htd, ba_append, ba_append, hz8.out, hz4.out, ba_mk, ba_mk]; rfl
  have hts : t.size ≤ maxLen := by rw [ba_size, ht]; simp [headTop, length_numLE, maxLen]
  have ns := fun W (hW : HalfAt W) => wal_sum t W hW hts
  obtain ⟨zs, hzs⟩ : ∃ z : ByteArray, Hid (z = ⟨(sum4 t.data.toList).toArray⟩) := ⟨_, hid rfl⟩
  rw [← hzs.out] at ns
  have HT := hid ht
  have q8 : z8.size = 8 := by rw [ba_size, hz8.out, ba_mk, length_numLE]
  have q4 : z4.size = 4 := by rw [ba_size, hz4.out, ba_mk, length_numLE]
  have qs : zs.size = 4 := by rw [ba_size, hzs.out, ba_mk, length_sum4]
  have qr : zr.size = 44 := by rw [ba_size, hzr.out, ba_mk, List.length_replicate]
  have qt : t.size = 16 := by rw [ba_size, ht]; simp [headTop, length_numLE]
  have HE := hid (show (t ++ zs ++ zr).data.toList = headB e l by rw [ba_append, ba_append, hzs.out, hzr.out, ba_mk, ba_mk, ht]; rfl)
  clear hh ht hts he hl
  go_enter Tryz.func78, Tryz.ntmps78
  go_wp2_with fail
  refine (n8 _).mono ?_
  rintro en w1 ⟨rfl, P1⟩
  go_wp2_with fail
  refine (n4 _).mono ?_
  rintro en w2 ⟨rfl, P2⟩
  have P := hid (P1.then P2)
  clear P1 P2
  go_wp2_with fail
  refine (ns _ (HH.out.pres P.out)).mono ?_
  rintro en w3 ⟨rfl, P3⟩
  have P := hid (P.out.then P3)
  clear P3
  go_wp2_with fail
  refine (nr _).mono ?_
  rintro en w4 ⟨rfl, P4⟩
  have P := hid (P.out.then P4)
  clear P4
  go_wp2
  go_ret
  exact ⟨ret_str (by rw [ba_mk]; exact HE.out), P.out⟩

theorem wal_frame (s : ByteArray) (w : World) (hh : HalfAt w) (hs : s.size ≤ 1000000000) :
    Calls Tryz.prog 95 #[.string s] w fun e w' => e = .returned (.string ⟨(frameB s.data.toList).toArray⟩) ∧ Pres [] w w' := by
  have HH := hid hh
  have n4 := fun W => wal_number s.size 4 W (by omega) (by omega)
  obtain ⟨z4, hz4⟩ : ∃ z : ByteArray, Hid (z = ⟨(numLE s.size 4).toArray⟩) := ⟨_, hid rfl⟩
  rw [← hz4.out] at n4
  have hs1 : (s.size : Int) ≤ 1000000000 := by omega
  obtain ⟨t, htd⟩ : ∃ t : ByteArray, z4 ++ s = t := ⟨_, rfl⟩
  have ht : t.data.toList = numLE s.size 4 ++ s.data.toList := by rw [← htd, ba_append, hz4.out, ba_mk]
  have hts : t.size ≤ maxLen := by rw [ba_size, ht]; simp [length_numLE, maxLen]; omega
  have ns := fun W (hW : HalfAt W) => wal_sum t W hW hts
  obtain ⟨zs, hzs⟩ : ∃ z : ByteArray, Hid (z = ⟨(sum4 t.data.toList).toArray⟩) := ⟨_, hid rfl⟩
  rw [← hzs.out] at ns
  have q4 : z4.size = 4 := by rw [ba_size, hz4.out, ba_mk, length_numLE]
  have qs : zs.size = 4 := by rw [ba_size, hzs.out, ba_mk, length_sum4]
  have qt : t.size = 4 + s.size := by rw [ba_size, ht, ba_size s]; simp [length_numLE]
  have HE := hid (show (z4 ++ zs ++ s).data.toList = frameB s.data.toList by
    rw [ba_append, ba_append, hzs.out, hz4.out, ba_mk, ba_mk, ht, ba_size s]; rfl)
  clear hh ht hts hs
  go_enter Tryz.func95, Tryz.ntmps95
  go_wp2_with fail
  refine (n4 _).mono ?_
  rintro en w1 ⟨rfl, P1⟩
  go_wp2_with fail
  refine (ns _ (HH.out.pres P1)).mono ?_
  rintro en w3 ⟨rfl, P3⟩
  have P := hid (P1.then P3)
  clear P1 P3
  go_wp2
  go_ret
  exact ⟨ret_str (by rw [ba_mk]; exact HE.out), P.out⟩

theorem toList_ne {a b : ByteArray} (h : ¬ a = b) : (a.toList == b.toList) = false := by
  rw [beq_eq_false_iff_ne, ByteArray.toList_eq, ByteArray.toList_eq]
  exact fun e => h (ba_ext e)

/-- What unframe answers. -/
def Unframed (b : List UInt8) (e : Ending) : Prop :=
  match unframeB b with
  | some (r, k) => e = .returned (.tuple #[.string ⟨r.toArray⟩, .int .i64 (k : Int), .bool true])
  | none => ∃ x y, e = .returned (.tuple #[.string x, .int .i64 y, .bool false])

theorem ba_take (s : ByteArray) (a b : Nat) : (s.extract a b).data.toList = (s.data.toList.take b).drop a := by
  rw [ByteArray.data_extract, Array.toList_extract, List.extract_eq_take_drop, List.take_drop]
  rcases Nat.le_total a b with h | h
  · rw [show a + (b - a) = b by omega]
  · rw [show a + (b - a) = a by omega, List.drop_of_length_le (by rw [List.length_take]; omega), List.drop_of_length_le (by rw [List.length_take]; omega)]

theorem wal_unframe (s : ByteArray) (w : World) (hh : HalfAt w) (hs : s.size ≤ 140737488351232) :
    Calls Tryz.prog 79 #[.string s] w fun e w' => Unframed s.data.toList e ∧ Pres [] w w' := by
  have HH := hid hh
  have hl : s.data.toList.length = s.size := by simp
  clear hh
  by_cases h8 : s.size < 8
  · have hu : unframeB s.data.toList = none := by unfold unframeB; rw [if_pos (by omega)]
    have h8' : (s.size : Int) < 8 := by omega
    have HU := hid hu
    clear hu hl
    go_enter Tryz.func79, Tryz.ntmps79
    go_wp2
    go_ret3
    exact ⟨by unfold Unframed; rw [HU.out]; exact ⟨_, _, rfl⟩, Pres.refl _ _⟩
  · have h8' : ¬ (s.size : Int) < 8 := by omega
    have hv := fun W => wal_value (s.extract 0 4) W (by rw [ByteArray.size_extract]; omega)
    obtain ⟨n, hn⟩ : ∃ n, Hid (valLE ((s.extract 0 4).data.toList) = n) := ⟨_, hid rfl⟩
    rw [hn.out] at hv
    have hn4 : n < 2 ^ 32 := by
      rw [← hn.out]
      have := valLE_lt (s.extract 0 4).data.toList
      have h4 : (s.extract 0 4).data.toList.length = 4 := by rw [← ba_size, ByteArray.size_extract]; omega
      rw [h4] at this
      omega
    have e4 : (s.extract 0 4).data.toList = s.data.toList.take 4 := by rw [ba_take]; simp
    have hn' : valLE (s.data.toList.take 4) = n := by rw [← e4]; exact hn.out
    have hn64 : (n : Int) < 9223372036854775808 := by omega
    by_cases hbig : n > 65536 ∨ n > s.size - 8
    · have hu : unframeB s.data.toList = none := by unfold unframeB; rw [if_neg (by omega), hn', if_pos (by omega)]
      have HU := hid hu
      clear hu hl e4 hn' hn4
      by_cases hb1 : n > 65536
      · have hb1' : 65536 < (n : Int) := by omega
        clear hbig hb1
        go_enter Tryz.func79, Tryz.ntmps79
        go_wp2_with (go_at_call 77; refine (hv _).mono ?_; rintro e w1 ⟨rfl, rfl⟩)
        go_ret3
        exact ⟨by unfold Unframed; rw [HU.out]; exact ⟨_, _, rfl⟩, Pres.refl _ _⟩
      · have hb1' : ¬ 65536 < (n : Int) := by omega
        have hb2' : (s.size : Int) - 8 < (n : Int) := by omega
        clear hbig hb1
        go_enter Tryz.func79, Tryz.ntmps79
        go_wp2_with (go_at_call 77; refine (hv _).mono ?_; rintro e w1 ⟨rfl, rfl⟩)
        go_ret3
        exact ⟨by unfold Unframed; rw [HU.out]; exact ⟨_, _, rfl⟩, Pres.refl _ _⟩
    · have hb1' : ¬ 65536 < (n : Int) := by omega
      have hb2' : ¬ (s.size : Int) - 8 < (n : Int) := by omega
      have hb3 : 8 + (n : Int) ≤ (s.size : Int) := by omega
      have hw8 : ((8 : Int) + (n : Int)).toNat = 8 + n := by omega
      obtain ⟨x4, hx4⟩ : ∃ x, s.extract 0 4 = x := ⟨_, rfl⟩
      obtain ⟨xr, hxr⟩ : ∃ x, s.extract 8 (8 + n) = x := ⟨_, rfl⟩
      obtain ⟨xs, hxs⟩ : ∃ x, s.extract 4 8 = x := ⟨_, rfl⟩
      obtain ⟨t, htd⟩ : ∃ t : ByteArray, x4 ++ xr = t := ⟨_, rfl⟩
      have er : xr.data.toList = (s.data.toList.drop 8).take n := by rw [← hxr, ba_take, ← List.take_drop]
      have es : xs.data.toList = (s.data.toList.drop 4).take 4 := by rw [← hxs, ba_take]; exact (List.take_drop (i := 4) (j := 4) (l := s.data.toList)).symm
      rw [hx4] at e4 hv
      have ht : t.data.toList = s.data.toList.take 4 ++ (s.data.toList.drop 8).take n := by rw [← htd, ba_append, e4, er]
      have q4 : x4.size = 4 := by rw [ba_size, e4]; simp; omega
      have qr : xr.size = n := by rw [ba_size, er]; simp; omega
      have qs : xs.size = 4 := by rw [ba_size, es]; simp; omega
      have hts : t.size ≤ maxLen := by rw [ba_size, ht]; simp [maxLen]; omega
      have ns := fun W (hW : HalfAt W) => wal_sum t W hW hts
      obtain ⟨zs, hzs⟩ : ∃ z : ByteArray, Hid (z = ⟨(sum4 t.data.toList).toArray⟩) := ⟨_, hid rfl⟩
      rw [← hzs.out] at ns
      have hu : unframeB s.data.toList = if sum4 t.data.toList = xs.data.toList then some (xr.data.toList, 8 + n) else none := by
        unfold unframeB
        rw [if_neg (by omega), hn', if_neg (by omega), ht, es, er]
      have hze : zs.data.toList = sum4 t.data.toList := by rw [hzs.out, ba_mk]
      have HU := hid hu
      have HZ := hid hze
      have hq4 : (4 : Int) ≤ (s.size : Int) := by omega
      have hq8 : (8 : Int) ≤ (s.size : Int) := by omega
      have hbn : ¬ 9223372036854775807 < 4 + n := by omega
      have hwn : IntKind.i64.wrap (n : Int) = (n : Int) := by rw [IntKind.wrap_i64]; omega
      have hwm : IntKind.i64.wrap (8 + (n : Int)) = 8 + (n : Int) := by rw [IntKind.wrap_i64]; omega
      have d1 : decide (65536 < (n : Int)) = false := by simpa using hb1'
      have d2 : decide ((s.size : Int) - 8 < (n : Int)) = false := by simp; omega
      clear hbig e4 er es ht hts hu hze hn4 hn' hl hb1' hb2'
      by_cases hq : zs = xs
      · subst hq
        go_enter Tryz.func79, Tryz.ntmps79
        go_upto_region 7 with (go_at_call 77; refine (hv _).mono ?_; rintro e w1 ⟨rfl, rfl⟩)
        refine wp_stages (by kernel_rfl) ?_
        refine wp_pures [(0, true), (1, true), (9, true), (10, true)] 11 rfl (by kernel_rfl) (by kernel_rfl) (by intro c a dd v w h; cases dd <;> exact h) ?_
        iterate 4 (refine wpOrd_read (v := _) rfl rfl (by intro w' hS; skip; clear hS; go_simp; rfl) ?_; (try simp only [Act.put, List.setIfInBounds_toArray, List.set_cons_succ, List.set_cons_zero, List.getElem_toArray, List.getElem_cons_succ, List.getElem_cons_zero]))
        refine wpOrd_end ?_
        refine wp_stage (fun _ => True) [(2, true), (3, true), (4, true), (5, true), (6, true), (7, true), (8, false), (11, true), (12, false), (13, false)] 1 rfl (by kernel_rfl) (by intro c a dd v w h; cases dd <;> exact h) (trivial) ?_
        iterate 6 (refine wpOrd_read (v := _) rfl rfl (by intro w' hS; skip; clear hS; go_simp; rfl) ?_; (try simp only [Act.put, List.setIfInBounds_toArray, List.set_cons_succ, List.set_cons_zero, List.getElem_toArray, List.getElem_cons_succ, List.getElem_cons_zero]))
        refine wpOrd_do rfl rfl (fun K hK => ?_)
        go_simp
        refine (ns _ (HH.out.pres (Pres.refl _ _).drew)).mono ?_
        rintro e w2 ⟨rfl, P2⟩
        refine hK _ _ ⟨trivial, ?_⟩
        clear hK K
        (try simp only [Act.put, List.setIfInBounds_toArray, List.set_cons_succ, List.set_cons_zero, List.getElem_toArray, List.getElem_cons_succ, List.getElem_cons_zero])
        iterate 1 (refine wpOrd_read (v := _) rfl rfl (by intro w' hS; skip; clear hS; go_simp; rfl) ?_; (try simp only [Act.put, List.setIfInBounds_toArray, List.set_cons_succ, List.set_cons_zero, List.getElem_toArray, List.getElem_cons_succ, List.getElem_cons_zero]))
        refine wpOrd_do rfl rfl (fun K hK => ?_)
        go_simp
        refine hK _ _ ⟨trivial, ?_⟩
        clear hK K
        (try simp only [Act.put, List.setIfInBounds_toArray, List.set_cons_succ, List.set_cons_zero, List.getElem_toArray, List.getElem_cons_succ, List.getElem_cons_zero])
        refine wpOrd_do rfl rfl (fun K hK => ?_)
        go_simp
        refine hK _ _ ⟨trivial, ?_⟩
        clear hK K
        (try simp only [Act.put, List.setIfInBounds_toArray, List.set_cons_succ, List.set_cons_zero, List.getElem_toArray, List.getElem_cons_succ, List.getElem_cons_zero])
        refine wpOrd_end ?_
        refine wp_stages_end 14 (by rfl) (by kernel_rfl) ?_
        simp only [List.drop_succ_cons, List.drop_zero]
        clear hwn hwm
        go_wp2
        go_ret3
        refine ⟨?_, (Pres.refl _ _).drew.then P2⟩
        unfold Unframed
        rw [HU.out, if_pos HZ.out.symm]
        exact congrArg Ending.returned (by rw [show (⟨xr.data.toList.toArray⟩ : ByteArray) = xr from ba_ext (ba_mk _)]; rfl)
      · have hqb : (zs.toList == xs.toList) = false := toList_ne hq
        have HQ := hid (show ¬ sum4 t.data.toList = xs.data.toList from fun e => hq (ba_ext (HZ.out.trans e)))
        clear hq
        go_enter Tryz.func79, Tryz.ntmps79
        go_upto_region 7 with (go_at_call 77; refine (hv _).mono ?_; rintro e w1 ⟨rfl, rfl⟩)
        refine wp_stages (by kernel_rfl) ?_
        refine wp_pures [(0, true), (1, true), (9, true), (10, true)] 11 rfl (by kernel_rfl) (by kernel_rfl) (by intro c a dd v w h; cases dd <;> exact h) ?_
        iterate 4 (refine wpOrd_read (v := _) rfl rfl (by intro w' hS; skip; clear hS; go_simp; rfl) ?_; (try simp only [Act.put, List.setIfInBounds_toArray, List.set_cons_succ, List.set_cons_zero, List.getElem_toArray, List.getElem_cons_succ, List.getElem_cons_zero]))
        refine wpOrd_end ?_
        refine wp_stage (fun _ => True) [(2, true), (3, true), (4, true), (5, true), (6, true), (7, true), (8, false), (11, true), (12, false), (13, false)] 1 rfl (by kernel_rfl) (by intro c a dd v w h; cases dd <;> exact h) (trivial) ?_
        iterate 6 (refine wpOrd_read (v := _) rfl rfl (by intro w' hS; skip; clear hS; go_simp; rfl) ?_; (try simp only [Act.put, List.setIfInBounds_toArray, List.set_cons_succ, List.set_cons_zero, List.getElem_toArray, List.getElem_cons_succ, List.getElem_cons_zero]))
        refine wpOrd_do rfl rfl (fun K hK => ?_)
        go_simp
        refine (ns _ (HH.out.pres (Pres.refl _ _).drew)).mono ?_
        rintro e w2 ⟨rfl, P2⟩
        refine hK _ _ ⟨trivial, ?_⟩
        clear hK K
        (try simp only [Act.put, List.setIfInBounds_toArray, List.set_cons_succ, List.set_cons_zero, List.getElem_toArray, List.getElem_cons_succ, List.getElem_cons_zero])
        iterate 1 (refine wpOrd_read (v := _) rfl rfl (by intro w' hS; skip; clear hS; go_simp; rfl) ?_; (try simp only [Act.put, List.setIfInBounds_toArray, List.set_cons_succ, List.set_cons_zero, List.getElem_toArray, List.getElem_cons_succ, List.getElem_cons_zero]))
        refine wpOrd_do rfl rfl (fun K hK => ?_)
        go_simp
        refine hK _ _ ⟨trivial, ?_⟩
        clear hK K
        (try simp only [Act.put, List.setIfInBounds_toArray, List.set_cons_succ, List.set_cons_zero, List.getElem_toArray, List.getElem_cons_succ, List.getElem_cons_zero])
        refine wpOrd_do rfl rfl (fun K hK => ?_)
        go_simp
        refine hK _ _ ⟨trivial, ?_⟩
        clear hK K
        (try simp only [Act.put, List.setIfInBounds_toArray, List.set_cons_succ, List.set_cons_zero, List.getElem_toArray, List.getElem_cons_succ, List.getElem_cons_zero])
        refine wpOrd_end ?_
        refine wp_stages_end 14 (by rfl) (by kernel_rfl) ?_
        simp only [List.drop_succ_cons, List.drop_zero]
        clear hwn hwm
        go_wp2
        go_ret3
        refine ⟨?_, (Pres.refl _ _).drew.then P2⟩
        unfold Unframed
        rw [HU.out, if_neg HQ.out]
        exact ⟨_, _, rfl⟩

end Go.Proofs.YtnffnpndnaofhaaGreatDoor

/- A page's bytes (layer 9), and what is read of them. Plain Lean, no Go. -/
namespace Go.Proofs.YtnffnpndnaofhaaGreatDoor

/-- What is summed: number, kind, length, body, noughts. -/
def pageTop (id kind : Nat) (body : List UInt8) : List UInt8 :=
  numLE id 4 ++ ([UInt8.ofNat kind, 0, UInt8.ofNat body.length, UInt8.ofNat (body.length / 256)] ++ (body ++ List.replicate (500 - body.length) 0))

def pageB (id kind : Nat) (body : List UInt8) : List UInt8 := pageTop id kind body ++ sum4 (pageTop id kind body)

theorem length_pageTop {id kind : Nat} {body : List UInt8} (h : body.length ≤ 500) : (pageTop id kind body).length = 508 := by
  simp only [pageTop, List.length_append, length_numLE, List.length_cons, List.length_nil, List.length_replicate]
  omega

theorem length_pageB {id kind : Nat} {body : List UInt8} (h : body.length ≤ 500) : (pageB id kind body).length = 512 := by
  rw [pageB, List.length_append, length_pageTop h, length_sum4]

theorem pageB_top {id kind : Nat} {body : List UInt8} (h : body.length ≤ 500) : (pageB id kind body).take 508 = pageTop id kind body := by
  rw [pageB, List.take_left' (length_pageTop h)]

theorem pageB_sum {id kind : Nat} {body : List UInt8} (h : body.length ≤ 500) : (pageB id kind body).drop 508 = sum4 (pageTop id kind body) := by
  rw [pageB, List.drop_left' (length_pageTop h)]

theorem pageB_id {id kind : Nat} {body : List UInt8} : (pageB id kind body).take 4 = numLE id 4 := by
  rw [pageB, pageTop, List.append_assoc, List.take_left' (length_numLE _ _)]

theorem pageB_tail {id kind : Nat} {body : List UInt8} : (pageB id kind body).drop 4 = [UInt8.ofNat kind, 0, UInt8.ofNat body.length, UInt8.ofNat (body.length / 256)] ++ (body ++ List.replicate (500 - body.length) 0) ++ sum4 (pageTop id kind body) := by
  rw [pageB]
  generalize sum4 (pageTop id kind body) = z
  rw [pageTop, List.append_assoc, List.drop_left' (length_numLE _ _), List.append_assoc]

theorem pageB_byte {id kind : Nat} {body : List UInt8} (j : Nat) (hj : j < 4) : (pageB id kind body)[4 + j]? = [UInt8.ofNat kind, 0, UInt8.ofNat body.length, UInt8.ofNat (body.length / 256)][j]? := by
  rw [← List.getElem?_drop, pageB_tail, List.append_assoc, List.getElem?_append_left (by simpa using hj)]

theorem pageB_rest {id kind : Nat} {body : List UInt8} : (pageB id kind body).drop 8 = body ++ (List.replicate (500 - body.length) 0 ++ sum4 (pageTop id kind body)) := by
  rw [show (8 : Nat) = 4 + 4 from rfl, ← List.drop_drop, pageB_tail, List.append_assoc, List.drop_left' (by simp), List.append_assoc]

theorem pageB_body {id kind : Nat} {body : List UInt8} : ((pageB id kind body).drop 8).take body.length = body := by
  rw [pageB_rest, List.take_left' rfl]

theorem pageB_noughts {id kind : Nat} {body : List UInt8} (h : body.length ≤ 500) : ((pageB id kind body).drop (8 + body.length)).take (500 - body.length) = List.replicate (500 - body.length) 0 := by
  rw [← List.drop_drop, pageB_rest, List.drop_left' rfl, List.take_left' (by simp)]

/-- A page is not of noughts alone. -/
theorem pageB_nonzero {id kind : Nat} {body : List UInt8} (h1 : 1 ≤ kind) (h2 : kind ≤ 255) : ∃ x ∈ pageB id kind body, x ≠ 0 := by
  have h := pageB_byte (id := id) (kind := kind) (body := body) 0 (by omega)
  refine ⟨UInt8.ofNat kind, List.mem_of_getElem? h, fun e => ?_⟩
  have := congrArg UInt8.toNat e
  rw [UInt8.toNat_ofNat'] at this
  simp at this
  omega

def zeroPg : List UInt8 := List.replicate 512 0

end Go.Proofs.YtnffnpndnaofhaaGreatDoor

/- A page (layer 9): put, is, get, Seal, Open, Sectors, Blank come to their data; conditions stand in the theorems. -/
namespace Go.Proofs.YtnffnpndnaofhaaGreatDoor
open Go.RowKit
set_option maxRecDepth 100000

theorem pg_put {w : World} {b off len cap : Nat} {cs : List Value} {E : TypeId} (hA : At w b cs E) (h1 : off + 4 ≤ cs.length) (h2 : 4 ≤ len) (n : Nat) (hn : n < 2 ^ 32) :
    Calls Tryz.prog 121 #[.slice (some ⟨b, off, none⟩) len cap, .int .u32 (n : Int)] w fun e w' => e = .returned (.tuple #[]) ∧
      w' = (((w.setCell ⟨b, off, none⟩ (byteV (UInt8.ofNat (n / 2 ^ (8 * 0))))).setCell ⟨b, off + 1, none⟩ (byteV (UInt8.ofNat (n / 2 ^ (8 * 1))))).setCell ⟨b, off + 2, none⟩ (byteV (UInt8.ofNat (n / 2 ^ (8 * 2))))).setCell ⟨b, off + 3, none⟩ (byteV (UInt8.ofNat (n / 2 ^ (8 * 3)))) := by
  have f0 := hA.frozen off
  have f1 := hA.frozen (off + 1)
  have f2 := hA.frozen (off + 2)
  have f3 := hA.frozen (off + 3)
  have g : ∀ j, j < 4 → ∃ v, w.cell? ⟨b, off + j, none⟩ = some v := fun j hj => ⟨_, (hA.cell (off + j)).trans (List.getElem?_eq_getElem (by omega))⟩
  obtain ⟨v0, c0⟩ := g 0 (by omega)
  obtain ⟨v1, c1⟩ := g 1 (by omega)
  obtain ⟨v2, c2⟩ := g 2 (by omega)
  obtain ⟨v3, c3⟩ := g 3 (by omega)
  rw [Nat.add_zero] at c0
  have e0 := hid (num_cell n 0)
  have e1 := hid (num_cell n 1)
  have e2 := hid (num_cell n 2)
  have e3 := hid (num_cell n 3)
  have l0 : (0 : Int) < (len : Int) := by omega
  have l1 : (1 : Int) < (len : Int) := by omega
  have l2 : (2 : Int) < (len : Int) := by omega
  have l3 : (3 : Int) < (len : Int) := by omega
  have hlt := hA.lt
  clear g h1 h2
  go_enter Tryz.func121, Tryz.ntmps121
  go_wp2
  go_end0
  refine ⟨rfl, ?_⟩
  rw [← e0.out, ← e1.out, ← e2.out, ← e3.out]
  have q0 : (n : Int) / 2 ^ (8 * 0) % 256 = (n : Int) % 256 := by omega
  have q1 : (n : Int) / 2 ^ (8 * 1) % 256 = (n : Int) / 256 % 256 := by omega
  have q2 : (n : Int) / 2 ^ (8 * 2) % 256 = (n : Int) / 65536 % 256 := by omega
  have q3 : (n : Int) / 2 ^ (8 * 3) % 256 = (n : Int) / 16777216 := by omega
  rw [q0, q1, q2, q3]

theorem set_four {α : Type _} (a b c d : α) : ∀ (off : Nat) (cs : List α), off + 4 ≤ cs.length → (((cs.set off a).set (off + 1) b).set (off + 2) c).set (off + 3) d = splice cs off [a, b, c, d]
  | 0, x0 :: x1 :: x2 :: x3 :: r, _ => rfl
  | 0, [], h => by simp at h
  | 0, [_], h => by simp at h
  | 0, [_, _], h => by simp at h
  | 0, [_, _, _], h => by simp at h
  | off + 1, [], h => by simp at h
  | off + 1, x :: r, h => by
    have ih := set_four a b c d off r (by simpa using h)
    have e : splice (x :: r) (off + 1) [a, b, c, d] = x :: splice r off [a, b, c, d] := by
      simp only [splice, List.take_succ_cons, List.cons_append]
      rw [show off + 1 + [a, b, c, d].length = (off + [a, b, c, d].length) + 1 by simp, List.drop_succ_cons]
    rw [e, ← ih]
    rfl

/-- put, over the bytes of a block. -/
theorem pg_putB {w : World} {b off len cap : Nat} {L : List UInt8} {E : TypeId} (hA : At w b (L.map byteV) E) (h1 : off + 4 ≤ L.length) (h2 : 4 ≤ len) (n : Nat) (hn : n < 2 ^ 32) :
    Calls Tryz.prog 121 #[.slice (some ⟨b, off, none⟩) len cap, .int .u32 (n : Int)] w fun e w' => e = .returned (.tuple #[]) ∧ At w' b ((splice L off (numLE n 4)).map byteV) E ∧ Pres [b] w w' := by
  refine (pg_put hA (by rw [List.length_map]; exact h1) h2 n hn).mono ?_
  rintro e w' ⟨rfl, rfl⟩
  refine ⟨rfl, ?_, ?_⟩
  · have h := (((hA.setCell off (byteV (UInt8.ofNat (n / 2 ^ (8 * 0))))).setCell (off + 1) (byteV (UInt8.ofNat (n / 2 ^ (8 * 1))))).setCell (off + 2) (byteV (UInt8.ofNat (n / 2 ^ (8 * 2))))).setCell (off + 3) (byteV (UInt8.ofNat (n / 2 ^ (8 * 3))))
    rw [set_four _ _ _ _ off _ (by rw [List.length_map]; exact h1)] at h
    have e : splice (L.map byteV) off [byteV (UInt8.ofNat (n / 2 ^ (8 * 0))), byteV (UInt8.ofNat (n / 2 ^ (8 * 1))), byteV (UInt8.ofNat (n / 2 ^ (8 * 2))), byteV (UInt8.ofNat (n / 2 ^ (8 * 3)))] = (splice L off (numLE n 4)).map byteV := by
      simp only [splice, List.map_append, List.map_take, List.map_drop]
      rfl
    rw [e] at h
    exact h
  · exact ((((Pres.refl _ _).setCell (by simp) _).setCell (by simp) _).setCell (by simp) _).setCell (by simp) _

theorem pg_is (w : World) (n : Nat) (hn : n < 2147483648) :
    Calls Tryz.prog 88 #[.int .i64 (n : Int)] w fun e w' => e = .returned (.bool true) ∧ w = w' := by
  have h1 : (n : Int) < 2147483648 := by omega
  go_enter Tryz.func88, Tryz.ntmps88
  go_wp2
  go_ret
  exact ⟨rfl, rfl⟩

theorem At.part {w : World} {b off len cap : Nat} {cs xs : List Value} {E : TypeId} (h : At w b cs E) (hx : (cs.drop off).take len = xs) (hl : xs.length = len) (hc : len ≤ cap) (hm : cap ≤ maxLen) : Reads w (.slice (some ⟨b, off, none⟩) len cap) xs := by
  refine ⟨_, cap, by rw [hl], by omega, hm, fun j x hj => ⟨b, off, rfl, ?_⟩⟩
  rw [h.cell, ← hj, ← hx, List.getElem?_take, if_pos (by have := (List.getElem?_eq_some_iff.1 hj).1; omega), List.getElem?_drop]

theorem page_steps {id kind : Nat} {body : List UInt8} (h : body.length ≤ 500) :
    let L1 := splice (List.replicate 512 (0 : UInt8)) 0 (numLE id 4)
    let L2 := ((L1.set 4 (UInt8.ofNat kind)).set 6 (UInt8.ofNat body.length)).set 7 (UInt8.ofNat (body.length / 256))
    let L3 := splice L2 8 body
    L3.take 508 = pageTop id kind body ∧ splice L3 508 (sum4 (L3.take 508)) = pageB id kind body ∧ L1.length = 512 ∧ L2.length = 512 ∧ L3.length = 512 := by
  intro L1 L2 L3
  obtain ⟨a0, a1, a2, a3, e4⟩ : ∃ a0 a1 a2 a3, numLE id 4 = [a0, a1, a2, a3] := ⟨_, _, _, _, rfl⟩
  have e1 : L1 = numLE id 4 ++ ([0, 0, 0, 0] ++ List.replicate 504 0) := by
    simp only [L1, splice, length_numLE, List.take_zero, List.nil_append, List.drop_replicate]
    rfl
  have e2 : L2 = numLE id 4 ++ ([UInt8.ofNat kind, 0, UInt8.ofNat body.length, UInt8.ofNat (body.length / 256)] ++ List.replicate 504 0) := by
    simp only [L2, e1, e4]
    rfl
  have e3 : L3 = numLE id 4 ++ ([UInt8.ofNat kind, 0, UInt8.ofNat body.length, UInt8.ofNat (body.length / 256)] ++ (body ++ List.replicate (504 - body.length) 0)) := by
    simp only [L3, e2]
    have h8 : (numLE id 4 ++ [UInt8.ofNat kind, 0, UInt8.ofNat body.length, UInt8.ofNat (body.length / 256)]).length = 8 := by simp [length_numLE]
    rw [← List.append_assoc, splice, List.take_left' h8, List.drop_append, h8, List.drop_eq_nil_of_le (by omega), List.nil_append, show 8 + body.length - 8 = body.length by omega, List.drop_replicate, List.append_assoc]
  have e5 : L3 = pageTop id kind body ++ [0, 0, 0, 0] := by
    rw [e3, pageTop]
    have : List.replicate (504 - body.length) (0 : UInt8) = List.replicate (500 - body.length) 0 ++ [0, 0, 0, 0] := by
      rw [show 504 - body.length = (500 - body.length) + 4 by omega, ← List.replicate_append_replicate]
      rfl
    rw [this]
    simp only [List.append_assoc]
  have hl := length_pageTop (id := id) (kind := kind) h
  have e6 : L3.take 508 = pageTop id kind body := by rw [e5, List.take_left' hl]
  refine ⟨e6, ?_, ?_, ?_, ?_⟩
  · rw [e6, splice, e6, pageB, length_sum4, e5, List.drop_eq_nil_of_le (by simp [hl]), List.append_nil]
  · rw [e1]; simp [length_numLE]
  · rw [e2]; simp [length_numLE]
  · rw [e5]; simp [hl]

theorem zero_page : (Tryz.prog.info? 171).bind (·.zero) = some (.agg ((List.replicate 512 (0 : UInt8)).map byteV).toArray) := by kernel_rfl

theorem byte_val (n : Nat) : byteV (UInt8.ofNat n) = .int .u8 ((n : Int) % 256) := by
  rw [byteV, UInt8.toNat_ofNat']
  rfl

theorem pres_set3 {w w2 : World} {b : Nat} (P : Pres [] w w2) (hb : w.heap.size ≤ b) (i j k : Nat) (x y z : Value) : Pres [] w (((w2.setCell ⟨b, i, none⟩ x).setCell ⟨b, j, none⟩ y).setCell ⟨b, k, none⟩ z) := by
  have h : Pres [b] w2 (((w2.setCell ⟨b, i, none⟩ x).setCell ⟨b, j, none⟩ y).setCell ⟨b, k, none⟩ z) := (((Pres.refl _ _).setCell (by simp) _).setCell (by simp) _).setCell (by simp) _
  exact P.trans h (by intro x hx; simp at hx; subst hx; exact .inr hb)

set_option maxHeartbeats 4000000 in
theorem pg_seal (w : World) (hh : HalfAt w) (id kind : Nat) (s : ByteArray) (h1 : id < 2147483648) (h2 : 1 ≤ kind) (h3 : kind ≤ 255) (h4 : s.size ≤ 500) :
    Calls Tryz.prog 89 #[.int .i64 (id : Int), .int .i64 (kind : Int), .string s] w fun e w' => e = .returned (.tuple #[strV (pageB id kind s.data.toList), .int .i64 0]) ∧ Pres [] w w' := by
  have HH := hid hh
  have hi := fun W => pg_is W id h1
  have k1 : ¬ (kind : Int) < 1 := by omega
  have k2 : ¬ 255 < (kind : Int) := by omega
  have k3 : ¬ 500 < (s.size : Int) := by omega
  have k4 : (id : Int) < 4294967296 := by omega
  have k5 : (kind : Int) ≤ 255 := by omega
  have k6 : (s.size : Int) ≤ 500 := by omega
  have d1 : decide ((kind : Int) < 1) = false := decide_eq_false k1
  have d2 : decide (255 < (kind : Int)) = false := decide_eq_false k2
  have d3 : decide (500 < (s.size : Int)) = false := decide_eq_false k3
  have HB := hid (And.intro h1 (And.intro h2 (And.intro h3 h4)))
  obtain ⟨L0, hL0⟩ : ∃ L0, Hid (List.replicate 512 (0 : UInt8) = L0) := ⟨_, hid rfl⟩
  have hzp := zero_page
  rw [hL0.out] at hzp
  have HZP := hid hzp
  clear hzp
  obtain ⟨bd, hbd⟩ : ∃ bd, Hid (s.data.toList = bd) := ⟨_, hid rfl⟩
  have hbl : bd.length = s.size := by rw [← hbd.out, ← ba_size]
  have HBL := hid hbl
  rw [hbd.out]
  obtain ⟨z, hz⟩ : ∃ z, Hid (pageB id kind bd = z) := ⟨_, hid rfl⟩
  rw [hz.out]
  clear hbl
  clear hh h1 h2 h3 h4 k1 k2 k3
  go_enter Tryz.func89, Tryz.ntmps89
  go_wp2_with (first
    | (go_at_call 88; refine (hi _).mono ?_; rintro e w' ⟨rfl, rfl⟩)
    | ((with_reducible refine at_alloc ?_); refine wpL_alloc rfl 171 rfl _ HZP.out ?_; intro w1 A1 P1 S1; replace A1 := hid A1))
  have l0 : L0.length = 512 := by rw [← hL0.out, List.length_replicate]
  refine (pg_putB A1.out (by omega) (by omega) id (by have := HB.out.1; omega)).mono ?_
  rintro e w2 ⟨rfl, A2, P2⟩
  obtain ⟨b, hb⟩ : ∃ b, w.heap.size = b := ⟨_, rfl⟩
  rw [hb] at A2 P2
  obtain ⟨L1, hL1⟩ : ∃ L1, Hid (splice L0 0 (numLE id 4) = L1) := ⟨_, hid rfl⟩
  rw [hL1.out] at A2
  have hs := page_steps (id := id) (kind := kind) (body := bd) (by rw [HBL.out]; exact HB.out.2.2.2)
  simp only [hL0.out, hL1.out] at hs
  obtain ⟨s1, s2, s3, s4, s5⟩ := hs
  have HS := hid (And.intro s1 (And.intro s2 (And.intro s3 (And.intro s4 s5))))
  have g : ∀ j, j < 512 → ∃ v, w2.cell? ⟨b, j, none⟩ = some v := fun j hj => ⟨_, (A2.cell j).trans (List.getElem?_eq_getElem (by rw [List.length_map, s3]; exact hj))⟩
  obtain ⟨v4, c4⟩ := g 4 (by omega)
  obtain ⟨v6, c6⟩ := g 6 (by omega)
  obtain ⟨v7, c7⟩ := g 7 (by omega)
  have f4 := A2.frozen 4
  have f6 := A2.frozen 6
  have f7 := A2.frozen 7
  have hlt := A2.lt
  have A2 := hid A2
  have PP := hid (Pres.trans P1 P2 (by intro x hx; simp at hx; omega))
  rw [hb]
  clear s1 s2 s3 s4 s5 g P1 P2 A1 S1
  go_upto_region 8 with fail
  have e4 : Value.int IntKind.u8 (kind : Int) = byteV (UInt8.ofNat kind) := by rw [byte_val]; congr 1; omega
  have e6 : Value.int IntKind.u8 ((s.size : Int) % 256) = byteV (UInt8.ofNat bd.length) := by rw [byte_val, HBL.out]
  have e7 : Value.int IntKind.u8 ((s.size : Int) / 256) = byteV (UInt8.ofNat (bd.length / 256)) := by rw [byte_val, HBL.out]; congr 1; omega
  rw [e4, e6, e7]
  have A3 := ((A2.out.setCell 4 (byteV (UInt8.ofNat kind))).setCell 6 (byteV (UInt8.ofNat bd.length))).setCell 7 (byteV (UInt8.ofNat (bd.length / 256)))
  rw [map_byte_set, map_byte_set, map_byte_set] at A3
  have P3 := hid (pres_set3 PP.out (Nat.le_of_eq hb) 4 6 7 (byteV (UInt8.ofNat kind)) (byteV (UInt8.ofNat bd.length)) (byteV (UInt8.ofNat (bd.length / 256))))
  obtain ⟨L2, hL2⟩ : ∃ L2, Hid (((L1.set 4 (UInt8.ofNat kind)).set 6 (UInt8.ofNat bd.length)).set 7 (UInt8.ofNat (bd.length / 256)) = L2) := ⟨_, hid rfl⟩
  obtain ⟨s1, s2, -, s4, s5⟩ := HS.out
  rw [hL2.out] at A3 s1 s2 s4 s5
  generalize ((w2.setCell ⟨b, 4, none⟩ (byteV (UInt8.ofNat kind))).setCell ⟨b, 6, none⟩ (byteV (UInt8.ofNat bd.length))).setCell ⟨b, 7, none⟩ (byteV (UInt8.ofNat (bd.length / 256))) = w3 at *
  generalize byteV (UInt8.ofNat kind) = x4 at *
  generalize byteV (UInt8.ofNat bd.length) = x6 at *
  generalize byteV (UInt8.ofNat (bd.length / 256)) = x7 at *
  obtain ⟨L3, hL3⟩ : ∃ L3, Hid (splice L2 8 bd = L3) := ⟨_, hid rfl⟩
  rw [hL3.out] at s1 s2 s5
  have hbt : s.data.toList.take 504 = bd := by rw [hbd.out, List.take_of_length_le (by rw [HBL.out]; have := HB.out.2.2.2; omega)]
  have HT := hid hbt
  have HS := hid (And.intro s1 (And.intro s2 (And.intro s4 s5)))
  have A3 := hid A3
  clear s1 s2 s4 s5 hbt e4 e6 e7 c4 c6 c7 f4 f6 f7 A2 PP
  go_upto_region 9 with ((with_reducible refine at_copy ?_); refine wpL_copy_string rfl (.tmp 41) (.tmp 42) 122 9 rfl 5 Tryz.underlying122 (by kernel_rfl) b 8 504 504 rfl s rfl _ _ A3.out (by rw [List.length_map, HS.out.2.2.1]; omega) ?_; intro w4 A4 P4 S4; replace A4 := hid A4)
  have A5 : At w4 b (L3.map byteV) 171 := by
    have h := A4.out
    rw [HT.out] at h
    have e : splice (L2.map byteV) 8 (bd.map byteV) = L3.map byteV := by
      rw [← hL3.out]
      simp only [splice, List.map_append, List.map_take, List.map_drop, List.length_map]
    rw [e] at h
    exact h
  have PP := hid (P3.out.trans P4 (by intro x hx; simp at hx; right; omega))
  have A5 := hid A5
  clear A4 A3 P3 P4 S4
  refine wp_stages (by kernel_rfl) ?_
  refine wp_stage (fun _ => True) [(0, true), (1, true), (2, false)] 1 rfl (by kernel_rfl) (by intro c a dd v w h; cases dd <;> exact h) (trivial) ?_
  iterate 2 (refine wpOrd_read (v := _) rfl rfl (by intro w' hS; skip; clear hS; go_simp; rfl) ?_; (try simp only [Act.put, List.setIfInBounds_toArray, List.set_cons_succ, List.set_cons_zero, List.getElem_toArray, List.getElem_cons_succ, List.getElem_cons_zero]))
  have A6 := hid (show At w4.drew b (L3.map byteV) 171 from A5.out)
  have P6 := hid (PP.out.drew)
  have hlt6 := A6.out.lt
  generalize w4.drew = w6 at *
  have hsum := crc_sum w6 (HH.out.pres P6.out) (.slice (some ⟨b, 0, none⟩) 508 512) (pageTop id kind bd) (A6.out.part (by rw [List.drop_zero, ← List.map_take, HS.out.1]) (by rw [List.length_map]; exact length_pageTop (by rw [HBL.out]; exact HB.out.2.2.2)) (by omega) (by unfold maxLen; omega))
  obtain ⟨c, hc⟩ : ∃ c, Hid (crc (pageTop id kind bd) = c) := ⟨_, hid rfl⟩
  have hcl := crc_lt (pageTop id kind bd)
  rw [hc.out] at hsum hcl
  refine wpOrd_do rfl rfl (fun K hK => ?_)
  go_simp
  refine hsum.mono ?_
  rintro e w7 ⟨rfl, rfl⟩
  refine hK _ _ ⟨trivial, ?_⟩
  clear hK K
  (try simp only [Act.put, List.setIfInBounds_toArray, List.set_cons_succ, List.set_cons_zero, List.getElem_toArray, List.getElem_cons_succ, List.getElem_cons_zero])
  refine wpOrd_end ?_
  refine wp_stages_end 3 (by rfl) (by kernel_rfl) ?_
  simp only [List.drop_succ_cons, List.drop_zero]
  have hpt := pg_putB (off := 508) (len := 4) (cap := 4) A6.out (by have := HS.out.2.2.2; omega) (by omega) c hcl
  have hfin : splice L3 508 (numLE c 4) = z := by
    have h := HS.out.2.1
    rw [HS.out.1, sum4, hc.out, hz.out] at h
    exact h
  rw [hfin] at hpt
  have hzl : z.length = 512 := by rw [← hz.out]; exact length_pageB (by rw [HBL.out]; exact HB.out.2.2.2)
  have HZL := hid hzl
  clear hfin hzl hsum
  go_wp2_with (first
    | (go_at_call 121; refine hpt.mono ?_; rintro e w8 ⟨rfl, A8, P8⟩; replace A8 := hid A8)
    | ((with_reducible refine at_conv ?_); refine wpL_bytes_string rfl 122 9 _ rfl 5 Tryz.underlying122 Tryz.underlying5 Tryz.underlying9 b 0 512 512 rfl z HZL.out _ _ A8.out (by rw [List.drop_zero, List.take_of_length_le (by rw [List.length_map, HZL.out]; omega)]) ?_))
  go_ret2
  exact ⟨rfl, P6.out.trans P8 (by intro x hx; simp at hx; right; omega)⟩

end Go.Proofs.YtnffnpndnaofhaaGreatDoor

/- A page (layer 9): get, Open, Blank, Sectors come to their data; conditions stand in the theorems. -/
namespace Go.Proofs.YtnffnpndnaofhaaGreatDoor
open Go.RowKit
set_option maxRecDepth 100000

theorem bits_or32 {a b i : Nat} (hb : b < 2 ^ i) (h : a * 2 ^ i + b < 2 ^ 32) : bits .or .u32 (b : Int) ((a * 2 ^ i : Nat) : Int) = ((b + a * 2 ^ i : Nat) : Int) := by
  have e1 : (BitVec.ofInt 32 ((a * 2 ^ i : Nat) : Int)).toNat = a * 2 ^ i := ofInt_nat32 (by omega)
  have e2 : (BitVec.ofInt 32 (b : Int)).toNat = b := ofInt_nat32 (by omega)
  have e3 : b ||| a * 2 ^ i = b + a * 2 ^ i := by
    have := Nat.two_pow_add_eq_or_of_lt hb a
    rw [Nat.mul_comm, Nat.or_comm] at this
    omega
  have e : (BitVec.ofInt 32 (b : Int) ||| BitVec.ofInt 32 ((a * 2 ^ i : Nat) : Int)).toNat = b + a * 2 ^ i := by rw [BitVec.toNat_or, e1, e2, e3]
  change IntKind.u32.wrap ((BitVec.ofInt 32 (b : Int) ||| BitVec.ofInt 32 ((a * 2 ^ i : Nat) : Int)).toNat : Int) = _
  rw [e, IntKind.wrap_u32]
  omega

theorem valLE_four {s : ByteArray} (h : 4 ≤ s.size) : valLE (s.data.toList.take 4) = s[0].toNat + s[1].toNat * 2 ^ 8 + s[2].toNat * 2 ^ 16 + s[3].toNat * 2 ^ 24 := by
  have hl : 4 ≤ s.data.toList.length := by simpa using h
  match hm : s.data.toList, hl with
  | x0 :: x1 :: x2 :: x3 :: r, _ =>
    have g : ∀ (j : Nat) (hj : j < s.size) (x : UInt8), s.data.toList[j]? = some x → s[j] = x := by
      intro j hj x e
      have : s.data.toList[j]? = some s[j] := by rw [List.getElem?_eq_getElem (by simpa using hj)]; rfl
      rw [this] at e
      exact Option.some.inj e
    rw [g 0 (by omega) x0 (by rw [hm]; rfl), g 1 (by omega) x1 (by rw [hm]; rfl), g 2 (by omega) x2 (by rw [hm]; rfl), g 3 (by omega) x3 (by rw [hm]; rfl)]
    simp only [List.take_succ_cons, List.take_zero, valLE]
    omega

theorem pg_get (s : ByteArray) (w : World) (hs : 4 ≤ s.size) :
    Calls Tryz.prog 87 #[.string s] w fun e w' => e = .returned (.int .u32 ((valLE (s.data.toList.take 4) : Nat) : Int)) ∧ w' = w.drew := by
  have hv := valLE_four hs
  obtain ⟨V, hV⟩ : ∃ V, Hid (valLE (s.data.toList.take 4) = V) := ⟨_, hid rfl⟩
  rw [hV.out] at hv ⊢
  have h0 : (0 : Nat) < s.size := by omega
  have h1 : (1 : Nat) < s.size := by omega
  have h2 : (2 : Nat) < s.size := by omega
  have h3 : (3 : Nat) < s.size := by omega
  have b0 : s[0].toNat < 256 := s[0].toNat_lt
  have b1 : s[1].toNat < 256 := s[1].toNat_lt
  have b2 : s[2].toNat < 256 := s[2].toNat_lt
  have b3 : s[3].toNat < 256 := s[3].toNat_lt
  have i0 : (0 : Int) < (s.size : Int) := by omega
  have i1 : (1 : Int) < (s.size : Int) := by omega
  have i2 : (2 : Int) < (s.size : Int) := by omega
  have i3 : (3 : Int) < (s.size : Int) := by omega
  obtain ⟨x0, e0⟩ : ∃ x, s[0].toNat = x := ⟨_, rfl⟩
  obtain ⟨x1, e1⟩ : ∃ x, s[1].toNat = x := ⟨_, rfl⟩
  obtain ⟨x2, e2⟩ : ∃ x, s[2].toNat = x := ⟨_, rfl⟩
  obtain ⟨x3, e3⟩ : ∃ x, s[3].toNat = x := ⟨_, rfl⟩
  rw [e0, e1, e2, e3] at hv
  rw [e0] at b0
  rw [e1] at b1
  rw [e2] at b2
  rw [e3] at b3
  have u0 : IntKind.u32.wrap (x0 : Int) = (x0 : Int) := by rw [IntKind.wrap_u32]; omega
  have u1 : IntKind.u32.wrap (x1 : Int) = (x1 : Int) := by rw [IntKind.wrap_u32]; omega
  have u2 : IntKind.u32.wrap (x2 : Int) = (x2 : Int) := by rw [IntKind.wrap_u32]; omega
  have u3 : IntKind.u32.wrap (x3 : Int) = (x3 : Int) := by rw [IntKind.wrap_u32]; omega
  obtain ⟨y1, f1⟩ : ∃ y, Hid (x1 * 2 ^ 8 = y) := ⟨_, hid rfl⟩
  obtain ⟨y2, f2⟩ : ∃ y, Hid (x2 * 2 ^ 16 = y) := ⟨_, hid rfl⟩
  obtain ⟨y3, f3⟩ : ∃ y, Hid (x3 * 2 ^ 24 = y) := ⟨_, hid rfl⟩
  obtain ⟨z1, g1⟩ : ∃ y, Hid (x0 + y1 = y) := ⟨_, hid rfl⟩
  obtain ⟨z2, g2⟩ : ∃ y, Hid (z1 + y2 = y) := ⟨_, hid rfl⟩
  have m1 : IntKind.u32.wrap ((x1 : Int) * 256) = (y1 : Int) := by rw [IntKind.wrap_u32, ← f1.out]; omega
  have m2 : IntKind.u32.wrap ((x2 : Int) * 65536) = (y2 : Int) := by rw [IntKind.wrap_u32, ← f2.out]; omega
  have m3 : IntKind.u32.wrap ((x3 : Int) * 16777216) = (y3 : Int) := by rw [IntKind.wrap_u32, ← f3.out]; omega
  have o1 : bits .or .u32 (x0 : Int) (y1 : Int) = (z1 : Int) := by
    have := bits_or32 (a := x1) (b := x0) (i := 8) (by omega) (by omega)
    rw [f1.out, g1.out] at this
    exact this
  have o2 : bits .or .u32 (z1 : Int) (y2 : Int) = (z2 : Int) := by
    have := bits_or32 (a := x2) (b := z1) (i := 16) (by rw [← g1.out, ← f1.out]; omega) (by rw [← g1.out, ← f1.out]; omega)
    rw [f2.out, g2.out] at this
    exact this
  have o3 : bits .or .u32 (z2 : Int) (y3 : Int) = (V : Int) := by
    have := bits_or32 (a := x3) (b := z2) (i := 24) (by rw [← g2.out, ← g1.out, ← f1.out, ← f2.out]; omega) (by rw [← g2.out, ← g1.out, ← f1.out, ← f2.out]; omega)
    rw [f3.out] at this
    rw [this]
    have hvv : V = z2 + y3 := by rw [hv, ← g2.out, ← g1.out, ← f1.out, ← f2.out, ← f3.out]
    rw [hvv]
  clear hv hs b0 b1 b2 b3
  go_enter Tryz.func87, Tryz.ntmps87
  go_upto_region 1 with fail
  refine wp_stages (by kernel_rfl) ?_
  refine wp_stage (fun _ => True) [(0, true), (1, true), (2, true), (3, true), (4, true), (5, true), (6, true), (7, true), (8, true), (9, true), (10, true), (11, true), (12, true), (13, true), (14, true), (15, true), (16, true)] 2 rfl (by kernel_rfl) (by intro c a dd v w h; cases dd <;> exact h) (trivial) ?_
  iterate 17 (refine wpOrd_read (v := _) rfl rfl (by intro w' hS; skip; clear hS; go_simp; rfl) ?_; (try simp only [Act.put, List.setIfInBounds_toArray, List.set_cons_succ, List.set_cons_zero, List.getElem_toArray, List.getElem_cons_succ, List.getElem_cons_zero]))
  refine wpOrd_end ?_
  refine wp_stages_end 17 (by rfl) (by kernel_rfl) ?_
  simp only [List.drop_succ_cons, List.drop_zero]
  go_wp2
  go_ret
  exact ⟨rfl, rfl⟩

theorem trimB_zero (n : Nat) : Lib.trimB (List.replicate n (0 : UInt8)) 0 = [] := by
  have h : ∀ n, (List.replicate n (0 : UInt8)).dropWhile (· == 0) = [] := by
    intro n
    induction n with
    | zero => rfl
    | succ n ih => rw [List.replicate_succ, List.dropWhile_cons_of_pos (by simp)]; exact ih
  unfold Lib.trimB Lib.trimRightB Lib.trimLeftB
  rw [List.reverse_replicate, h]
  rfl

theorem dropWhile_all {α : Type _} {p : α → Bool} : ∀ {l : List α}, l.dropWhile p = [] → ∀ x ∈ l, p x = true
  | [], _, x, hx => by cases hx
  | y :: l, h, x, hx => by
    cases hp : p y with
    | true =>
      rw [List.dropWhile_cons_of_pos hp] at h
      rcases List.mem_cons.1 hx with rfl | hx
      · exact hp
      · exact dropWhile_all h x hx
    | false => rw [List.dropWhile_cons_of_neg (by simp [hp])] at h; cases h

theorem dropWhile_first {α : Type _} {p : α → Bool} : ∀ {l : List α}, l.dropWhile p ≠ [] → ∃ x ∈ l.dropWhile p, p x = false
  | [], h => absurd rfl h
  | y :: l, h => by
    cases hp : p y with
    | true =>
      rw [List.dropWhile_cons_of_pos hp] at h ⊢
      exact dropWhile_first h
    | false =>
      rw [List.dropWhile_cons_of_neg (by simp [hp])]
      exact ⟨y, by simp, hp⟩

theorem trimB_ne {l : List UInt8} (h : ∃ x ∈ l, x ≠ 0) : Lib.trimB l 0 ≠ [] := by
  obtain ⟨x, hx, hne⟩ := h
  unfold Lib.trimB Lib.trimRightB Lib.trimLeftB
  intro e
  have e2 : ∀ y ∈ l.reverse.dropWhile (· == 0), (y == 0) = true := fun y hy => dropWhile_all e y (List.mem_reverse.2 hy)
  by_cases hd : l.reverse.dropWhile (· == 0) = []
  · have := dropWhile_all hd x (List.mem_reverse.2 hx)
    simp at this
    exact hne this
  · obtain ⟨y, hy, h1⟩ := dropWhile_first hd
    rw [e2 y hy] at h1
    cases h1

theorem pg_blank (s : ByteArray) (w : World) (hs : s.size = 512) (b : Bool) (hb : if b then s.data.toList = zeroPg else ∃ x ∈ s.data.toList, x ≠ 0) :
    Calls Tryz.prog 47 #[.string s] w fun e w' => e = .returned (.bool b) ∧ Pres [] w w' := by
  have ht := Tryz.strings_Trim_one s 0 (by decide) w (by omega)
  obtain ⟨z, hz⟩ : ∃ z : ByteArray, Hid (z = ⟨(Lib.trimB s.data.toList 0).toArray⟩) := ⟨_, hid rfl⟩
  rw [← hz.out] at ht
  have hs' : (s.size : Int) = 512 := by omega
  cases b with
  | true =>
    rw [if_pos rfl] at hb
    obtain rfl : z = ⟨#[]⟩ := by rw [hz.out, hb, zeroPg, trimB_zero]
    clear hb
    go_enter Tryz.func47, Tryz.ntmps47
    go_wp2_with (go_at_call 85; refine ht.mono ?_; rintro e w1 ⟨rfl, hw⟩)
    go_ret
    rcases hw with rfl | rfl
    · exact ⟨rfl, Pres.refl _ _⟩
    · exact ⟨rfl, (Pres.refl _ _).drew⟩
  | false =>
    rw [if_neg (by simp)] at hb
    have hne := trimB_ne hb
    have hze : z.toList.isEmpty = false := by
      rw [hz.out, ByteArray.toList_eq]
      simpa using hne
    clear hb hne
    go_enter Tryz.func47, Tryz.ntmps47
    go_wp2_with (go_at_call 85; refine ht.mono ?_; rintro e w1 ⟨rfl, hw⟩)
    go_ret
    rcases hw with rfl | rfl
    · exact ⟨rfl, Pres.refl _ _⟩
    · exact ⟨rfl, (Pres.refl _ _).drew⟩

end Go.Proofs.YtnffnpndnaofhaaGreatDoor
