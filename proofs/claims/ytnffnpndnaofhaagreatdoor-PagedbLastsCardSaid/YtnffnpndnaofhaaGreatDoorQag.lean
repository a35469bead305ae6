/- Parts of the proof: Flush in one contract, and On; the conditions stand in the theorems. -/
import Derived.Test.YtnffnpndnaofhaaGreatDoorQaf
import Derived.Test.YtnffnpndnaofhaaGreatDoorQab

/- Flush in one contract, and On; the conditions stand in the theorems. -/
namespace Go.Proofs.YtnffnpndnaofhaaGreatDoor
open Go.RowKit

/-- Flush, whatever the state. -/
theorem disk_flush {w : World} {d : Nat} {fp : List Nat} {σ : Dk} (h : DiskAt w d fp σ) :
    Calls Tryz.prog 83 #[.pointer (some ⟨d, 0, none⟩)] w fun e w' => e = .returned (.int .i64 σ.flush.1) ∧ DiskStep w d fp σ.flush.2 w' := by
  by_cases hb : σ.down = true ∨ σ.does.1 ≠ 0
  · have e : σ.flush.1 = 10 := by
      unfold Dk.flush
      split
      · rfl
      · rename_i hd
        rw [if_neg (by rcases hb with h1 | h1 <;> simp_all)]
    rw [e]
    exact flush_bad h hb
  · have hdn : σ.down = false := by cases h1 : σ.down <;> simp_all
    have hg : σ.does.1 = 0 := by simpa [hdn] using hb
    have e : σ.flush = (0, σ.does.2.settle) := by unfold Dk.flush; rw [if_neg (by simp [hdn]), if_pos hg]
    rw [e]
    exact flush_good h hdn hg

theorem marked_take {keep : List Bool} {ps : List (Nat × List UInt8)} {k : Nat} {q : Nat × List UInt8} (h : ps[k]? = some q) :
    marked keep 0 (ps.take (k + 1)) = marked keep 0 (ps.take k) ++ (if keep.getD k false then [q] else []) := by
  obtain ⟨hk, rfl⟩ := List.getElem?_eq_some_iff.1 h
  rw [List.take_succ_eq_append_getElem hk, marked_snoc, List.length_take, Nat.zero_add, Nat.min_eq_left (by omega)]

theorem keptCells_length' {σ : Dk} (ok : σ.Ok) {ps : List (Nat × List UInt8)} (h : ∀ p ∈ ps, p ∈ σ.pend) : (keptCells (keepAll σ.kept ps)).length = σ.kept.length * 64 := by
  have := flat_length (f := blockCells) (sz := 64) (l := keepAll σ.kept ps) (fun x hx => by rw [length_blockCells]; exact keepAll_full _ _ ok.full (fun p hp => (ok.pend p (h p hp)).2) x hx)
  rw [keepAll_length] at this
  exact this

theorem on_bad {w : World} {d : Nat} {fp : List Nat} {σ : Dk} (h : DiskAt w d fp σ) (hdn : σ.down = false) (v : Value) :
    Calls Tryz.prog 34 #[.pointer (some ⟨d, 0, none⟩), v] w fun e w' => e = .returned (.int .i64 9) ∧ w = w' := by
  have hn := fun W (hW : W = w) => hW ▸ disk_none h
  obtain ⟨kb, pv, -, -, -, -, hd, -, -, ok⟩ := h
  have h2 := hd.cell 2
  simp only [diskCells, List.getElem?_cons_succ, List.getElem?_cons_zero] at h2
  rw [hdn] at h2
  clear ok hd hdn
  go_enter Tryz.func34, Tryz.ntmps34
  go_wp2_with (go_at_call 64; refine (hn _ rfl).mono ?_; rintro e w' ⟨rfl, rfl⟩)
  go_ret
  exact ⟨rfl, rfl⟩

set_option maxHeartbeats 2000000 in
theorem on_good {w : World} {d : Nat} {fp : List Nat} {σ : Dk} (h : DiskAt w d fp σ) (hdn : σ.down = true) {v : Value} {keep : List Bool} (hv : Reads w v (keep.map Value.bool)) (hap : keep ≠ [] → ∀ k ∈ fpv v, k ∉ fp) :
    Calls Tryz.prog 34 #[.pointer (some ⟨d, 0, none⟩), v] w fun e w' => e = .returned (.int .i64 0) ∧
      DiskStep w d fp { σ with kept := keepAll σ.kept (marked keep 0 σ.pend), pend := [], down := false, armed := false, left := 0 } w' := by
  have hn := fun W (hW : W = w) => hW ▸ disk_none h
  obtain ⟨kb, pv, rfl, n1, n2, n3, A1, A2, A3, ok⟩ := h
  obtain ⟨ao, cap, epv, hc1, hc2⟩ := A3.shape
  subst epv
  obtain ⟨av, capv, ev, hv1, hv2, -⟩ := id hv
  rw [List.length_map] at ev hv1
  subst ev
  have h0 := A1.cell 0
  have h1 := A1.cell 1
  have h2 := A1.cell 2
  simp only [diskCells, List.getElem?_cons_succ, List.getElem?_cons_zero] at h0 h1 h2
  rw [hdn] at h2
  have hmax : σ.pend.length ≤ 9223372036854775807 := by simp only [maxLen] at hc2; omega
  have hmaxk : keep.length ≤ 9223372036854775807 := by simp only [maxLen] at hv2; omega
  have HM : Mid d kb (.slice ao σ.pend.length cap) σ (keepAll σ.kept (marked keep 0 (σ.pend.take 0))) w w := ⟨A1, A2, A3, Pres.refl _ _⟩
  have HH := And.intro ok (And.intro n1 (And.intro n2 (And.intro n3 (And.intro hv (And.intro hap A1.lt)))))
  clear A1 A2 A3 ok n1 n2 n3 hc1 hc2 hv hap hv1 hv2 hdn
  go_enter Tryz.func34, Tryz.ntmps34
  go_wp2_with (go_at_call 64; refine (hn _ rfl).mono ?_; rintro e w' ⟨rfl, rfl⟩)
  go_loopw [21] (fun v wr => ∃ k : Nat, k ≤ σ.pend.length ∧ v = .int .i64 (k : Int) ∧ Mid d kb (.slice ao σ.pend.length cap) σ (keepAll σ.kept (marked keep 0 (σ.pend.take k))) w wr) (fun v _ => σ.pend.length - (intOf v).toNat)
  case atStart => exact ⟨0, Nat.zero_le _, rfl, HM⟩
  case round =>
    obtain ⟨k, hk, rfl, hM⟩ := hrel
    clear h0 h1 h2 HM hn
    by_cases hlt : k < σ.pend.length
    · obtain ⟨g, cap', cur, e1, hg, -, -, hcl, htake⟩ := hM.2.2.1.get (by omega)
      simp only [Value.slice.injEq] at e1
      obtain ⟨rfl, -, rfl⟩ := e1
      obtain ⟨q, hq⟩ : ∃ q, σ.pend[k]? = some q := ⟨σ.pend[k], List.getElem?_eq_getElem hlt⟩
      have hpiece := hid (pend_piece HH.1 hq)
      rw [← take_drop_take htake (by omega)] at hpiece
      have hq2 := HH.1.pend q (List.mem_of_getElem? hq)
      have hfit : k * 65 + 65 ≤ cur.length := by
        have : (cur.take (σ.pend.length * 65)).length = σ.pend.length * 65 := by rw [htake]; exact hM.2.2.1.1
        rw [List.length_take] at this
        omega
      have g0 := hM.1.cell 0
      simp only [diskCells, List.getElem?_cons_zero] at g0
      have hqi : (q.1 : Int) ≤ 9223372036854775807 := by have := hq2.1; have := HH.1.most; omega
      have hql : (q.1 : Int) < (σ.kept.length : Int) := by have := hq2.1; omega
      have hwl : (writeCells q).length = 65 := by rw [length_writeCells, hq2.2]
      have HT := hid (marked_take (keep := keep) hq)
      have hkl : (k : Int) < (σ.pend.length : Int) := by omega
      clear hq htake hcl
      go_upto_region 8 with (first | ((with_reducible refine at_load ?_); refine wpL_load rfl 113 (.tmp 24) rfl g (k * 65) 65 rfl cur 113 hg agg_write size_write hfit ?_) | ((with_reducible refine at_alloc ?_); refine wpL_alloc rfl 113 rfl (Value.int .i64 0 :: List.replicate 64 (byteV 0)) zero_write ?_; intro w2 A3 P3 S3) | ((with_reducible refine at_store ?_); refine wpL_store rfl 113 (.tmp 6) (.tmp 25) rfl wr.heap.size 0 65 rfl _ rfl _ 113 A3 size_write (by rw [hpiece.out, length_writeCells, hq2.2]) (by simp) (by rw [hpiece.out]; exact writes_one q) ?_; intro w3 A4 P4 S4; rw [hpiece.out, splice_full _ _ (by rw [length_writeCells, hq2.2]; simp)] at A4))
      have PM : Pres [] wr w3 := P3.trans P4 (by simp)
      have hM3 := hM.next PM
      have g3 := PM.cell g0 (by simp)
      have V3 : Reads w3 (.slice av keep.length capv) (keep.map Value.bool) := HH.2.2.2.2.1.pres hM3.2.2.2 (fun hne x hx hm => HH.2.2.2.2.2.1 (fun e => hne (by rw [e]; rfl)) x hx (by simp at hm; simp [hm]))
      clear hM hg P3 P4 A3 S3 S4 PM hpiece g0 hfit
      by_cases hkk : keep.getD k false = true
      · have hkl2 : k < keep.length := by
          rcases Nat.lt_or_ge k keep.length with h1 | h1
          · exact h1
          · rw [List.getD_eq_getElem?_getD, List.getElem?_eq_none h1] at hkk; cases hkk
        have hkl3 : (k : Int) < (keep.length : Int) := by omega
        have hke : keep[k] = true := by rw [List.getD_eq_getElem?_getD, List.getElem?_eq_getElem hkl2] at hkk; exact hkk
        obtain ⟨av', capv', ev, -, -, hv3⟩ := V3
        obtain ⟨b, off, ea, hcb⟩ := hv3 k (.bool true) (by rw [List.getElem?_map, List.getElem?_eq_getElem hkl2, hke]; rfl)
        simp only [List.length_map, Value.slice.injEq] at ev
        obtain ⟨rfl, -, rfl⟩ := ev
        subst ea
        rw [hkk, if_pos rfl] at HT
        clear hv3 hkk hke
        go_upto_region 9 with (fail)
        refine wp_region_ord (by kernel_rfl) (fun W => W.cell? ⟨d, 0, none⟩ = some (.slice (some ⟨kb, 0, none⟩) σ.kept.length σ.kept.length) ∧ At W wr.heap.size (writeCells q) 113) 8
          [(0, true), (1, true), (2, true), (3, true), (4, true), (5, true), (6, true), (7, true)] (by kernel_rfl) ?hq ⟨g3, A4.drew⟩ ?_
        case hq => intro c a dd v w h; cases dd <;> exact h
        iterate 7 (refine wpOrd_read (v := _) rfl rfl (by intro w' hS; have hs1 := hS.1; have hs2 := hS.2.cell 0; simp only [writeCells, List.getElem?_cons_zero] at hs2; clear hS; go_simp; rfl) ?_; (try simp only [Act.put, List.setIfInBounds_toArray, List.set_cons_succ, List.set_cons_zero, List.getElem_toArray, List.getElem_cons_succ, List.getElem_cons_zero]))
        refine wpOrd_read (v := _) rfl rfl (by intro w' hS; exact run_load_agg (n := 64) rfl rfl hS.2 agg_block size_block (by omega)) ?_
        rw [write_text hq2.2]
        (try simp only [Act.put, List.setIfInBounds_toArray, List.set_cons_succ, List.set_cons_zero, List.getElem_toArray, List.getElem_cons_succ, List.getElem_cons_zero])
        refine wpOrd_end ?_
        simp only [List.drop_succ_cons, List.drop_zero]
        have hM4 : Mid d kb (.slice (some ⟨g, 0, none⟩) σ.pend.length cap) σ (keepAll σ.kept (marked keep 0 (σ.pend.take k))) w w3.drew := hM3.next (Pres.refl _ _).drew
        generalize w3.drew = w4 at *
        clear hM3 g3 A4
        go_wp2_with ((with_reducible refine at_store ?_); refine wpL_store rfl 111 (.tmp 44) (.tmp 43) rfl kb (q.1 * 64) 64 rfl (q.2.map byteV) rfl _ 111 hM4.2.1 size_block (by simp [hq2.2]) (by rw [keptCells_length' HH.1 (fun p hp => List.mem_of_mem_take (marked_sub _ _ _ _ hp))]; omega) bytes_one ?_; intro w5 A6 P6 S6; have hM5 := hM4.set HH.2.1 HH.2.2.2.1 (keepAll_full _ _ HH.1.full (fun p hp => (HH.1.pend p (List.mem_of_mem_take (marked_sub _ _ _ _ hp))).2)) (by rw [keepAll_length]; exact hq2.1) hq2.2 A6 P6)
        rw [← keepAll_snoc, ← HT.out] at hM5
        go_roundw
        case rel => exact ⟨k + 1, by omega, by go_num, hM5⟩
        case measure => simp [intOf]; omega
      · have hkf : keep.getD k false = false := by simpa using hkk
        rw [hkf, if_neg (by simp), List.append_nil] at HT
        rw [← HT.out] at hM3
        by_cases hkl2 : k < keep.length
        · have hkl3 : (k : Int) < (keep.length : Int) := by omega
          have hke : keep[k] = false := by rw [List.getD_eq_getElem?_getD, List.getElem?_eq_getElem hkl2] at hkf; exact hkf
          obtain ⟨av', capv', ev, -, -, hv3⟩ := V3
          obtain ⟨b, off, ea, hcb⟩ := hv3 k (.bool false) (by rw [List.getElem?_map, List.getElem?_eq_getElem hkl2, hke]; rfl)
          simp only [List.length_map, Value.slice.injEq] at ev
          obtain ⟨rfl, -, rfl⟩ := ev
          subst ea
          clear hv3 hkk hke hkf
          go_wp2
          go_roundw
          case rel => exact ⟨k + 1, by omega, by go_num, hM3⟩
          case measure => simp [intOf]; omega
        · have hkl3 : ¬ (k : Int) < (keep.length : Int) := by omega
          clear hkk hkf V3
          go_wp2
          go_roundw
          case rel => exact ⟨k + 1, by omega, by go_num, hM3⟩
          case measure => simp [intOf]; omega
    · have hend : ¬ (k : Int) < (σ.pend.length : Int) := by omega
      have ek : k = σ.pend.length := by omega
      subst ek
      rw [List.take_length] at hM
      have f1 := hM.1.frozen 1
      have c1 := hM.1.cell 1
      have f2 := hM.1.frozen 2
      have c2 := hM.1.cell 2
      have f3 := hM.1.frozen 3
      have c3 := hM.1.cell 3
      have f4 := hM.1.frozen 4
      have c4 := hM.1.cell 4
      simp only [diskCells, List.getElem?_cons_succ, List.getElem?_cons_zero] at c1 c2 c3 c4
      go_wp2
      go_ret
      refine ⟨rfl, ?_⟩
      obtain ⟨ok, n1, n2, n3, -, -, -⟩ := HH
      have okn : ({ σ with kept := keepAll σ.kept (marked keep 0 σ.pend), pend := [], down := false, armed := false, left := 0 } : Dk).Ok := by
        have := Dk.on_ok (σ := { σ with down := true }) ⟨ok.pos, ok.most, ok.full, ok.pend, ok.left0, ok.left1⟩ keep
        simpa [Dk.on] using this
      have PS : Pres [d] wr ((((wr.setCell ⟨d, 1, none⟩ (.slice none 0 0)).setCell ⟨d, 2, none⟩ (.bool false)).setCell ⟨d, 3, none⟩ (.bool false)).setCell ⟨d, 4, none⟩ (.int .i64 0)) :=
        (((((Pres.refl _ _).setCell (by simp) _).setCell (by simp) _).setCell (by simp) _).setCell (by simp) _)
      have PT := (hM.2.2.2.wider (fq := d :: kb :: fpv (.slice ao σ.pend.length cap)) (by simp)).trans PS (by simp)
      refine ⟨[d, kb], ⟨kb, .slice none 0 0, rfl, n1, by simp [fpv], by simp [fpv], ?_, ?_, Sl.nil _ _ _, okn⟩, PT, ?_⟩
      · have := (((hM.1.setCell 1 (.slice none 0 0)).setCell 2 (.bool false)).setCell 3 (.bool false)).setCell 4 (.int .i64 0)
        simpa [diskCells, keepAll_length] using this
      · exact hM.2.1.pres PS (by simpa using Ne.symm n1)
      · intro x hx
        left
        simp at hx ⊢
        rcases hx with rfl | rfl <;> simp

/-- On, whatever the state. -/
theorem disk_on {w : World} {d : Nat} {fp : List Nat} {σ : Dk} (h : DiskAt w d fp σ) {v : Value} {keep : List Bool} (hv : Reads w v (keep.map Value.bool)) (hap : keep ≠ [] → ∀ k ∈ fpv v, k ∉ fp) :
    Calls Tryz.prog 34 #[.pointer (some ⟨d, 0, none⟩), v] w fun e w' => e = .returned (.int .i64 (σ.on keep).1) ∧ DiskStep w d fp (σ.on keep).2 w' := by
  cases hdn : σ.down
  · have e : σ.on keep = (9, σ) := by simp [Dk.on, hdn]
    rw [e]
    exact (on_bad h hdn v).mono fun e w' ⟨h1, h2⟩ => ⟨h1, h2 ▸ DiskStep.refl h⟩
  · have e : σ.on keep = (0, { σ with kept := keepAll σ.kept (marked keep 0 σ.pend), pend := [], down := false, armed := false, left := 0 }) := by simp [Dk.on, hdn]
    rw [e]
    exact on_good h hdn hv hap

end Go.Proofs.YtnffnpndnaofhaaGreatDoor

/- The disk's contracts on a state of pieces; all conditions stand in the theorems. -/
namespace Go.Proofs.YtnffnpndnaofhaaGreatDoor
open Go.RowKit

def diskP (d : Nat) (σ : Dk) : HP := ⟨fun w fp => DiskAt w d fp σ, DiskAt.lt, DiskAt.keep⟩

section
variable {w0 w : World} {ps : List HP} {d : Nat} {σ : Dk}

theorem sd_ok (H : St w0 w (diskP d σ :: ps)) : σ.Ok := by
  obtain ⟨f, h, -⟩ := H.get 0 rfl
  exact DiskAt.ok h

theorem sd_new (H : St w0 w ps) (n : Int) (h1 : 1 ≤ n) (h2 : n ≤ 65536) :
    Calls Tryz.prog 9 #[.int .i64 n] w fun e w' => ∃ d, e = .returned (.tuple #[.pointer (some ⟨d, 0, none⟩), .int .i64 0]) ∧ St w0 w' (diskP d (Dk.new n.toNat) :: ps) := by
  refine (new_ok' n w h1 h2).mono ?_
  rintro e w' ⟨d, fp, rfl, h3, h4, h5⟩
  exact ⟨d, rfl, H.fresh _ h4 ⟨fp, h3, h5⟩⟩

theorem sd_size (H : St w0 w (diskP d σ :: ps)) :
    Calls Tryz.prog 62 #[.pointer (some ⟨d, 0, none⟩)] w fun e w' => e = .returned (.int .i64 (σ.kept.length : Int)) ∧ w = w' := by
  obtain ⟨f, h, -⟩ := H.get 0 rfl
  exact disk_size h

theorem sd_down (H : St w0 w (diskP d σ :: ps)) :
    Calls Tryz.prog 33 #[.pointer (some ⟨d, 0, none⟩)] w fun e w' => e = .returned (.bool σ.down) ∧ w = w' := by
  obtain ⟨f, h, -⟩ := H.get 0 rfl
  exact disk_down h

theorem sd_read (H : St w0 w (diskP d σ :: ps)) (i : Int) :
    Calls Tryz.prog 75 #[.pointer (some ⟨d, 0, none⟩), .int .i64 i] w fun e w' => e = .returned (.tuple #[.string ⟨(σ.read i).1.toArray⟩, .int .i64 (σ.read i).2]) ∧ St w0 w' (diskP d σ :: ps) ∧ Pres [] w w' := by
  obtain ⟨f, h, -⟩ := H.get 0 rfl
  exact (disk_read h i).mono fun e w' h => ⟨h.1, H.quiet h.2, h.2⟩

theorem sd_write (H : St w0 w (diskP d σ :: ps)) (i : Int) (s : ByteArray) (hroom : σ.pend.length ≤ 1000000000) :
    Calls Tryz.prog 111 #[.pointer (some ⟨d, 0, none⟩), .int .i64 i, .string s] w fun e w' => e = .returned (.int .i64 (σ.write i s.data.toList).1) ∧ St w0 w' (diskP d (σ.write i s.data.toList).2 :: ps) :=
  H.run fun _ h => disk_write h i s hroom

theorem sd_flush (H : St w0 w (diskP d σ :: ps)) :
    Calls Tryz.prog 83 #[.pointer (some ⟨d, 0, none⟩)] w fun e w' => e = .returned (.int .i64 σ.flush.1) ∧ St w0 w' (diskP d σ.flush.2 :: ps) :=
  H.run fun _ h => disk_flush h

theorem sd_arm (H : St w0 w (diskP d σ :: ps)) (n : Int) (hb : n ≤ 9223372036854775807) :
    Calls Tryz.prog 32 #[.pointer (some ⟨d, 0, none⟩), .int .i64 n] w fun e w' => e = .returned (.int .i64 (σ.arm n).1) ∧ St w0 w' (diskP d (σ.arm n).2 :: ps) :=
  H.run fun _ h => disk_arm h n hb

theorem sd_off (H : St w0 w (diskP d σ :: ps)) :
    Calls Tryz.prog 10 #[.pointer (some ⟨d, 0, none⟩)] w fun e w' => e = .returned (.int .i64 σ.off.1) ∧ St w0 w' (diskP d σ.off.2 :: ps) :=
  H.run fun _ h => disk_off h

theorem sd_on (H : St w0 w (diskP d σ :: ps)) {v : Value} {keep : List Bool} (hs : Safe w0 ps v (keep.map Value.bool)) :
    Calls Tryz.prog 34 #[.pointer (some ⟨d, 0, none⟩), v] w fun e w' => e = .returned (.int .i64 (σ.on keep).1) ∧ St w0 w' (diskP d (σ.on keep).2 :: ps) :=
  H.runS hs fun _ h hd => disk_on h (hs.reads H.drop) (fun hk => hd (by simpa using hk))
end

end Go.Proofs.YtnffnpndnaofhaaGreatDoor

/- A region that draws its order, walked in stages: each stage is a set of operations that all the rest waits for (directly or through others), walked in one order under a condition of its own. No condition but what 'stageB' asks, which the kernel reckons. -/
namespace Go.Proofs.YtnffnpndnaofhaaGreatDoor
section
variable {P : Program} {ops : Array Oper} {Q : Exit → Act → World → Prop} {md : Region.Mode} {S : World → Prop} {X : List Nat}

inductive Forced (md : Region.Mode) (ops : Array Oper) : Nat → Nat → Prop
  | one {j : Nat} {o : Oper} {e : Edge} : ops[j]? = some o → e ∈ o.after → Region.binds md e = true → Forced md ops j e.on
  | step {j i : Nat} {o : Oper} {e : Edge} : ops[j]? = some o → e ∈ o.after → Region.binds md e = true → Forced md ops e.on i → Forced md ops j i

/-- What is listed is listed with all that it waits for. -/
def Shut (md : Region.Mode) (ops : Array Oper) (listed : Array Bool) : Prop :=
  ∀ j o, ops[j]? = some o → listed.getD j false = true → ∀ e ∈ o.after, Region.binds md e = true → listed.getD e.on false = true

theorem Shut.forced {listed : Array Bool} (h : Shut md ops listed) {j i : Nat} (hf : Forced md ops j i) : listed.getD j false = true → listed.getD i false = true := by
  induction hf with
  | one ho he hb => exact fun hj => h _ _ ho hj _ he hb
  | step ho he hb _ ih => exact fun hj => ih (h _ _ ho hj _ he hb)

theorem Shut.ready {listed : Array Bool} (h : Shut md ops listed) {j i : Nat} (hj : j ∈ Region.ready md ops listed) (hf : Forced md ops j i) : listed.getD i false = true := by
  obtain ⟨_, oj, hoj, hall⟩ := mem_ready.1 hj
  cases hf with
  | one ho he hb =>
    have : _ = oj := Option.some.inj (ho.symm.trans hoj)
    subst this
    exact hall _ he hb
  | step ho he hb hf =>
    have : _ = oj := Option.some.inj (ho.symm.trans hoj)
    subst this
    exact h.forced hf (hall _ he hb)

theorem Shut.set {listed : Array Bool} (h : Shut md ops listed) {i : Nat} (hi : i ∈ Region.ready md ops listed) : Shut md ops (listed.setIfInBounds i true) := by
  intro j o ho hj e he hb
  by_cases hij : i = j
  · subst hij
    obtain ⟨_, oj, hoj, hall⟩ := mem_ready.1 hi
    have : o = oj := Option.some.inj (ho.symm.trans hoj)
    subst this
    exact getD_set_true (hall e he hb)
  · rw [getD_set_ne false hij] at hj
    exact getD_set_true (h j o ho hj e he hb)

def maskOf (md : Region.Mode) (acc : List Nat) (o : Oper) : Nat := o.after.toList.foldl (fun s e => if Region.binds md e then s ||| 2 ^ e.on ||| acc.getD e.on 0 else s) 0
def masks (md : Region.Mode) (ops : Array Oper) : List Nat := ops.toList.foldl (fun acc o => acc ++ [maskOf md acc o]) []

theorem maskOf_spec {acc : List Nat} {o : Oper} {i : Nat} (h : (maskOf md acc o).testBit i = true) : ∃ e ∈ o.after, Region.binds md e = true ∧ (e.on = i ∨ (acc.getD e.on 0).testBit i = true) := by
  have key : ∀ (l : List Edge) (s : Nat), (l.foldl (fun s e => if Region.binds md e then s ||| 2 ^ e.on ||| acc.getD e.on 0 else s) s).testBit i = true →
      s.testBit i = true ∨ ∃ e ∈ l, Region.binds md e = true ∧ (e.on = i ∨ (acc.getD e.on 0).testBit i = true) := by
    intro l
    induction l with
    | nil => intro s h; exact .inl h
    | cons e l ih =>
      intro s h
      simp only [List.foldl_cons] at h
      rcases ih _ h with h1 | ⟨e', he', h1⟩
      · split at h1
        · rename_i hb
          simp only [Nat.testBit_or, Bool.or_eq_true, Nat.testBit_two_pow, decide_eq_true_eq] at h1
          rcases h1 with (h1 | h1) | h1
          · exact .inl h1
          · exact .inr ⟨e, by simp, hb, .inl h1⟩
          · exact .inr ⟨e, by simp, hb, .inr h1⟩
        · exact .inl h1
      · exact .inr ⟨e', by simp [he'], h1⟩
  rcases key _ _ h with h1 | ⟨e, he, h1⟩
  · simp at h1
  · exact ⟨e, by simpa using he, h1⟩

theorem masks_spec {j i : Nat} (h : ((masks md ops).getD j 0).testBit i = true) : Forced md ops j i := by
  have key : ∀ (rest pre : List Oper) (acc : List Nat), ops.toList = pre ++ rest → acc.length = pre.length → (∀ j i, (acc.getD j 0).testBit i = true → Forced md ops j i) →
      ∀ j i, ((rest.foldl (fun acc o => acc ++ [maskOf md acc o]) acc).getD j 0).testBit i = true → Forced md ops j i := by
    intro rest
    induction rest with
    | nil => intro pre acc _ _ h j i hj; exact h j i hj
    | cons o rest ih =>
      intro pre acc he hl h j i hj
      simp only [List.foldl_cons] at hj
      refine ih (pre ++ [o]) (acc ++ [maskOf md acc o]) (by simp [he]) (by simp [hl]) (fun j i hb => ?_) j i hj
      rcases Nat.lt_or_ge j acc.length with h1 | h1
      · refine h j i ?_
        rw [List.getD_eq_getElem?_getD, List.getElem?_append_left h1] at hb
        rwa [List.getD_eq_getElem?_getD]
      · rw [List.getD_eq_getElem?_getD, List.getElem?_append_right h1] at hb
        by_cases h2 : j - acc.length = 0
        · have hj' : j = acc.length := by omega
          rw [h2] at hb
          simp only [List.getElem?_cons_zero, Option.getD_some] at hb
          obtain ⟨e, he', hbd, hor⟩ := maskOf_spec hb
          have ho : ops[j]? = some o := by
            rw [← Array.getElem?_toList, he, hj', hl, List.getElem?_append_right (Nat.le_refl _)]
            simp
          rcases hor with rfl | h3
          · exact .one ho he' hbd
          · exact .step ho he' hbd (h _ _ h3)
        · rw [List.getElem?_cons] at hb
          simp [h2] at hb
  exact key ops.toList [] [] rfl rfl (by simp) j i h

/-- Behind each operation of X the condition S holds. -/
def wpAnyX (P : Program) (md : Region.Mode) (ops : Array Oper) (Q : Exit → Act → World → Prop) (S : World → Prop) (X : List Nat) : Nat → Array Bool → Act → World → Prop
  | 0, listed, a, w => Region.ready md ops listed = [] ∧ Q .normal a w
  | fuel + 1, listed, a, w =>
    (Region.ready md ops listed = [] → Q .normal a w) ∧
    ∀ i ∈ Region.ready md ops listed, wpOp P ops Q i (fun a' w' => (i ∈ X → S w') ∧ wpAnyX P md ops Q S X fuel (listed.setIfInBounds i true) a' w') a w

theorem wpAny_of_X : ∀ (fuel : Nat) (listed : Array Bool) (a : Act) (w : World), wpAnyX P md ops Q S X fuel listed a w → wpAny P md ops Q fuel listed a w
  | 0, _, _, _, h => h
  | fuel + 1, _, _, _, h => ⟨h.1, fun i hi => wpOp_mono (fun a' w' h' => wpAny_of_X fuel _ a' w' h'.2) (h.2 i hi)⟩

theorem X_of_wpAny : ∀ (fuel : Nat) (listed : Array Bool) (a : Act) (w : World), (∀ i ∈ X, listed.getD i true = true) → wpAny P md ops Q fuel listed a w → wpAnyX P md ops Q S X fuel listed a w
  | 0, _, _, _, _, h => h
  | fuel + 1, listed, _, _, hX, h => by
    refine ⟨h.1, fun i hi => wpOp_mono (fun a' w' h' => ?_) (h.2 i hi)⟩
    have hno : i ∉ X := fun hx => by
      have h1 := (mem_ready.1 hi).1
      rw [hX i hx] at h1
      cases h1
    refine ⟨fun hx => absurd hx hno, X_of_wpAny fuel _ a' w' (fun k hk => ?_) h'⟩
    have hik : i ≠ k := fun e => hno (e ▸ hk)
    rw [getD_set_ne true hik]
    exact hX k hk

theorem wpAnyX_first {i : Nat} {oi : Oper} {v : Value} (hi : ops[i]? = some oi) (hsel : ∀ (j : Nat) (o : Oper) cs b, ops[j]? = some o → o.op ≠ .select cs b)
    (hQ : ∀ c a w, Q (.panic c) (a.put oi.dst v) w → Q (.panic c) a w) :
    ∀ (fuel : Nat) (listed : Array Bool) (a : Act) (w : World), (∀ t o, ops[t]? = some o → t ∉ X → listed.getD t true = false → Forced md ops t i) → Shut md ops listed →
      (∀ j oj, ops[j]? = some oj → j ≠ i → listed.getD j true = false → (∀ e ∈ oj.after, Region.binds md e = true → e.on ≠ i) → oi.apart ops oj = true) →
      i ∈ Region.ready md ops listed → YieldsIf P ops S oi v a → S w →
      wpAnyX P md ops Q S X fuel (listed.setIfInBounds i true) (a.put oi.dst v) w → wpAnyX P md ops Q S X (fuel + 1) listed a w := by
  intro fuel
  induction fuel with
  | zero =>
    intro listed a w _ _ _ hr hy hS H
    refine ⟨fun h => (by rw [h] at hr; cases hr), fun j hj => ?_⟩
    by_cases hji : j = i
    · subst hji; exact hy.wpOp hi hS ⟨fun _ => hS, H⟩
    · have := ready_mono hj hji
      rw [H.1] at this
      cases this
  | succ fuel ih =>
    intro listed a w htail hshut hfree hr hy hS H
    refine ⟨fun h => (by rw [h] at hr; cases hr), fun j hj => ?_⟩
    by_cases hji : j = i
    · subst hji; exact hy.wpOp hi hS ⟨fun _ => hS, H⟩
    · have h1 := H.2 j (ready_mono hj hji)
      obtain ⟨hjun, oj, hoj, hall⟩ := mem_ready.1 hj
      have h0 := (mem_ready.1 hr).1
      have hjn : j ∈ X := by
        by_cases h : j ∈ X
        · exact h
        · have h2 := hshut.ready hj (htail j oj hoj h hjun)
          rw [getD_both' h0] at h2
          cases h2
      have hnot : ∀ e ∈ oj.after, Region.binds md e = true → e.on ≠ i := fun e he hb heq => by
        have h1 := hall e he hb
        rw [heq, getD_both' h0] at h1
        cases h1
      have h2 := wpOp_putIf hoj (hfree j oj hoj hji hjun hnot) (fun cs b => hsel i oi cs b hi) (fun cs b => hsel j oj cs b hoj) hQ hy h1
      have hfree' : ∀ k ok, ops[k]? = some ok → k ≠ i → (listed.setIfInBounds j true).getD k true = false →
          (∀ e ∈ ok.after, Region.binds md e = true → e.on ≠ i) → oi.apart ops ok = true := fun k ok hk hki hun hno => by
        refine hfree k ok hk hki ?_ hno
        by_cases hjk : j = k
        · subst hjk; exact hjun
        · rw [getD_set_ne true hjk] at hun; exact hun
      have htail' : ∀ t o, ops[t]? = some o → t ∉ X → (listed.setIfInBounds j true).getD t true = false → Forced md ops t i := fun t o ho hx hun => by
        refine htail t o ho hx ?_
        by_cases hjt : j = t
        · subst hjt; exact hjun
        · rw [getD_set_ne true hjt] at hun; exact hun
      refine wpOp_mono (fun a' w' h3 => ⟨fun hj => h3.2.1 hj, ih (listed.setIfInBounds j true) a' w' htail' (hshut.set hj) hfree' (ready_mono hr (Ne.symm hji)) h3.1 (h3.2.1 hjn) ?_⟩) h2
      rw [Array.setIfInBounds_comm _ _ hji]
      exact h3.2.2

/-- What is listed behind a stage. -/
def listedBy (ord : List (Nat × Bool)) (listed : Array Bool) : Array Bool := ord.foldl (fun l p => l.setIfInBounds p.1 true) listed

def tailB (md : Region.Mode) (ops : Array Oper) (ms : List Nat) (X : List Nat) (listed : Array Bool) (i : Nat) : Bool :=
  (List.range ops.size).all fun t => X.contains t || listed.getD t true || (ms.getD t 0).testBit i

def ordX (md : Region.Mode) (ops : Array Oper) (ms : List Nat) (X : List Nat) : List (Nat × Bool) → Array Bool → Bool
  | [], listed => X.all fun i => listed.getD i true
  | (i, true) :: r, listed => (Region.ready md ops listed).contains i && Region.free md ops listed i && tailB md ops ms X listed i && ordX md ops ms X r (listed.setIfInBounds i true)
  | (i, false) :: r, listed => decide (Region.ready md ops listed = [i]) && ordX md ops ms X r (listed.setIfInBounds i true)

def shutB (md : Region.Mode) (ops : Array Oper) (listed : Array Bool) : Bool :=
  (List.range ops.size).all fun j => !listed.getD j false || match ops[j]? with | some o => o.after.all (fun e => !Region.binds md e || listed.getD e.on false) | none => true

def stageB (md : Region.Mode) (ops : Array Oper) (ord : List (Nat × Bool)) (listed : Array Bool) : Bool :=
  Region.noSelect ops && shutB md ops listed && ordX md ops (masks md ops) (ord.map (·.1)) ord listed

theorem shutB_spec {listed : Array Bool} (h : shutB md ops listed = true) : Shut md ops listed := by
  intro j o ho hj e he hb
  simp only [shutB, List.all_eq_true, List.mem_range] at h
  have h1 := h j (Array.getElem?_eq_some_iff.1 ho).1
  simp only [ho, hj, Bool.not_true, Bool.false_or, Array.all_eq_true_iff_forall_mem, Bool.or_eq_true, Bool.not_eq_true'] at h1
  rcases h1 e he with h2 | h2
  · rw [hb] at h2; cases h2
  · exact h2

theorem wpAnyX_of_ord (hsel : ∀ (j : Nat) (o : Oper) cs b, ops[j]? = some o → o.op ≠ .select cs b) (hQ : ∀ c a d v w, Q (.panic c) (a.put d v) w → Q (.panic c) a w) (fuel : Nat) :
    ∀ (ord : List (Nat × Bool)) (listed : Array Bool) (a : Act) (w : World), ordX md ops (masks md ops) X ord listed = true → (∀ i, (i, false) ∈ ord → i ∈ X) → Shut md ops listed → S w →
      wpOrd P ops Q S (fun a w => wpAny P md ops Q fuel (listedBy ord listed) a w) ord a w → wpAnyX P md ops Q S X (ord.length + fuel) listed a w
  | [], listed, a, w, hB, _, _, _, h => by
    rw [List.length_nil, Nat.zero_add]
    exact X_of_wpAny fuel listed a w (by simpa [ordX] using hB) h
  | (i, true) :: r, listed, a, w, hB, hX, hsh, hS, h => by
    simp only [ordX, Bool.and_eq_true] at hB
    obtain ⟨⟨⟨hr, hf⟩, ht⟩, hB⟩ := hB
    have hr' : i ∈ Region.ready md ops listed := by simpa using hr
    obtain ⟨o, v, ho, hy, h⟩ := h
    have ih := wpAnyX_of_ord hsel hQ fuel r _ _ _ hB (fun k hk => hX k (by simp [hk])) (hsh.set hr') hS h
    rw [List.length_cons, show r.length + 1 + fuel = (r.length + fuel) + 1 by omega]
    refine wpAnyX_first ho hsel (fun c a w => hQ c a _ _ w) _ _ _ _ (fun t o' ho' hx hun => ?_) hsh (Region.free_spec ho hf) hr' hy hS ih
    simp only [tailB, List.all_eq_true, List.mem_range, Bool.or_eq_true] at ht
    rcases ht t (Array.getElem?_eq_some_iff.1 ho').1 with (h1 | h1) | h1
    · exact absurd (by simpa using h1) hx
    · rw [hun] at h1; cases h1
    · exact masks_spec h1
  | (i, false) :: r, listed, a, w, hB, hX, hsh, hS, h => by
    simp only [ordX, Bool.and_eq_true, decide_eq_true_eq] at hB
    obtain ⟨hr, hB⟩ := hB
    rw [List.length_cons, show r.length + 1 + fuel = (r.length + fuel) + 1 by omega]
    refine ⟨fun h0 => (by rw [hr] at h0; cases h0), fun j hj => ?_⟩
    have hj0 := hj
    rw [hr] at hj
    have hji : j = i := by simpa using hj
    subst hji
    exact wpOp_mono (fun a' w' h' => ⟨fun _ => h'.1, wpAnyX_of_ord hsel hQ fuel r _ a' w' hB (fun k hk => hX k (by simp [hk])) (hsh.set hj0) h'.1 h'.2⟩) h

/-- One stage of a region that draws its order. -/
theorem wp_stage (S : World → Prop) (ord : List (Nat × Bool)) (fuel : Nat) {listed : Array Bool} {a : Act} {w : World} {full : Nat} (hfull : full = ord.length + fuel) (hB : stageB md ops ord listed = true)
    (hQ : ∀ c a d v w, Q (.panic c) (a.put d v) w → Q (.panic c) a w) (hS : S w)
    (h : wpOrd P ops Q S (fun a w => wpAny P md ops Q fuel (listedBy ord listed) a w) ord a w) : wpAny P md ops Q full listed a w := by
  subst hfull
  simp only [stageB, Bool.and_eq_true] at hB
  obtain ⟨⟨h1, h2⟩, h3⟩ := hB
  exact wpAny_of_X (S := S) (X := ord.map (·.1)) _ _ _ _ (wpAnyX_of_ord (Region.noSelect_spec h1) hQ fuel ord listed a w h3 (fun i hi => List.mem_map.2 ⟨_, hi, rfl⟩) (shutB_spec h2) hS h)

def pureB (md : Region.Mode) (ops : Array Oper) : List (Nat × Bool) → Array Bool → Bool
  | [], _ => true
  | (i, b) :: r, listed => b && (Region.ready md ops listed).contains i && Region.free md ops listed i && pureB md ops r (listed.setIfInBounds i true)

theorem yields_pure {o : Oper} {v : Value} {a : Act} (h : YieldsIf P ops (fun _ => True) o v a) : Yields P ops o v a := by
  rcases h with ⟨h1, h2⟩ | h
  · exact .inl ⟨h1, fun w => h2 w trivial⟩
  · exact .inr h

theorem wpAny_of_pure (hsel : ∀ (j : Nat) (o : Oper) cs b, ops[j]? = some o → o.op ≠ .select cs b) (hQ : ∀ c a d v w, Q (.panic c) (a.put d v) w → Q (.panic c) a w) (fuel : Nat) :
    ∀ (ord : List (Nat × Bool)) (listed : Array Bool) (a : Act) (w : World), pureB md ops ord listed = true →
      wpOrd P ops Q (fun _ => True) (fun a w => wpAny P md ops Q fuel (listedBy ord listed) a w) ord a w → wpAny P md ops Q (ord.length + fuel) listed a w
  | [], listed, a, w, _, h => by rw [List.length_nil, Nat.zero_add]; exact h
  | (i, true) :: r, listed, a, w, hB, h => by
    simp only [pureB, Bool.and_eq_true, Bool.true_and] at hB
    obtain ⟨⟨hr, hf⟩, hB⟩ := hB
    obtain ⟨o, v, ho, hy, h⟩ := h
    have ih := wpAny_of_pure hsel hQ fuel r _ _ _ hB h
    rw [List.length_cons, show r.length + 1 + fuel = (r.length + fuel) + 1 by omega]
    exact wpAny_first ho hsel (fun c a w => hQ c a _ _ w) _ _ _ _ (Region.free_spec ho hf) (by simpa using hr) (yields_pure hy) ih
  | (i, false) :: r, listed, a, w, hB, h => by simp [pureB] at hB

/-- A first stage of operations that touch no memory. -/
theorem wp_pures (ord : List (Nat × Bool)) (fuel : Nat) {listed : Array Bool} {a : Act} {w : World} {full : Nat} (hfull : full = ord.length + fuel) (hs : Region.noSelect ops = true) (hB : pureB md ops ord listed = true)
    (hQ : ∀ c a d v w, Q (.panic c) (a.put d v) w → Q (.panic c) a w)
    (h : wpOrd P ops Q (fun _ => True) (fun a w => wpAny P md ops Q fuel (listedBy ord listed) a w) ord a w) : wpAny P md ops Q full listed a w := by
  subst hfull
  exact wpAny_of_pure (Region.noSelect_spec hs) hQ fuel ord listed a w hB h

/-- A region that draws its order begins. -/
theorem wp_stages {id : Nat} {a : Act} {w : World} (hm : P.follows .mixedOrders = true) (h : wpAny P .any ops Q ops.size (Array.replicate ops.size false) a w.drew) : (Code.region id ops true).wp P Q a w :=
  wp_region_any hm h

/-- The last stage is behind: nothing is left, or what is left comes up in one order. -/
theorem wp_stages_end (k : Nat) {fuel : Nat} {listed : Array Bool} {a : Act} {w : World} (hl : (ops.toList.drop k).length = fuel) (hB : seqB md ops fuel k listed = true) (h : wpList P ops Q (ops.toList.drop k) a w) : wpAny P md ops Q fuel listed a w := by
  subst hl
  exact wpAny_of_T (S := fun _ => True) (n := 0) _ _ _ _ (wpAnyT_of_seq (n := 0) _ k listed a w (Nat.zero_le _) (fun j => by simp) hB h)
end
end Go.Proofs.YtnffnpndnaofhaaGreatDoor
