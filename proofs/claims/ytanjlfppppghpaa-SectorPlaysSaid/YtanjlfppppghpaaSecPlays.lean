/- SectorPlays: one call of both disks (does): they answer alike, and come to the same. -/
import Derived.Test.YtanjlfppppghpaaDiskP
import Derived.Test.YtanjlfppppghpaaRef07B
import Derived.Test.YtanjlfppppghpaaSecBegin
namespace Go.Proofs.Ytanjlfppppghpaa
open Go.RowKit

/-- What a call makes of a disk. -/
def playDk (σ : Dk) (a : ActD) : Dk :=
  if a.kind = 0 then σ else if a.kind = 1 then (σ.write a.pos (a.s.data.toList.take 100)).2 else if a.kind = 2 then σ.flush.2 else if a.kind = 3 then (σ.arm a.pos).2 else if a.kind = 4 then σ.off.2 else (σ.on a.keep).2

def PlaySt (w0 w' : World) (ps : List HP) (d r : Nat) (σ : Dk) : Prop := St w0 w' (diskP d σ :: refP r σ :: ps)

theorem wf_i64 {n : Int} (h : (Lit.int .i64 n).wf = true) : -9223372036854775808 ≤ n ∧ n ≤ 9223372036854775807 := by
  simp only [Lit.wf, decide_eq_true_eq, Bool.and_eq_true] at h
  exact ⟨h.1, h.2⟩

theorem cut100 (s : ByteArray) (M : Nat) (h : M = min 100 s.size) : (s.extract 0 M).data.toList = s.data.toList.take 100 := by
  subst h
  rw [ByteArray.data_extract, Array.toList_extract]
  simp only [List.extract_eq_take_drop, List.drop_zero, Nat.sub_zero]
  rcases Nat.le_total 100 s.size with h | h
  · rw [Nat.min_eq_left h]
  · rw [Nat.min_eq_right h]
    have : s.data.toList.length = s.size := by simp
    rw [List.take_of_length_le (by omega), List.take_of_length_le (by omega)]

set_option maxRecDepth 10000 in
set_option maxHeartbeats 1000000 in
theorem play_does {w0 w : World} {ps : List HP} {d r : Nat} {σ : Dk} (H : St w0 w (diskP d σ :: refP r σ :: ps)) (a : ActD) (ha : a.Ok w0) (hroom : σ.pend.length ≤ 1000000000) :
    Calls Try.prog 23 #[.pointer (some ⟨d, 0, none⟩), .pointer (some ⟨r, 0, none⟩), .agg #[.int .i64 a.kind, .int .i64 a.pos, .string a.s, a.kv]] w fun e w' => e = .returned (.bool true) ∧ PlaySt w0 w' ps d r (playDk σ a) := by
  have H1 : Hid (St w0 (w.alloc (.cells #[.int .i64 a.kind, .int .i64 a.pos, .string a.s, a.kv] 39)) (objP w.heap.size a.cells 39 :: diskP d σ :: refP r σ :: ps)) := hid (H.alloc a.cells 39)
  have c0 := (H1.out.obj 0 rfl).cell 0
  have c1 := (H1.out.obj 0 rfl).cell 1
  have c2 := (H1.out.obj 0 rfl).cell 2
  have c3 := (H1.out.obj 0 rfl).cell 3
  simp only [ActD.cells, List.getElem?_cons_succ, List.getElem?_cons_zero] at c0 c1 c2 c3
  obtain ⟨M, hM⟩ : ∃ M : Nat, M = min 100 a.s.size := ⟨_, rfl⟩
  have hM1 : (if (100 : Int) < (a.s.size : Int) then 100 else (a.s.size : Int)) = (M : Int) := by split <;> omega
  have hM2 : (M : Int) ≤ (a.s.size : Int) := by omega
  have hM3 : (a.s.size : Int) ≤ 9223372036854775807 := by have := ha.s; simp only [maxLen] at this; omega
  have hM4 := hid (cut100 a.s M hM)
  have hM5 : (a.s.extract 0 M).size ≤ maxLen := by have := ha.s; simp only [maxLen] at this ⊢; rw [ByteArray.size_extract]; omega
  have HP := hid (And.intro ha.pos ha.keep)
  clear H hM
  obtain ⟨x, hx⟩ : ∃ x, a.s.extract 0 M = x := ⟨_, rfl⟩
  rw [hx] at hM4 hM5
  by_cases k0 : a.kind = 0
  · have e : playDk σ a = σ := by simp [playDk, k0]
    rw [e]
    have j0 : (a.kind == 0) = true := by simpa using k0
    clear k0 e
    go_enter Try.func23, Try.ntmps23
    go_wp2_with fail
    refine (sd_read (H1.out.pull 1 rfl) _).mono ?_
    rintro e w1 ⟨rfl, H2, -⟩
    have H2 := hid H2
    have c1' := (H2.out.obj 1 rfl).cell 1
    simp only [ActD.cells, List.getElem?_cons_succ, List.getElem?_cons_zero] at c1'
    have hR := fun W (hW : W = w1) => hW ▸ ref_read (H2.out.pull 2 rfl) a.pos
    unfold strV at hR
    generalize (σ.read a.pos).1.toArray = x at *
    generalize (σ.read a.pos).2 = y at *
    clear H1 c0 c1 c2 c3
    go_wp2_with (go_at_call 26; refine (hR _ rfl).mono ?_; rintro e w2 ⟨rfl, rfl⟩)
    go_ret
    exact ⟨by simp, ((H2.out.pull 1 rfl).drop)⟩
  by_cases k1 : a.kind = 1
  · have e : playDk σ a = (σ.write a.pos (a.s.data.toList.take 100)).2 := by simp only [playDk, if_neg k0, if_pos k1]
    rw [e, ← hM4.out]
    have j0 : (a.kind == 0) = false := by simpa using k0
    have j1 : (a.kind == 1) = true := by simpa using k1
    clear k0 k1 e
    go_enter Try.func23, Try.ntmps23
    go_upto_region 8 with (fail)
    refine wp_region_ord (by kernel_rfl) (fun W => At W w.heap.size a.cells 39) 11 [(0, true), (1, true), (2, true), (3, true), (5, true), (6, true), (7, true), (8, true), (4, false), (9, false), (10, true)] (by kernel_rfl) ?hq8 (H1.out.obj 0 rfl).drew ?_
    case hq8 => intro c a dd v w h; cases dd <;> exact h
    iterate 8 (refine wpOrd_read (v := _) rfl rfl (by intro w' hS; have z1 := hS.cell 1; have z2 := hS.cell 2; have z3 := hS.cell 3; simp only [ActD.cells, List.getElem?_cons_succ, List.getElem?_cons_zero] at z1 z2 z3; clear hS; go_simp; rfl) ?_; (try simp only [Act.put, List.setIfInBounds_toArray, List.set_cons_succ, List.set_cons_zero, List.getElem_toArray, List.getElem_cons_succ, List.getElem_cons_zero]))
    have H2 := hid H1.out.drew
    have H3 := (H2.out.pull 1 rfl)
    generalize (w.alloc (.cells #[.int .i64 a.kind, .int .i64 a.pos, .string a.s, a.kv] 39)).drew = wd at *
    clear c0 c1 c2 c3 H1
    refine wpOrd_do rfl rfl (fun K hK => ?_)
    go_simp
    refine (sd_write H3 a.pos x hroom).mono ?_
    rintro e w1 ⟨rfl, H4⟩
    refine hK _ _ ⟨H4.obj 1 rfl, ?_⟩
    clear hK K
    (try simp only [Act.put, List.setIfInBounds_toArray, List.set_cons_succ, List.set_cons_zero, List.getElem_toArray, List.getElem_cons_succ, List.getElem_cons_zero])
    have H5 := H4.pull 2 rfl
    refine wpOrd_do rfl rfl (fun K hK => ?_)
    go_simp
    refine (ref_write H5 a.pos x hM5 hroom).mono ?_
    rintro e w2 ⟨rfl, H6⟩
    refine hK _ _ ⟨H6.obj 2 rfl, ?_⟩
    clear hK K
    (try simp only [Act.put, List.setIfInBounds_toArray, List.set_cons_succ, List.set_cons_zero, List.getElem_toArray, List.getElem_cons_succ, List.getElem_cons_zero])
    have H7 := hid (H6.pull 1 rfl)
    clear H3 H4 H5 H6 H2
    iterate 1 (refine wpOrd_read (v := _) rfl rfl (by intro w' hS; skip; clear hS; go_simp; rfl) ?_; (try simp only [Act.put, List.setIfInBounds_toArray, List.set_cons_succ, List.set_cons_zero, List.getElem_toArray, List.getElem_cons_succ, List.getElem_cons_zero]))
    refine wpOrd_end ?_
    simp only [List.drop_succ_cons, List.drop_zero]
    go_wp2
    go_ret
    exact ⟨rfl, (H7.out.pull 2 rfl).drop⟩
  by_cases k2 : a.kind = 2
  · have e : playDk σ a = σ.flush.2 := by simp only [playDk, if_neg k0, if_neg k1, if_pos k2]
    rw [e]
    have j0 : (a.kind == 0) = false := by simpa using k0
    have j1 : (a.kind == 1) = false := by simpa using k1
    have j2 : (a.kind == 2) = true := by simpa using k2
    clear k0 k1 k2 e
    go_enter Try.func23, Try.ntmps23
    go_wp2_with fail
    refine (sd_flush (H1.out.pull 1 rfl)).mono ?_
    rintro e w1 ⟨rfl, H2⟩
    have H3 := hid (H2.pull 2 rfl)
    clear H1 c0 c1 c2 c3 H2
    go_wp2_with fail
    refine (ref_flush H3.out).mono ?_
    rintro e w2 ⟨rfl, H4⟩
    have H5 := hid (H4.pull 1 rfl)
    clear H3 H4
    go_wp2
    go_ret
    exact ⟨rfl, (H5.out.pull 2 rfl).drop⟩
  by_cases k3 : a.kind = 3
  · have e : playDk σ a = (σ.arm a.pos).2 := by simp only [playDk, if_neg k0, if_neg k1, if_neg k2, if_pos k3]
    rw [e]
    have j0 : (a.kind == 0) = false := by simpa using k0
    have j1 : (a.kind == 1) = false := by simpa using k1
    have j2 : (a.kind == 2) = false := by simpa using k2
    have j3 : (a.kind == 3) = true := by simpa using k3
    have hb := (wf_i64 HP.out.1).2
    clear k0 k1 k2 k3 e
    go_enter Try.func23, Try.ntmps23
    go_upto_region 12 with (fail)
    refine wp_region_ord (by kernel_rfl) (fun W => At W w.heap.size a.cells 39) 9 [(0, true), (1, true), (2, true), (4, true), (5, true), (6, true), (3, false), (7, false), (8, true)] (by kernel_rfl) ?hq12 (H1.out.obj 0 rfl).drew ?_
    case hq12 => intro c a dd v w h; cases dd <;> exact h
    iterate 6 (refine wpOrd_read (v := _) rfl rfl (by intro w' hS; have z1 := hS.cell 1; have z2 := hS.cell 2; have z3 := hS.cell 3; simp only [ActD.cells, List.getElem?_cons_succ, List.getElem?_cons_zero] at z1 z2 z3; clear hS; go_simp; rfl) ?_; (try simp only [Act.put, List.setIfInBounds_toArray, List.set_cons_succ, List.set_cons_zero, List.getElem_toArray, List.getElem_cons_succ, List.getElem_cons_zero]))
    have H2 := hid H1.out.drew
    have H3 := (H2.out.pull 1 rfl)
    generalize (w.alloc (.cells #[.int .i64 a.kind, .int .i64 a.pos, .string a.s, a.kv] 39)).drew = wd at *
    clear c0 c1 c2 c3 H1
    refine wpOrd_do rfl rfl (fun K hK => ?_)
    go_simp
    refine (sd_arm H3 a.pos hb).mono ?_
    rintro e w1 ⟨rfl, H4⟩
    refine hK _ _ ⟨H4.obj 1 rfl, ?_⟩
    clear hK K
    (try simp only [Act.put, List.setIfInBounds_toArray, List.set_cons_succ, List.set_cons_zero, List.getElem_toArray, List.getElem_cons_succ, List.getElem_cons_zero])
    have H5 := H4.pull 2 rfl
    refine wpOrd_do rfl rfl (fun K hK => ?_)
    go_simp
    refine (ref_arm H5 a.pos hb).mono ?_
    rintro e w2 ⟨rfl, H6⟩
    refine hK _ _ ⟨H6.obj 2 rfl, ?_⟩
    clear hK K
    (try simp only [Act.put, List.setIfInBounds_toArray, List.set_cons_succ, List.set_cons_zero, List.getElem_toArray, List.getElem_cons_succ, List.getElem_cons_zero])
    have H7 := hid (H6.pull 1 rfl)
    clear H3 H4 H5 H6 H2
    iterate 1 (refine wpOrd_read (v := _) rfl rfl (by intro w' hS; skip; clear hS; go_simp; rfl) ?_; (try simp only [Act.put, List.setIfInBounds_toArray, List.set_cons_succ, List.set_cons_zero, List.getElem_toArray, List.getElem_cons_succ, List.getElem_cons_zero]))
    refine wpOrd_end ?_
    simp only [List.drop_succ_cons, List.drop_zero]
    go_wp2
    go_ret
    exact ⟨rfl, (H7.out.pull 2 rfl).drop⟩
  by_cases k4 : a.kind = 4
  · have e : playDk σ a = σ.off.2 := by simp only [playDk, if_neg k0, if_neg k1, if_neg k2, if_neg k3, if_pos k4]
    rw [e]
    have j0 : (a.kind == 0) = false := by simpa using k0
    have j1 : (a.kind == 1) = false := by simpa using k1
    have j2 : (a.kind == 2) = false := by simpa using k2
    have j3 : (a.kind == 3) = false := by simpa using k3
    have j4 : (a.kind == 4) = true := by simpa using k4
    clear k0 k1 k2 k3 k4 e
    go_enter Try.func23, Try.ntmps23
    go_wp2_with fail
    refine (sd_off (H1.out.pull 1 rfl)).mono ?_
    rintro e w1 ⟨rfl, H2⟩
    have H3 := hid (H2.pull 2 rfl)
    clear H1 c0 c1 c2 c3 H2
    go_wp2_with fail
    refine (ref_off H3.out).mono ?_
    rintro e w2 ⟨rfl, H4⟩
    have H5 := hid (H4.pull 1 rfl)
    clear H3 H4
    go_wp2
    go_ret
    exact ⟨rfl, (H5.out.pull 2 rfl).drop⟩
  · have e : playDk σ a = (σ.on a.keep).2 := by simp only [playDk, if_neg k0, if_neg k1, if_neg k2, if_neg k3, if_neg k4]
    rw [e]
    have j0 : (a.kind == 0) = false := by simpa using k0
    have j1 : (a.kind == 1) = false := by simpa using k1
    have j2 : (a.kind == 2) = false := by simpa using k2
    have j3 : (a.kind == 3) = false := by simpa using k3
    have j4 : (a.kind == 4) = false := by simpa using k4
    have HS := hid (show Safe w0 (objP w.heap.size a.cells 39 :: refP r σ :: ps) a.kv (a.keep.map Value.bool) from .inl HP.out.2)
    have HS2 := hid (show ∀ τ, Safe w0 (diskP d τ :: objP w.heap.size a.cells 39 :: ps) a.kv (a.keep.map Value.bool) from fun _ => .inl HP.out.2)
    clear k0 k1 k2 k3 k4 e
    go_enter Try.func23, Try.ntmps23
    go_upto_region 15 with (fail)
    refine wp_region_ord (by kernel_rfl) (fun W => At W w.heap.size a.cells 39) 9 [(0, true), (1, true), (2, true), (4, true), (5, true), (6, true), (3, false), (7, false), (8, true)] (by kernel_rfl) ?hq15 (H1.out.obj 0 rfl).drew ?_
    case hq15 => intro c a dd v w h; cases dd <;> exact h
    iterate 6 (refine wpOrd_read (v := _) rfl rfl (by intro w' hS; have z1 := hS.cell 1; have z2 := hS.cell 2; have z3 := hS.cell 3; simp only [ActD.cells, List.getElem?_cons_succ, List.getElem?_cons_zero] at z1 z2 z3; clear hS; go_simp; rfl) ?_; (try simp only [Act.put, List.setIfInBounds_toArray, List.set_cons_succ, List.set_cons_zero, List.getElem_toArray, List.getElem_cons_succ, List.getElem_cons_zero]))
    have H2 := hid H1.out.drew
    have H3 := (H2.out.pull 1 rfl)
    generalize (w.alloc (.cells #[.int .i64 a.kind, .int .i64 a.pos, .string a.s, a.kv] 39)).drew = wd at *
    clear c0 c1 c2 c3 H1
    refine wpOrd_do rfl rfl (fun K hK => ?_)
    go_simp
    refine (sd_on H3 HS.out).mono ?_
    rintro e w1 ⟨rfl, H4⟩
    refine hK _ _ ⟨H4.obj 1 rfl, ?_⟩
    clear hK K
    (try simp only [Act.put, List.setIfInBounds_toArray, List.set_cons_succ, List.set_cons_zero, List.getElem_toArray, List.getElem_cons_succ, List.getElem_cons_zero])
    have H5 := H4.pull 2 rfl
    refine wpOrd_do rfl rfl (fun K hK => ?_)
    go_simp
    refine (ref_on H5 _ a.keep (HS2.out _)).mono ?_
    rintro e w2 ⟨rfl, H6⟩
    refine hK _ _ ⟨H6.obj 2 rfl, ?_⟩
    clear hK K
    (try simp only [Act.put, List.setIfInBounds_toArray, List.set_cons_succ, List.set_cons_zero, List.getElem_toArray, List.getElem_cons_succ, List.getElem_cons_zero])
    have H7 := hid (H6.pull 1 rfl)
    clear H3 H4 H5 H6 H2
    iterate 1 (refine wpOrd_read (v := _) rfl rfl (by intro w' hS; skip; clear hS; go_simp; rfl) ?_; (try simp only [Act.put, List.setIfInBounds_toArray, List.set_cons_succ, List.set_cons_zero, List.getElem_toArray, List.getElem_cons_succ, List.getElem_cons_zero]))
    refine wpOrd_end ?_
    simp only [List.drop_succ_cons, List.drop_zero]
    go_wp2
    go_ret
    exact ⟨rfl, (H7.out.pull 2 rfl).drop⟩

end Go.Proofs.Ytanjlfppppghpaa
