/- begin (aquiferlaw07): a disk of six sectors behind some calls; whatever comes in. -/
import Derived.Test.YtanjlfppppghpaaSecLaw
import Derived.Test.YtanjlfppppghpaaSecKeepsPure
namespace Go.Proofs.Ytanjlfppppghpaa
open Go.RowKit

theorem size_act : (Try.prog.info? 39).map (·.size) = some 4 := by kernel_rfl
theorem agg_act : IsAgg Try.prog 39 := ⟨_, Try.underlying39, rfl⟩
theorem zero_act : (Try.prog.info? 39).bind (·.zero) = some (.agg [.int .i64 0, .int .i64 0, .string ⟨#[]⟩, .slice none 0 0].toArray) := by kernel_rfl

theorem act_one {w : World} {a : ActD} (h : a.Ok w) : ∀ v ∈ a.cells, v.oneCell' = true := by
  obtain ⟨ao, cap, e, -⟩ := h.keep
  intro v hv
  simp only [ActD.cells, List.mem_cons, List.not_mem_nil, or_false] at hv
  rcases hv with rfl | rfl | rfl | rfl
  · rfl
  · rfl
  · rfl
  · rw [e]; rfl

theorem cutS_extract (s : ByteArray) (M : Nat) (h : M = min 64 s.size) : (s.extract 0 M).data.toList = cutS s := by
  subst h
  rw [ByteArray.data_extract, Array.toList_extract, cutS]
  simp only [List.extract_eq_take_drop, List.drop_zero, Nat.sub_zero]
  rcases Nat.le_total 64 s.size with h | h
  · rw [Nat.min_eq_left h]
  · rw [Nat.min_eq_right h]
    have : s.data.toList.length = s.size := by simp
    rw [List.take_of_length_le (by omega), List.take_of_length_le (by omega)]

/-- The call's answer is a disk of its own. -/
def IsDisk (w0 : World) (σ : Dk) (e : Ending) (w' : World) : Prop := ∃ d fp, e = .returned (.pointer (some ⟨d, 0, none⟩)) ∧ Own w0 w' d fp σ

set_option maxHeartbeats 2000000 in
set_option maxRecDepth 100000 in
theorem begin_ok (w : World) (v : Value) (l : List ActD) (hl : ActsAt w v l) :
    Calls Try.prog 15 #[v] w (IsDisk w (beginDk l (min l.length 30))) := by
  obtain ⟨av, capv, ev, hv1, hv2, -⟩ := id hl.1
  rw [List.length_map] at ev hv1
  subst ev
  have hmax : l.length ≤ 9223372036854775807 := by simp only [maxLen] at hv2; omega
  have HA := hid hl
  clear hl hv1 hv2
  go_enter Try.func15, Try.ntmps15
  go_wp2_with fail
  refine (new_ok' 6 _ (by omega) (by omega)).mono ?_
  rintro e w1 ⟨d, fp, rfl, D0, P0, F0⟩
  have H0 : ∃ fp, Own w w1 d fp (beginDk l 0) := ⟨fp, D0, P0, F0⟩
  clear D0 P0 F0
  go_wp2_with fail
  go_loopw [5] (fun iv wr => ∃ k : Nat, k ≤ l.length ∧ k ≤ 30 ∧ iv = .int .i64 (k : Int) ∧ ∃ fp, Own w wr d fp (beginDk l k)) (fun iv _ => 30 - (intOf iv).toNat)
  case atStart => exact ⟨0, Nat.zero_le _, Nat.zero_le _, rfl, H0⟩
  case round =>
    obtain ⟨k, hk, h30, rfl, fpk, hO⟩ := hrel
    clear H0
    by_cases hlt : k < l.length ∧ k < 30
    · obtain ⟨hlt, h30'⟩ := hlt
      have hl1 : (k : Int) < (l.length : Int) := by omega
      have hl2 : (k : Int) < 30 := by omega
      obtain ⟨a, ha⟩ : ∃ a, l[k]? = some a := ⟨_, List.getElem?_eq_getElem hlt⟩
      have hok : a.Ok w := HA.out.2 a (List.mem_of_getElem? ha)
      obtain ⟨b, off, capb, eb, -, -, hcb, hbw⟩ := (HA.out.pres hO.2.1 (by simp)).get ha
      simp only [Value.slice.injEq] at eb
      obtain ⟨rfl, -, rfl⟩ := eb
      have hstep : beginDk l (k + 1) = actDk (beginDk l k) a := by simp only [beginDk, ha]
      have hsix := (beginDk_six l k)
      have HX := And.intro hO (And.intro hok (And.intro hstep (And.intro hsix hcb)))
      have one := act_one hok
      clear hO hok hstep hsix hcb ha hk h30
      go_upto_region 6 with (first | ((with_reducible refine at_load ?_); refine wpL_loadc rfl 39 (.tmp 27) rfl b (off + k * 4) rfl a.cells agg_act size_act HX.2.2.2.2 ?_) | ((with_reducible refine at_alloc ?_); refine wpL_alloc rfl 39 rfl _ zero_act ?_; intro w2 A3 P3 S3) | ((with_reducible refine at_store ?_); refine wpL_store rfl 39 (.tmp 6) (.tmp 28) rfl wr.heap.size 0 4 rfl a.cells rfl _ 39 A3 size_act rfl (by simp) one ?_; intro w3 A4 P4 S4; rw [splice_full [.int .i64 0, .int .i64 0, .string ⟨#[]⟩, .slice none 0 0] a.cells rfl] at A4))
      have c0 := A4.cell 0
      have c1 := A4.cell 1
      have c2 := A4.cell 2
      simp only [ActD.cells, List.getElem?_cons_succ, List.getElem?_cons_zero] at c0 c1 c2
      have hOA := HX.1.quiet (P3.trans P4 (by simp))
      have hd : d < w3.heap.size := hOA.1.lt d (by obtain ⟨kb, pv, e, -⟩ := hOA.1; simp [e])
      by_cases hk2 : a.kind = 2
      · have hk2' : (a.kind == 2) = true := by simpa using hk2
        have e1 : actDk (beginDk l k) a = (beginDk l k).flush.2 := by unfold actDk; rw [if_pos hk2]
        have HE := hid (HX.2.2.1.trans e1)
        clear hk2 e1 c1 c2
        go_wp2_with (go_at_call 16; refine (disk_flush hOA.1).mono ?_; rintro e w4 ⟨rfl, S⟩)
        go_roundw
        case rel =>
          obtain ⟨fp4, h4⟩ := hOA.step S
          exact ⟨k + 1, by omega, by omega, by go_num, fp4, by rw [HE.out]; exact h4⟩
        case measure => simp [intOf]; omega
      · have hk2' : (a.kind == 2) = false := by simpa using hk2
        have e1 : actDk (beginDk l k) a = ((beginDk l k).write (sec6 a.pos) (cutS a.s)).2 := by unfold actDk; rw [if_neg hk2]
        have HE := hid (HX.2.2.1.trans e1)
        obtain ⟨M, hM⟩ : ∃ M : Nat, M = min 64 a.s.size := ⟨_, rfl⟩
        have hM1 : (if (64 : Int) < (a.s.size : Int) then 64 else (a.s.size : Int)) = (M : Int) := by split <;> omega
        have hM2 : (M : Int) ≤ (a.s.size : Int) := by omega
        have hM3 : (a.s.size : Int) ≤ 9223372036854775807 := by have := HX.2.1.s; simp only [maxLen] at this; omega
        have hM4 := hid (cutS_extract a.s M hM)
        obtain ⟨t1, t2⟩ := tmod6 a.pos
        have hw1 : IntKind.i64.wrap (a.pos.tmod 6 + 6) = a.pos.tmod 6 + 6 := by rw [IntKind.wrap_i64]; omega
        have hw2 : (a.pos.tmod 6 + 6).tmod 6 = a.pos.tmod 6 % 6 := by rw [Int.tmod_eq_emod_of_nonneg (by omega)]; omega
        clear hk2 e1 hM
        go_upto_region 8 with (fail)
        refine wp_region_ord (by kernel_rfl) (fun W => At W wr.heap.size a.cells 39) 14
          [(0, true), (1, true), (2, true), (3, true), (4, true), (5, true), (6, true), (7, true), (8, true), (9, true), (10, true), (11, true), (12, true), (13, false)] (by kernel_rfl) ?hq A4.drew ?_
        case hq => intro c a dd v w h; cases dd <;> exact h
        iterate 13 (refine wpOrd_read (v := _) rfl rfl (by intro w' hS; have c1 := hS.cell 1; have c2 := hS.cell 2; simp only [ActD.cells, List.getElem?_cons_succ, List.getElem?_cons_zero] at c1 c2; clear hS; go_simp; rfl) ?_; (try simp only [Act.put, List.setIfInBounds_toArray, List.set_cons_succ, List.set_cons_zero, List.getElem_toArray, List.getElem_cons_succ, List.getElem_cons_zero]))
        have hOB := hOA.quiet (Pres.refl _ _).drew
        have A5 := A4.drew
        have N5 : wr.heap.size ∉ fpk := fun hm => by have := HX.1.1.lt _ hm; omega
        generalize w3.drew = w5 at *
        generalize a.s.extract 0 M = x at *
        refine wpOrd_do rfl rfl (fun K hK => ?_)
        go_simp
        refine (disk_write hOB.1 _ _ (by have := HX.2.2.2.1.2; omega)).mono ?_
        rintro e w6 ⟨rfl, S⟩
        obtain ⟨fp6, h6, p6, -⟩ := hOB.step' S
        refine hK _ _ ⟨A5.pres p6 N5, ?_⟩
        clear hK K
        refine wpOrd_end ?_
        have HH6 := hid h6
        clear h6 p6 S hOB hOA A5 A4 hw1 hw2
        simp only [List.drop_succ_cons, List.drop_zero]
        go_wp2
        go_roundw
        case rel => exact ⟨k + 1, by omega, by omega, by go_num, fp6, by rw [HE.out, ← hM4.out]; exact HH6.out⟩
        case measure => simp [intOf]; omega
    · have hOut : ¬ k < l.length ∨ (k < l.length ∧ ¬ k < 30) := by omega
      have hmin : min l.length 30 = k := by omega
      have HM := hid hmin
      clear hmin hlt h30
      rcases hOut with hq | ⟨hq, hq2⟩
      all_goals
        go_wp2
        go_ret
        exact ⟨d, fpk, rfl, by rw [HM.out]; exact hO⟩

end Go.Proofs.Ytanjlfppppghpaa
