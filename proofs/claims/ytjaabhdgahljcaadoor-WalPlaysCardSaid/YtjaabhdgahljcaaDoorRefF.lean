/- The document's log (aquiferref08): its Open comes to what openLg says; conditions stand in the theorem. -/
import Derived.Test.YtjaabhdgahljcaaDoorRefD
namespace Go.Proofs.YtjaabhdgahljcaaDoor
open Go.RowKit
set_option maxRecDepth 100000

def QEnd (w0 w' : World) (ps : List HP) (r : Nat) (σ : Dk) (en : Ending) : Int × Option Lg → Prop
  | (e, none) => en = .returned (.tuple #[.pointer none, .int .i64 e]) ∧ St w0 w' (refP r σ :: ps)
  | (e, some l) => ∃ b, en = .returned (.tuple #[.pointer (some ⟨b, 0, none⟩), .int .i64 e]) ∧ St w0 w' (qlogP b r l :: refP r σ :: ps)

def rawLg (B N : Nat) : Lg := ⟨B, N, 0, [], [], [], false⟩

set_option maxHeartbeats 8000000 in
theorem q_openlog {w0 w : World} {ps : List HP} {r : Nat} {σ : Dk} (H : St w0 w (refP r σ :: ps)) (base n : Int)
    (hb0 : -9223372036854775808 ≤ base) (hb1 : base ≤ 9223372036854775807) (hn0 : -9223372036854775808 ≤ n) (hn1 : n ≤ 9223372036854775807) :
    Calls Tryd.prog 53 #[.pointer (some ⟨r, 0, none⟩), .int .i64 base, .int .i64 n] w fun en w' => QEnd w0 w' ps r σ en (openLg σ base n) := by
  obtain ⟨kv, pv, ok, HO⟩ := ref_open H
  obtain ⟨ak, ck, rfl, -, -⟩ := (HO.sl 1 rfl).shape
  have c0 := (HO.obj 0 rfl).cell 0
  have c2 := (HO.obj 0 rfl).cell 2
  simp only [refCells, List.getElem?_cons_succ, List.getElem?_cons_zero] at c0 c2
  have hpos := ok.pos
  have hmost := ok.most
  have HX := hid H
  have OK := hid ok
  obtain ⟨F, hF⟩ : ∃ F, Hid (openLg σ base n = F) := ⟨_, hid rfl⟩
  rw [hF.out]
  have hF2 := hF.out
  unfold openLg at hF2
  clear hF H ok HO
  obtain ⟨sz, hszd⟩ : ∃ sz, σ.kept.length = sz := ⟨_, rfl⟩
  rw [hszd] at hpos hmost hF2 c0
  have HZ := hid hszd
  clear hszd
  cases hdown : σ.down
  · rw [hdown] at hF2 c2
    simp only [Bool.false_eq_true, if_false] at hF2
    have HDN := hid hdown
    clear hdown
    by_cases b1 : n < 2
    · rw [if_pos (by omega)] at hF2
      subst hF2
      go_enter Tryd.func53, Tryd.ntmps53
      go_wp2
      go_ret2
      exact ⟨rfl, HX.out⟩
    by_cases b2 : base < 0
    · rw [if_pos (by omega)] at hF2
      subst hF2
      go_enter Tryd.func53, Tryd.ntmps53
      go_wp2
      go_ret2
      exact ⟨rfl, HX.out⟩
    by_cases b3 : (sz : Int) < base
    · rw [if_pos (by omega)] at hF2
      subst hF2
      go_enter Tryd.func53, Tryd.ntmps53
      go_wp2
      go_ret2
      exact ⟨rfl, HX.out⟩
    by_cases b4 : (sz : Int) - base < n
    · rw [if_pos (by omega)] at hF2
      subst hF2
      go_enter Tryd.func53, Tryd.ntmps53
      go_wp2
      go_ret2
      exact ⟨rfl, HX.out⟩
    rw [if_neg (by omega)] at hF2
    obtain ⟨B, rfl⟩ : ∃ B : Nat, base = (B : Int) := ⟨base.toNat, by omega⟩
    obtain ⟨N, rfl⟩ : ∃ N : Nat, n = (N : Int) := ⟨n.toNat, by omega⟩
    simp only [Int.toNat_natCast] at hF2
    have hB : B < sz := by omega
    have hBN : B + N ≤ sz := by omega
    have hread := read_has HDN.out (σ := σ) (i := B) (by rw [HZ.out]; omega)
    have hlook := Dk.look_length OK.out (i := B) (by rw [HZ.out]; omega)
    have HF := hid hF2
    clear hF2
    obtain ⟨s, hs⟩ : ∃ s, Hid (σ.look B = s) := ⟨_, hid rfl⟩
    rw [hs.out] at hread hlook
    obtain ⟨z, hz⟩ : ∃ z : ByteArray, Hid (z = ⟨s.toArray⟩) := ⟨_, hid rfl⟩
    have hzl : z.data.toList = s := by rw [hz.out, ba_mk]
    have hzs : z.size = 64 := by rw [ba_size, hzl, hlook]
    have HL := hid (And.intro hzl hlook)
    clear hzl hlook
    have HRD := hid hread
    obtain ⟨z0, hz0⟩ : ∃ z : ByteArray, Hid (z = ⟨(List.replicate 64 (0 : UInt8)).toArray⟩) := ⟨_, hid rfl⟩
    have hz0s : z0.size = 64 := by rw [ba_size, hz0.out, ba_mk, List.length_replicate]
    have hrep := fun W => rf_noughts 64 W (by omega)
    rw [← hz0.out] at hrep
    have hv1 := fun W => rf_get (z.extract 4 12) W (by rw [ByteArray.size_extract]; omega)
    have hv2 := fun W => rf_get (z.extract 12 16) W (by rw [ByteArray.size_extract]; omega)
    have e1 : (z.extract 4 12).data.toList = (s.drop 4).take 8 := by rw [ba_take, HL.out.1, List.drop_take]
    have e2 : (z.extract 12 16).data.toList = (s.drop 12).take 4 := by rw [ba_take, HL.out.1, List.drop_take]
    have l1 := valLE_lt ((s.drop 4).take 8)
    have l2 := valLE_lt ((s.drop 12).take 4)
    have g1 : ((s.drop 4).take 8).length = 8 := by rw [List.length_take, List.length_drop, HL.out.2]; rfl
    have g2 : ((s.drop 12).take 4).length = 4 := by rw [List.length_take, List.length_drop, HL.out.2]; rfl
    rw [g1] at l1
    rw [g2] at l2
    rw [e1, getB] at hv1
    rw [e2, getB] at hv2
    obtain ⟨E, hE⟩ : ∃ E, Hid (valLE ((s.drop 4).take 8) = E) := ⟨_, hid rfl⟩
    obtain ⟨Ln, hLn⟩ : ∃ Ln, Hid (valLE ((s.drop 12).take 4) = Ln) := ⟨_, hid rfl⟩
    rw [hE.out] at hv1 l1
    rw [hLn.out] at hv2 l2
    rw [if_pos (by omega)] at hv2
    obtain ⟨x1, hx1⟩ : ∃ x, z.extract 4 12 = x := ⟨_, rfl⟩
    obtain ⟨x2, hx2⟩ : ∃ x, z.extract 12 16 = x := ⟨_, rfl⟩
    rw [hx1] at hv1
    rw [hx2] at hv2
    clear e1 e2 g1 g2
    clear hread
    go_enter Tryd.func53, Tryd.ntmps53
    go_wp2_with fail
    have H1 := hid ((HX.out.alloc (qCells r (.slice none 0 0) (.slice none 0 0) (rawLg B N)) 98).pull 1 rfl)
    have hrd := ref_read H1.out (B : Int)
    rw [HRD.out] at hrd
    unfold strV at hrd
    rw [← hz.out] at hrd
    unfold qCells rawLg strV at H1 hrd
    clear HX
    generalize w.heap.size = b at *
    generalize (w.alloc _) = wa at *
    refine hrd.mono ?_
    rintro en w1 ⟨rfl, rfl⟩
    clear hrd c0 c2
    go_wp2_with fail
    refine (hrep _).mono ?_
    rintro en w2 ⟨rfl, rfl⟩
    clear hrep
    by_cases hzero : s = List.replicate 64 0
    · have hzz : z = z0 := by rw [hz.out, hz0.out, hzero]
      subst hzz
      have hF3 := HF.out
      rw [if_pos (by rw [hs.out]; exact hzero)] at hF3
      subst hF3
      clear HF hv1 hv2
      go_wp2
      go_ret2
      refine ⟨b, rfl, ?_⟩
      have h1 := (((H1.out.pull 1 rfl).nil 9 1).nil 9 1).pull 2 rfl
      exact q_close (l := rawLg B N) (Lg.start_ok (by omega) (by omega) (by omega)) (rv := .slice none 0 0) (wv := .slice none 0 0) h1
    · have hzz : ¬ z = z0 := fun e => hzero (by rw [← HL.out.1, e, hz0.out, ba_mk])
      have hzne := toList_ne hzz
      have hF3 := HF.out
      rw [if_neg (by rw [hs.out]; exact hzero), hs.out] at hF3
      simp only [hE.out, hLn.out] at hF3
      have HF := hid hF3
      clear hF3 hzz hzero
      by_cases a1 : 4611686018427387904 < E
      · have hF3 := HF.out
        rw [if_pos (by omega)] at hF3
        subst hF3
        rw [if_neg (by omega)] at hv1
        clear HF
        go_wp2_with fail
        refine (hv1 _).mono ?_
        rintro e w6 ⟨rfl, rfl⟩
        go_wp2_with fail
        refine (hv2 _).mono ?_
        rintro e w6 ⟨rfl, rfl⟩
        go_wp2
        go_ret2
        exact ⟨rfl, (H1.out.pull 1 rfl).drop⟩
      rw [if_pos (by omega)] at hv1
      have a1' : ¬ (E : Int) < 0 := by omega
      by_cases a2 : 64 * (N - 1) < Ln
      · have hF3 := HF.out
        rw [if_pos (by omega)] at hF3
        subst hF3
        have a2' : (64 : Int) * ((N : Int) - 1) < (Ln : Int) := by omega
        have d1 : decide ((E : Int) < 0) = false := decide_eq_false a1'
        clear HF
        go_wp2_with fail
        refine (hv1 _).mono ?_
        rintro e w6 ⟨rfl, rfl⟩
        go_wp2_with fail
        refine (hv2 _).mono ?_
        rintro e w6 ⟨rfl, rfl⟩
        go_wp2
        go_ret2
        exact ⟨rfl, (H1.out.pull 1 rfl).drop⟩
      have a2' : ¬ (64 : Int) * ((N : Int) - 1) < (Ln : Int) := by omega
      have hhd := fun W => rf_head E Ln W (by omega) (by omega)
      obtain ⟨zh, hzh⟩ : ∃ z : ByteArray, Hid (z = ⟨(headB E Ln).toArray⟩) := ⟨_, hid rfl⟩
      rw [← hzh.out] at hhd
      have d1 : decide ((E : Int) < 0) = false := decide_eq_false a1'
      have d2 : decide ((64 : Int) * ((N : Int) - 1) < (Ln : Int)) = false := decide_eq_false a2'
      by_cases a3 : s = headB E Ln
      · have hzz : zh = z := by rw [hz.out, hzh.out, a3]
        have hF3 := HF.out
        rw [if_neg (by simp only [not_or, Classical.not_not]; exact ⟨by omega, by omega, a3⟩)] at hF3
        have HF := hid hF3
        clear hF3 a3 HL
        rw [hzz] at hhd
        clear hzz hzh
        clear a1' a2'
        go_wp2_with fail
        refine (hv1 _).mono ?_
        rintro e w6 ⟨rfl, rfl⟩
        go_wp2_with fail
        refine (hv2 _).mono ?_
        rintro e w6 ⟨rfl, rfl⟩
        go_upto_region 13 with (go_at_call 73; refine (hhd _).mono ?_; rintro e w6 ⟨rfl, P6⟩; have H6 := hid (H1.out.quiet P6))
        clear hv1 hv2 hhd d1 d2 hzne hx1 hx2
        have hN2 : 2 ≤ N := by omega
        clear b1 b2 b3 b4
        go_wp2_with fail
        go_loop [13, 14] (fun av iv => ∃ j : Nat, 1 ≤ j ∧ j ≤ N ∧ iv = .int .i64 (j : Int) ∧ av = strV (sectorsB σ (B + 1) (j - 1))) (fun _ iv => N + 1 - (intOf iv).toNat)
        case atStart => exact ⟨1, Nat.le_refl _, by omega, rfl, rfl⟩
        case round =>
          obtain ⟨j, hj1, hj, rfl, rfl⟩ := hrel
          have hsl := sectorsB_length OK.out (B + 1) (j - 1) (by rw [HZ.out]; omega)
          obtain ⟨za, hza, eza, hzas⟩ := bytes_z (sectorsB σ (B + 1) (j - 1))
          rw [eza]
          rw [hsl] at hzas
          clear eza hsl
          by_cases hlt : j < N
          · have hlt' : (j : Int) < (N : Int) := by omega
            obtain ⟨I, hI⟩ : ∃ I, B + j = I := ⟨_, rfl⟩
            have hIi : (B : Int) + (j : Int) = (I : Int) := by omega
            have hIs : I < sz := by omega
            have hread := read_has HDN.out (σ := σ) (i := I) (by rw [HZ.out]; exact hIs)
            have hlook := Dk.look_length OK.out (i := I) (by rw [HZ.out]; exact hIs)
            obtain ⟨z1, hz1⟩ : ∃ z : ByteArray, Hid (z = ⟨(σ.look I).toArray⟩) := ⟨_, hid rfl⟩
            have hz1s : z1.size = 64 := by rw [ba_size, hz1.out, ba_mk, hlook]
            have hrd := ref_read H6.out (I : Int)
            rw [hread] at hrd
            unfold strV at hrd
            rw [← hz1.out] at hrd
            have HI := hid hI
            have hIb : (I : Int) ≤ 65536 := by omega
            have hza2 : za.size ≤ 4194304 := by omega
            clear hread hlook hI hzas
            go_wp2_with (go_at_call 34; refine hrd.mono ?_; rintro e w7 ⟨rfl, rfl⟩)
            go_round
            case rel =>
              refine ⟨j + 1, by omega, by omega, by go_num, ?_⟩
              refine congrArg Value.string (ba_ext ?_)
              have e : j = (j - 1) + 1 := by omega
              rw [ba_append, hza.out, hz1.out, ba_mk, ba_mk, ba_mk, Nat.add_sub_cancel]
              conv => rhs; rw [e]
              rw [sectorsB_succ, ← HI.out, show B + 1 + (j - 1) = B + j by omega]
            case measure => first | (simp [intOf]; done) | (simp [intOf]; omega)
          · have ej : j = N := by omega
            have hend : ¬ (j : Int) < (N : Int) := by omega
            have hzal : za.data.toList = sectorsB σ (B + 1) (N - 1) := by rw [hza.out, ba_mk, ej]
            obtain ⟨x3, hx3⟩ : ∃ x, za.extract 0 Ln = x := ⟨_, rfl⟩
            obtain ⟨by', hby⟩ : ∃ x, Hid ((sectorsB σ (B + 1) (N - 1)).take Ln = x) := ⟨_, hid rfl⟩
            have hx3l : x3.data.toList = by' := by rw [← hx3, ba_take, List.drop_zero, hzal, hby.out]
            have hzs2 : (Ln : Int) ≤ (za.size : Int) := by omega
            have hx3s : x3.size = Ln := by rw [← hx3, ByteArray.size_extract]; omega
            have hbyl : by'.length = Ln := by rw [← hx3l, ← ba_size, hx3s]
            have HX3 := hid hx3l
            have HBY := hid hbyl
            have hsp := rf_split H6.out x3 (by omega)
            rw [hx3l] at hsp
            have hF3 := HF.out
            rw [hby.out] at hF3
            obtain ⟨S, hS⟩ : ∃ S, splitB by' = S := ⟨_, rfl⟩
            rw [hS] at hsp hF3
            have HS := hid hS
            clear hS HF hbyl hx3l hzal hzas
            cases S with
            | none =>
              simp only [] at hF3
              subst hF3
              go_wp2_with (go_at_call 74; refine hsp.mono ?_; rintro e w7 ⟨rfl, H7⟩; have H7 := hid H7)
              go_ret2
              exact ⟨rfl, (H7.out.pull 1 rfl).drop⟩
            | some recs =>
              simp only [] at hF3
              subst hF3
              obtain ⟨hfr, hall⟩ := splitN_some _ _ _ HS.out
              have HOK := hid (show Lg.Ok ⟨B, N, E, by', recs, [], false⟩ from ⟨by simp only []; omega, by simp only []; omega, by simp only []; omega, by simp only []; omega, by simp only [frames, List.flatMap_nil, List.length_nil]; have := HBY.out; omega, hfr, hall, by simp⟩)
              clear hfr hall
              go_upto_region 22 with (go_at_call 74; refine hsp.mono ?_; rintro e w7 ⟨v7, rfl, H7⟩; have H7 := hid H7)
              obtain ⟨a7, cap7, rfl, -, -⟩ := (H7.out.sl 0 rfl).shape
              have f3 := (H7.out.obj 2 rfl).frozen 3
              have f4 := (H7.out.obj 2 rfl).frozen 4
              have f5 := (H7.out.obj 2 rfl).frozen 5
              have hlt7 := (H7.out.obj 2 rfl).lt
              have c3 := (H7.out.obj 2 rfl).cell 3
              have c4 := (H7.out.obj 2 rfl).cell 4
              have c5 := (H7.out.obj 2 rfl).cell 5
              simp only [List.getElem?_cons_succ, List.getElem?_cons_zero] at c3 c4 c5
              clear hsp H6
              go_wp2
              go_ret2
              refine ⟨b, rfl, q_close HOK.out (rv := .slice a7 recs.length cap7) (wv := .slice none 0 0) ?_⟩
              have h1 := St.set (St.set (St.set H7.out 2 rfl 3 (.int .i64 (E : Int))) 2 rfl 4 (.string x3)) 2 rfl 5 (.slice a7 recs.length cap7)
              have h2 := (h1.nil 9 1).pull 3 rfl
              have e3 : strV by' = .string x3 := by
                rw [← HX3.out]
                exact congrArg Value.string (ba_ext (ba_mk _))
              simp only [qCells, e3]
              exact (h2.pull 2 rfl).pull 1 rfl
      · have hzz : ¬ z = zh := fun e => a3 (by rw [← HL.out.1, e, hzh.out, ba_mk])
        have hq := toList_ne hzz
        have hF3 := HF.out
        rw [if_pos (.inr (.inr a3))] at hF3
        subst hF3
        clear HF hzz a3 a1' a2'
        go_wp2_with fail
        refine (hv1 _).mono ?_
        rintro e w6 ⟨rfl, rfl⟩
        go_wp2_with fail
        refine (hv2 _).mono ?_
        rintro e w6 ⟨rfl, rfl⟩
        go_wp2_with (go_at_call 73; refine (hhd _).mono ?_; rintro e w6 ⟨rfl, P6⟩; have H6 := hid (H1.out.quiet P6))
        go_ret2
        exact ⟨rfl, (H6.out.pull 1 rfl).drop⟩
  · rw [hdown] at hF2 c2
    simp only [if_true] at hF2
    subst hF2
    clear hdown
    go_enter Tryd.func53, Tryd.ntmps53
    go_wp2
    go_ret2
    exact ⟨rfl, HX.out⟩

end Go.Proofs.YtjaabhdgahljcaaDoor
