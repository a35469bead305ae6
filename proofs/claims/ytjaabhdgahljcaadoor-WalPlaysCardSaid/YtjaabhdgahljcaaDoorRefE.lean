/- The document's log (aquiferref08): its Sync comes to what Lg says of it and of its disk; conditions stand in the theorem. -/
import Derived.Test.YtjaabhdgahljcaaDoorRefD
import Derived.Test.YtjaabhdgahljcaaDoorWalE
import Derived.Deep.DeepCutAuto
namespace Go.Proofs.YtjaabhdgahljcaaDoor
open Go.RowKit
set_option maxRecDepth 100000

theorem q_lose {w0 w : World} {ps : List HP} {b r : Nat} {l : Lg} {rv wv : Value} (ok : l.Ok) (H : St w0 w (objP b (qCells r rv wv l) 98 :: slP rv 9 1 l.recs.length (l.recs.map strV) :: slP wv 9 1 l.waiting.length (l.waiting.map strV) :: ps)) :
    St w0 (w.setCell ⟨b, 7, none⟩ (.bool true)) (qlogP b r { l with lost := true } :: ps) :=
  q_close (Lg.lost_ok ok) (rv := rv) (wv := wv) (H.set 0 rfl 7 (.bool true))

/-- The pieces of an open log, and of its disk. -/
def QMid (w0 wr : World) (ps : List HP) (b r : Nat) (l : Lg) (σ : Dk) (rv wv : Value) : Prop :=
  St w0 wr (objP b (qCells r rv wv l) 98 :: slP rv 9 1 l.recs.length (l.recs.map strV) :: slP wv 9 1 l.waiting.length (l.waiting.map strV) :: refP r σ :: ps)

/-- The state at the head of a round: all that is to come is R. -/
structure QLay (w0 wr : World) (ps : List HP) (b r : Nat) (l : Lg) (rv wv : Value) (all : List UInt8) (R : Int × Dk) (k m : Nat) : Prop where
  st : ∃ τ f, QMid w0 wr ps b r l τ rv wv ∧ layN l.base all f k τ = R ∧ all.length / 64 + 1 ≤ f + k ∧ τ.pend.length ≤ m + k

set_option maxHeartbeats 8000000 in
theorem q_sync {w0 w : World} {ps : List HP} {b r : Nat} {l : Lg} {σ : Dk} (H : St w0 w (qlogP b r l :: refP r σ :: ps)) (hroom : σ.pend.length ≤ 800000000) :
    Calls Tryd.prog 55 #[.pointer (some ⟨b, 0, none⟩)] w fun en w' => en = .returned (.int .i64 (l.sync σ).1) ∧ St w0 w' (qlogP b r (l.sync σ).2.1 :: refP r (l.sync σ).2.2 :: ps) := by
  obtain ⟨rv, wv, ok, HO⟩ := q_open H
  obtain ⟨aw, cw, rfl, hw1, hw2⟩ := (HO.sl 2 rfl).shape
  have c6 := (HO.obj 0 rfl).cell 6
  have c7 := (HO.obj 0 rfl).cell 7
  simp only [qCells, List.getElem?_cons_succ, List.getElem?_cons_zero] at c6 c7
  have hcn := ok.counts
  have HX := hid H
  have HOK := hid ok
  clear H hw2
  cases hlost : l.lost
  · rw [hlost] at c7
    by_cases hwt : l.waiting = []
    · have e : l.sync σ = (0, l, σ) := by simp [Lg.sync, hlost, hwt]
      rw [e]
      have h0 : l.waiting.length = 0 := by rw [hwt]; rfl
      rw [h0] at c6
      clear e hlost hwt HO ok h0 hcn hw1
      go_enter Tryd.func55, Tryd.ntmps55
      go_wp2
      go_ret
      exact ⟨rfl, HX.out⟩
    · have hwl : 0 < l.waiting.length := List.length_pos_iff.2 hwt
      have hne : ((l.waiting.length : Int) == 0) = false := by rw [beq_eq_false_iff_ne]; omega
      have hlen := allTo_length l
      have hfit := ok.fits
      have hmost := ok.most
      have hbase := ok.base
      have hep := ok.epoch
      have hmaxw : l.waiting.length ≤ 9223372036854775807 := by omega
      have HLW := hid (And.intro hlost hwt)
      have HM := hid (show QMid w0 w ps b r l σ rv (.slice aw l.waiting.length cw) from HO)
      obtain ⟨z0, hz0, e0, hz0s⟩ := bytes_z l.bytes
      have c4 := (HO.obj 0 rfl).cell 4
      simp only [qCells, List.getElem?_cons_succ, List.getElem?_cons_zero] at c4
      rw [e0] at c4
      have HE0 := hid e0
      obtain ⟨F, hF⟩ : ∃ F, Hid (l.sync σ = F) := ⟨_, hid rfl⟩
      rw [hF.out]
      clear HO hlost hwt ok e0
      go_enter Tryd.func55, Tryd.ntmps55
      go_upto_block 0 with fail
      clear c4 c6 c7
      have hA0 : (.string z0 : Value) = strV (allTo l 0) := by rw [show allTo l 0 = l.bytes by simp [allTo, frames]]; exact HE0.out.symm
      have HA0 := hid hA0
      clear hA0
      go_cut [3] (fun s3 w' => s3 = strV (l.bytes ++ frames l.waiting) ∧ QMid w0 w' ps b r l σ rv (.slice aw l.waiting.length cw))
      case first =>
        go_wp2_with fail
        go_loopw [3, 4] (fun v iv wr => ∃ k : Nat, v = strV (allTo l k) ∧ k ≤ l.waiting.length ∧ iv = .int .i64 (k : Int) ∧ QMid w0 wr ps b r l σ rv (.slice aw l.waiting.length cw)) (fun _ iv _ => l.waiting.length - (intOf iv).toNat)
        case atStart => exact ⟨0, HA0.out, Nat.zero_le _, rfl, HM.out⟩
        case round =>
          obtain ⟨k, rfl, hk, rfl, hM⟩ := hrel
          clear HM HA0
          have HH := hid hM
          have c6 := (St.obj HH.out 0 rfl).cell 6
          simp only [qCells, List.getElem?_cons_succ, List.getElem?_cons_zero] at c6
          obtain ⟨zk, -, ezk, hzks⟩ := bytes_z (allTo l k)
          rw [ezk]
          have HZK := hid ezk
          clear hM ezk
          by_cases hlt : k < l.waiting.length
          · obtain ⟨q, hq⟩ : ∃ q, l.waiting[k]? = some q := ⟨_, List.getElem?_eq_getElem hlt⟩
            obtain ⟨g, cg, cur, e1, -⟩ := (St.sl HH.out 2 rfl).get (by omega)
            simp only [Value.slice.injEq] at e1
            obtain ⟨rfl, -, rfl⟩ := e1
            have ck : wr.cell? ⟨g, k, none⟩ = some (strV q) := sl_cells (St.sl HH.out 2 rfl) (by rw [List.getElem?_map, hq]; rfl)
            have hst := allTo_succ hq
            have hrl := HOK.out.waits q (List.mem_of_getElem? hq)
            have hl1 := hlen k
            have hl2 := hlen (k + 1)
            obtain ⟨z, hz, ez, hzs⟩ := bytes_z q
            have hzr : z.data.toList = q := by rw [hz.out, ba_mk]
            rw [ez] at ck
            have hfr := rf_frame z wr (by omega)
            rw [hzr] at hfr
            obtain ⟨fz, hfz⟩ : ∃ fz : ByteArray, Hid ((⟨(frameB q).toArray⟩ : ByteArray) = fz) := ⟨_, hid rfl⟩
            rw [hfz.out] at hfr
            have hfl : fz.data.toList = frameB q := by rw [← hfz.out, ba_mk]
            have hfs : fz.size = (frameB q).length := by rw [ba_size, hfl]
            rw [hst, List.length_append] at hl2
            have hlt' : (k : Int) < (l.waiting.length : Int) := by omega
            have hzk1 : zk.size ≤ 4194304 := by omega
            have hfz1 : fz.size ≤ 4194304 := by omega
            have hzkl : zk.data.toList = allTo l k := by
              have := HZK.out
              unfold strV at this
              cases this
              rw [ba_mk]
            have HN := hid (And.intro hst (And.intro hfl hzkl))
            clear hst hfl hfs hl2 hl1 hzr hzs hq ez hzks hzkl
            go_wp2_with (go_at_call 75; refine hfr.mono ?_; rintro e w3 ⟨rfl, P3⟩; have H3 := hid (St.quiet HH.out P3))
            go_roundw
            case rel =>
              refine ⟨k + 1, ?_, by omega, by go_num, H3.out⟩
              obtain ⟨h1, h2, h3⟩ := HN.out
              rw [h1, ← h2, ← h3]
              exact congrArg Value.string (ba_ext (by rw [ba_append, ba_mk]))
            case measure => first | (simp [intOf]; done) | (simp [intOf]; omega)
          · have ek : k = l.waiting.length := by omega
            have hend : ¬ (k : Int) < (l.waiting.length : Int) := by omega
            have HE := hid (show allTo l k = l.bytes ++ frames l.waiting by rw [ek]; exact allTo_all l)
            clear ek hlt
            go_wp2_with fail
            go_meet
            case rel => exact ⟨by rw [← HE.out]; exact HZK.out.symm, HH.out⟩
      case rest =>
        obtain ⟨rfl, hM⟩ := hcut
        have HH := hid hM
        clear hM HM HA0
        have c4 := (St.obj HH.out 0 rfl).cell 4
        simp only [qCells, List.getElem?_cons_succ, List.getElem?_cons_zero] at c4
        rw [HE0.out] at c4
        have hAl : (l.bytes ++ frames l.waiting).length ≤ 4194304 := by rw [List.length_append]; omega
        have hsync : l.sync σ = (if (layB l.base (l.bytes ++ frames l.waiting) (l.bytes.length / 64) σ).1 = 0 then
            (if (writeHead l.base l.epoch (l.bytes ++ frames l.waiting).length (layB l.base (l.bytes ++ frames l.waiting) (l.bytes.length / 64) σ).2).1 = 0 then
              (0, { l with bytes := l.bytes ++ frames l.waiting, recs := l.recs ++ l.waiting, waiting := [] }, (writeHead l.base l.epoch (l.bytes ++ frames l.waiting).length (layB l.base (l.bytes ++ frames l.waiting) (l.bytes.length / 64) σ).2).2)
            else ((writeHead l.base l.epoch (l.bytes ++ frames l.waiting).length (layB l.base (l.bytes ++ frames l.waiting) (l.bytes.length / 64) σ).2).1, { l with lost := true }, (writeHead l.base l.epoch (l.bytes ++ frames l.waiting).length (layB l.base (l.bytes ++ frames l.waiting) (l.bytes.length / 64) σ).2).2))
          else ((layB l.base (l.bytes ++ frames l.waiting) (l.bytes.length / 64) σ).1, { l with lost := true }, (layB l.base (l.bytes ++ frames l.waiting) (l.bytes.length / 64) σ).2)) := by
          simp only [Lg.sync, HLW.out.1, Bool.false_eq_true, if_false, if_neg HLW.out.2]
        have hpb := layB_pend l.base (l.bytes ++ frames l.waiting) (l.bytes.length / 64) σ
        generalize hA : l.bytes ++ frames l.waiting = A at *
        have HA := hid hA
        clear hA
        obtain ⟨zA, hzA, ezA, hzAs⟩ := bytes_z A
        rw [ezA]
        have hzAl : zA.data.toList = A := by rw [hzA.out, ba_mk]
        have HZA := hid hzAl
        clear hzA ezA hzAl
        have hF2 := hF.out
        rw [hsync] at hF2
        clear hsync
        have hlayB : layB l.base A (l.bytes.length / 64) σ = if (layN l.base A (A.length / 64 + 1) (l.bytes.length / 64) σ).1 = 0 then (layN l.base A (A.length / 64 + 1) (l.bytes.length / 64) σ).2.flush else layN l.base A (A.length / 64 + 1) (l.bytes.length / 64) σ := rfl
        have HM : QLay w0 wc ps b r l rv (.slice aw l.waiting.length cw) A (layN l.base A (A.length / 64 + 1) (l.bytes.length / 64) σ) (l.bytes.length / 64) σ.pend.length := ⟨σ, _, HH.out, rfl, by omega, by omega⟩
        obtain ⟨B, hB⟩ : ∃ B, layB l.base A (l.bytes.length / 64) σ = B := ⟨_, rfl⟩
        rw [hB] at hF2 hlayB hpb
        generalize layN l.base A (A.length / 64 + 1) (l.bytes.length / 64) σ = R at *
        obtain ⟨re, ρ⟩ := R
        simp only [] at hlayB
        have HF := hid (And.intro hF2 (And.intro hlayB hpb))
        clear hF2 hlayB hF hB hpb
        obtain ⟨k0, hk0d⟩ : ∃ k0, l.bytes.length / 64 = k0 := ⟨_, rfl⟩
        have hk0 : k0 ≤ 65536 := by omega
        rw [hk0d] at HM
        have hdiv : (l.bytes.length : Int) / 64 = (k0 : Int) := by omega
        have HM := hid HM
        have hAl2 : (A.length : Int) ≤ 4194304 := by omega
        clear hk0d HH hlen
        go_wp2_with fail
        clear c4 hdiv
        go_loopw [5] (fun iv wr => ∃ k : Nat, k ≤ 70000 ∧ iv = .int .i64 (k : Int) ∧ QLay w0 wr ps b r l rv (.slice aw l.waiting.length cw) A (re, ρ) k σ.pend.length) (fun iv _ => 70001 - (intOf iv).toNat)
        case atStart => exact ⟨k0, by omega, rfl, HM.out⟩
        case round =>
          obtain ⟨k, hk, rfl, ⟨τ, f, hS, hR, hf, hp⟩⟩ := hrel
          clear HM
          have HS := hid hS
          have c0 := (St.obj hS 0 rfl).cell 0
          have c1 := (St.obj hS 0 rfl).cell 1
          simp only [qCells, List.getElem?_cons_succ, List.getElem?_cons_zero] at c0 c1
          clear hS
          by_cases hlt : 64 * k < A.length
          · have hlt' : (64 : Int) * (k : Int) < (A.length : Int) := by omega
            obtain ⟨hi, hhi⟩ : ∃ hi : Nat, hi = min (64 * k + 64) A.length := ⟨_, rfl⟩
            have hkb : k < 65536 := by omega
            go_upto_if 62 with fail
            go_cut [6] (fun s6 w' => s6 = .int .i64 (hi : Int) ∧ wr = w')
            case first =>
              by_cases hto : A.length < 64 * k + 64
              · have hto' : (A.length : Int) < (64 : Int) * (k : Int) + 64 := by omega
                have HHI := hid (show hi = A.length by omega)
                clear hto hhi
                go_wp2_with fail
                go_meet
                case rel => exact ⟨by rw [HHI.out], rfl⟩
              · have hto' : ¬ (A.length : Int) < (64 : Int) * (k : Int) + 64 := by omega
                have HHI := hid (show hi = 64 * k + 64 by omega)
                clear hto hhi
                go_wp2_with fail
                go_meet
                case rel => exact ⟨by rw [HHI.out]; congr 1, rfl⟩
            case rest =>
              obtain ⟨rfl, rfl⟩ := hcut
              obtain ⟨z1, hz1⟩ : ∃ x, zA.extract (64 * k) hi = x := ⟨_, rfl⟩
              have hz1l : z1.data.toList = (A.drop (64 * k)).take 64 := by
                rw [← hz1, ba_take, HZA.out, List.drop_take]
                rcases Nat.le_total (64 * k + 64) A.length with h | h
                · rw [show hi - 64 * k = 64 by omega]
                · rw [List.take_of_length_le (by rw [List.length_drop]; omega), List.take_of_length_le (by rw [List.length_drop]; omega)]
              have hz1s : z1.size ≤ 64 := by rw [ba_size, hz1l, List.length_take]; omega
              have hw64 : ((64 : Int) * (k : Int)).toNat = 64 * k := by omega
              have w0' : IntKind.i64.wrap ((64 : Int) * (k : Int)) = 64 * (k : Int) := by rw [IntKind.wrap_i64]; omega
              have w1 : IntKind.i64.wrap ((l.base : Int) + 1) = (l.base : Int) + 1 := by rw [IntKind.wrap_i64]; omega
              have w2 : IntKind.i64.wrap ((l.base : Int) + 1 + (k : Int)) = (l.base : Int) + 1 + (k : Int) := by rw [IntKind.wrap_i64]; omega
              have hh1 : (64 : Int) * (k : Int) ≤ (hi : Int) := by omega
              have hh2 : (hi : Int) ≤ (zA.size : Int) := by omega
              have hh3 : hi ≤ A.length := by omega
              have hh4 : (0 : Int) ≤ 64 * (k : Int) := by omega
              have HZ1 := hid (And.intro hz1l hz1s)
              clear hz1l hz1s hhi
              go_upto_region 16 with (fail)
              refine wp_stages (by kernel_rfl) ?_
              have S0 : wr.drew.cell? ⟨b, 0, none⟩ = some (.pointer (some ⟨r, 0, none⟩)) ∧ wr.drew.cell? ⟨b, 1, none⟩ = some (.int .i64 (l.base : Int)) := ⟨c0, c1⟩
              refine wp_stage (fun W => W.cell? ⟨b, 0, none⟩ = some (.pointer (some ⟨r, 0, none⟩)) ∧ W.cell? ⟨b, 1, none⟩ = some (.int .i64 (l.base : Int))) [(0, true), (1, true), (2, true), (3, true), (4, true), (5, true), (6, true), (7, true), (8, true), (9, true), (10, true), (11, true), (12, true), (13, true), (14, true), (15, true)] 2 rfl (by kernel_rfl) (by intro c a dd v w h; cases dd <;> exact h) (S0) ?_
              iterate 16 (refine wpOrd_read (v := _) rfl rfl (by intro w' hS; obtain ⟨s1, s2⟩ := id hS; clear hS; go_simp; rfl) ?_; (try simp only [Act.put, List.setIfInBounds_toArray, List.set_cons_succ, List.set_cons_zero, List.getElem_toArray, List.getElem_cons_succ, List.getElem_cons_zero]))
              refine wpOrd_end ?_
              refine wp_stages_end 16 (by rfl) (by kernel_rfl) ?_
              simp only [List.drop_succ_cons, List.drop_zero]
              have HD := hid (St.pull (St.drew HS.out) 3 rfl)
              generalize wr.drew = wd at *
              clear S0 HS c0 c1 w0' w1 w2 hw64 hz1
              have hwr := ref_write HD.out ((l.base : Int) + 1 + (k : Int)) z1 (by have := HZ1.out.2; simp only [maxLen]; omega) (by omega)
              rw [HZ1.out.1] at hwr
              have hstep : layN l.base A f k τ = if (τ.write ((l.base : Int) + 1 + (k : Int)) ((A.drop (64 * k)).take 64)).1 = 0 then layN l.base A (f - 1) (k + 1) (τ.write ((l.base : Int) + 1 + (k : Int)) ((A.drop (64 * k)).take 64)).2 else τ.write ((l.base : Int) + 1 + (k : Int)) ((A.drop (64 * k)).take 64) := by
                obtain ⟨f', rfl⟩ : ∃ f', f = f' + 1 := ⟨f - 1, by omega⟩
                rw [layN_succ hlt]
                rfl
              have hpw := Dk.write_pend τ ((l.base : Int) + 1 + (k : Int)) ((A.drop (64 * k)).take 64)
              rw [hR] at hstep
              generalize τ.write ((l.base : Int) + 1 + (k : Int)) ((A.drop (64 * k)).take 64) = q at *
              obtain ⟨qe, τ2⟩ := q
              simp only [] at hstep hwr hpw
              have HN := hid (And.intro hstep hpw)
              clear hstep hpw hR
              go_wp2_with fail
              refine hwr.mono ?_
              rintro en w3 ⟨rfl, H3⟩
              have H3 := hid (show QMid w0 w3 ps b r l τ2 rv (.slice aw l.waiting.length cw) from ((H3.pull 3 rfl).pull 3 rfl).pull 3 rfl)
              clear HD hwr
              by_cases h0 : qe = 0
              · subst h0
                go_wp2
                go_roundw
                case rel =>
                  obtain ⟨hst, hpp⟩ := HN.out
                  exact ⟨k + 1, by omega, by go_num, ⟨τ2, f - 1, H3.out, by simpa using hst.symm, by omega, by omega⟩⟩
                case measure => first | (simp [intOf]; done) | (simp [intOf]; omega)
              · have hb0 : (qe != 0) = true := by simpa using h0
                have HN0 := hid h0
                have f7 := (St.obj H3.out 0 rfl).frozen 7
                have hlt7 := (St.obj H3.out 0 rfl).lt
                obtain ⟨v7, c7⟩ : ∃ v, w3.cell? ⟨b, 7, none⟩ = some v := ⟨_, (St.obj H3.out 0 rfl).cell 7⟩
                clear h0
                go_wp2
                go_ret
                obtain ⟨hst, hpp⟩ := HN.out
                rw [if_neg HN0.out] at hst
                cases hst
                obtain ⟨hF2, hlB, -⟩ := HF.out
                rw [if_neg HN0.out] at hlB
                subst hlB
                simp only [if_neg HN0.out] at hF2
                subst hF2
                exact ⟨rfl, q_lose HOK.out H3.out⟩
          · have hend : ¬ (64 : Int) * (k : Int) < (A.length : Int) := by omega
            rw [layN_done hlt] at hR
            cases hR
            have hfl := ref_flush (St.pull HS.out 3 rfl)
            obtain ⟨hF2, hlB, hpb⟩ := HF.out
            rw [if_pos rfl] at hlB
            subst hlB
            generalize ρ.flush = fl at *
            obtain ⟨fe, σ1⟩ := fl
            simp only [] at hfl hF2 hpb
            have HF2 := hid hF2
            have hp1 : σ1.pend.length ≤ 1000000000 := by omega
            clear hF2 hpb HF hf hp HS
            go_wp2_with fail
            refine hfl.mono ?_
            rintro en w4 ⟨rfl, H4⟩
            have H4 := hid (show QMid w0 w4 ps b r l σ1 rv (.slice aw l.waiting.length cw) from ((H4.pull 3 rfl).pull 3 rfl).pull 3 rfl)
            clear hfl c0 c1
            by_cases hfe : fe = 0
            · subst hfe
              have hF2 := HF2.out
              rw [if_pos rfl] at hF2
              have c3 := (St.obj H4.out 0 rfl).cell 3
              simp only [qCells, List.getElem?_cons_succ, List.getElem?_cons_zero] at c3
              have hH := q_head (q_close HOK.out H4.out) l.epoch A.length (by omega) (by omega) (by omega)
              generalize writeHead l.base l.epoch A.length σ1 = q2 at *
              obtain ⟨re2, σ2⟩ := q2
              simp only [] at hH hF2
              have HF3 := hid hF2
              have HH4 := hid hH
              clear hF2 HF2 hH
              go_wp2_with fail
              refine HH4.out.mono ?_
              rintro en w5 ⟨rfl, H5⟩
              have H5 := hid H5
              clear HH4 H4 c3
              by_cases hre2 : re2 = 0
              · subst hre2
                have hF2 := HF3.out
                rw [if_pos rfl] at hF2
                subst hF2
                have h5 := H5.out
                rw [Lg.hurt, if_pos rfl] at h5
                obtain ⟨rv5, wv5, -, HO5⟩ := q_open h5
                obtain ⟨arv, crv, rfl, -, -⟩ := (HO5.sl 1 rfl).shape
                obtain ⟨awv, cwv, rfl, -, -⟩ := (HO5.sl 2 rfl).shape
                have c4 := (HO5.obj 0 rfl).cell 4
                have g4 := (HO5.obj 0 rfl).frozen 4
                simp only [qCells, List.getElem?_cons_succ, List.getElem?_cons_zero] at c4
                have H6 := hid (HO5.set 0 rfl 4 (.string zA))
                clear h5 H5 HO5 HF3
                go_upto_region 28 with fail
                have c5 := (St.obj H6.out 0 rfl).cell 5
                have c6 := (St.obj H6.out 0 rfl).cell 6
                simp only [qCells, List.set_cons_succ, List.set_cons_zero, List.getElem?_cons_succ, List.getElem?_cons_zero] at c5 c6
                generalize w5.setCell ⟨b, 4, none⟩ (.string zA) = w6 at *
                obtain ⟨j, hj, hjz, hjs, hjb⟩ := info_str
                have HJ := hid (And.intro hj (And.intro hjz (And.intro hjs hjb)))
                clear hj hjz hjs hjb c4 g4
                refine wp_stages (by kernel_rfl) ?_
                refine wp_pures [(0, true), (2, true), (3, true), (4, true), (7, true), (8, true), (9, true)] 8 rfl (by kernel_rfl) (by kernel_rfl) (by intro c a dd v w h; cases dd <;> exact h) ?_
                iterate 7 (refine wpOrd_read (v := _) rfl rfl (by intro w' hS; skip; clear hS; go_simp; rfl) ?_; (try simp only [Act.put, List.setIfInBounds_toArray, List.set_cons_succ, List.set_cons_zero, List.getElem_toArray, List.getElem_cons_succ, List.getElem_cons_zero]))
                refine wpOrd_end ?_
                have S0 : w6.drew.cell? ⟨b, 5, none⟩ = some (.slice arv l.recs.length crv) ∧ w6.drew.cell? ⟨b, 6, none⟩ = some (.slice awv l.waiting.length cwv) := ⟨c5, c6⟩
                refine wp_stage (fun W => W.cell? ⟨b, 5, none⟩ = some (.slice arv l.recs.length crv) ∧ W.cell? ⟨b, 6, none⟩ = some (.slice awv l.waiting.length cwv)) [(5, true), (10, true), (1, false), (6, false)] 4 rfl (by kernel_rfl) (by intro c a dd v w h; cases dd <;> exact h) (S0) ?_
                iterate 2 (refine wpOrd_read (v := _) rfl rfl (by intro w' hS; obtain ⟨s1, s2⟩ := id hS; clear hS; go_simp; rfl) ?_; (try simp only [Act.put, List.setIfInBounds_toArray, List.set_cons_succ, List.set_cons_zero, List.getElem_toArray, List.getElem_cons_succ, List.getElem_cons_zero]))
                have HS := hid (show Lg.Ok { l with bytes := A, recs := l.recs ++ l.waiting, waiting := [] } by
                  have h1 := HOK.out
                  have hA := HA.out
                  refine ⟨h1.two, h1.most, h1.base, h1.epoch, ?_, ?_, ?_, by simp⟩
                  · simp only [frames, List.flatMap_nil, List.length_nil]
                    rw [← hA, List.length_append]
                    exact h1.fits
                  · simp only [frames_append]
                    rw [← hA, h1.form]
                  · intro r hr
                    rcases List.mem_append.1 hr with h | h
                    · exact h1.recs r h
                    · exact h1.waits r h)
                have hzz : strV A = .string zA := by
                  rw [← HZA.out]
                  exact congrArg Value.string (ba_ext (ba_mk _))
                have HZZ := hid hzz
                clear hzz
                have HD := hid (St.drew H6.out)
                generalize w6.drew = wd at *
                clear c5 c6
                refine wpOrd_do rfl rfl (fun K hK => ?_)
                go_simp
                refine hK _ _ ⟨⟨((Pres.refl [] wd).alloc (.cells #[] 9)).cell S0.1 (by simp), ((Pres.refl [] wd).alloc (.cells #[] 9)).cell S0.2 (by simp)⟩, ?_⟩
                clear hK K S0
                (try simp only [Act.put, List.setIfInBounds_toArray, List.set_cons_succ, List.set_cons_zero, List.getElem_toArray, List.getElem_cons_succ, List.getElem_cons_zero])
                have A0 : Sl (wd.alloc (.cells #[] 9)) 9 1 (.slice (some ⟨wd.heap.size, 0, none⟩) 0 0) 0 [] := ⟨rfl, .inr ⟨_, 0, [], rfl, At.new wd [] _, Nat.le_refl _, by simp [maxLen], rfl, rfl⟩⟩
                have H7 := hid (St.slice HD.out A0 ((Pres.refl [] wd).alloc (.cells #[] 9)) (by simp [fpv]))
                clear A0 HD H6
                refine wpOrd_do rfl rfl (fun K hK => ?_)
                refine wp_app (.tmp 115) (.tmp 119) 31 31 rfl 9 j _ 1 Tryd.underlying31 HJ.out.1 HJ.out.2.1 HJ.out.2.2.1 rfl (.slice (some ⟨wd.heap.size, 0, none⟩) 0 0) 0 [] rfl (St.sl H7.out 0 rfl) l.recs.length _ (Src.sl Tryd.underlying31 (St.sl H7.out 2 rfl) (strs_one _)) (by simp only [maxLen]; omega) (by rw [HJ.out.2.2.2]; omega) ?_
                intro v8 w8 Y1 Y2 Y3
                simp only [Nat.zero_add, List.nil_append] at Y1
                have H8 := hid (St.grow H7.out 0 rfl Y1 Y2 Y3)
                obtain ⟨a8, cap8, rfl, -, -⟩ := Y1.shape
                have d5 := (St.obj H8.out 1 rfl).cell 5
                have d6 := (St.obj H8.out 1 rfl).cell 6
                simp only [qCells, List.set_cons_succ, List.set_cons_zero, List.getElem?_cons_succ, List.getElem?_cons_zero] at d5 d6
                refine hK _ _ ⟨⟨d5, d6⟩, ?_⟩
                clear hK K Y1 Y2 Y3 H7 d5 d6
                (try simp only [Act.put, List.setIfInBounds_toArray, List.set_cons_succ, List.set_cons_zero, List.getElem_toArray, List.getElem_cons_succ, List.getElem_cons_zero])
                refine wpOrd_end ?_
                refine wp_stage (fun _ => True) [(11, false)] 3 rfl (by kernel_rfl) (by intro c a dd v w h; cases dd <;> exact h) (trivial) ?_
                refine wpOrd_do rfl rfl (fun K hK => ?_)
                refine wp_app (.tmp 120) (.tmp 124) 31 31 rfl 9 j _ 1 Tryd.underlying31 HJ.out.1 HJ.out.2.1 HJ.out.2.2.1 rfl (.slice a8 l.recs.length cap8) l.recs.length _ rfl (St.sl H8.out 0 rfl) l.waiting.length _ (Src.sl Tryd.underlying31 (St.sl H8.out 3 rfl) (strs_one _)) (by simp only [maxLen]; omega) (by rw [HJ.out.2.2.2]; omega) ?_
                intro v9 w9 Y1 Y2 Y3
                have H9 := hid (St.grow H8.out 0 rfl Y1 Y2 Y3)
                obtain ⟨a9, cap9, rfl, -, -⟩ := Y1.shape
                have d5 := (St.obj H9.out 1 rfl).cell 5
                have d6 := (St.obj H9.out 1 rfl).cell 6
                have g5 := (St.obj H9.out 1 rfl).frozen 5
                have g6 := (St.obj H9.out 1 rfl).frozen 6
                have hlt9 := (St.obj H9.out 1 rfl).lt
                simp only [qCells, List.set_cons_succ, List.set_cons_zero, List.getElem?_cons_succ, List.getElem?_cons_zero] at d5 d6
                refine hK _ _ ⟨trivial, ?_⟩
                clear hK K Y1 Y2 Y3 H8
                (try simp only [Act.put, List.setIfInBounds_toArray, List.set_cons_succ, List.set_cons_zero, List.getElem_toArray, List.getElem_cons_succ, List.getElem_cons_zero])
                refine wpOrd_end ?_
                refine wp_stages_end 12 (by rfl) (by kernel_rfl) ?_
                simp only [List.drop_succ_cons, List.drop_zero]
                go_wp2
                go_ret
                refine ⟨rfl, ?_⟩
                have h1 := St.set (St.set H9.out 1 rfl 5 (.slice a9 (l.recs.length + l.waiting.length) cap9)) 1 rfl 6 (.slice none 0 0)
                have h2 := (h1.pull 2 rfl).drop
                have h3 := ((h2.pull 2 rfl).drop.nil 9 1).pull 1 rfl
                have h4 := h3.pull 2 rfl
                refine q_close HS.out (rv := .slice a9 (l.recs.length + l.waiting.length) cap9) (wv := .slice none 0 0) ?_
                simp only [qCells, List.length_append, List.map_append, List.length_nil, List.map_nil, HZZ.out]
                exact h4
              · have hb0 : (re2 != 0) = true := by simpa using hre2
                have hF2 := HF3.out
                rw [if_neg hre2] at hF2
                subst hF2
                have h5 := H5.out
                rw [Lg.hurt, if_neg hre2] at h5
                have H6 := hid h5
                clear hre2 h5 H5 HF3
                go_wp2
                go_ret
                exact ⟨rfl, H6.out⟩
            · have hb0 : (fe != 0) = true := by simpa using hfe
              have hF2 := HF2.out
              rw [if_neg hfe] at hF2
              subst hF2
              have f7 := (St.obj H4.out 0 rfl).frozen 7
              have hlt7 := (St.obj H4.out 0 rfl).lt
              obtain ⟨v7, c7⟩ : ∃ v, w4.cell? ⟨b, 7, none⟩ = some v := ⟨_, (St.obj H4.out 0 rfl).cell 7⟩
              clear hfe HF2
              go_wp2
              go_ret
              exact ⟨rfl, q_lose HOK.out H4.out⟩
  · rw [hlost] at c7
    have e : l.sync σ = (10, l, σ) := by simp [Lg.sync, hlost]
    rw [e]
    clear e hlost HO ok hcn c6 hw1
    go_enter Tryd.func55, Tryd.ntmps55
    go_wp2
    go_ret
    exact ⟨rfl, HX.out⟩

end Go.Proofs.YtjaabhdgahljcaaDoor
