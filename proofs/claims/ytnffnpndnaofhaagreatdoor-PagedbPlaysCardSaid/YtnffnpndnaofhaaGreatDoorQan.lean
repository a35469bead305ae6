/- Parts of the proof: A log's Sync and Reset: each comes to what Lg says of it and of the disk; conditions stand in the theorems. -/
import Derived.Test.YtnffnpndnaofhaaGreatDoorQam

/- A log's Sync and Reset: each comes to what Lg says of it and of the disk; conditions stand in the theorems. -/
namespace Go.Proofs.YtnffnpndnaofhaaGreatDoor
open Go.RowKit
set_option maxRecDepth 20000

theorem Dk.flush_pend (σ : Dk) : σ.flush.2.pend.length ≤ σ.pend.length := by
  unfold Dk.flush
  split
  · exact Nat.le_refl _
  split
  · simp [Dk.settle]
  · simp [Dk.does_pend]

theorem layN_pend (base : Nat) (all : List UInt8) : ∀ (f k : Nat) (σ : Dk), (layN base all f k σ).2.pend.length ≤ σ.pend.length + f
  | 0, _, σ => by simp [layN]
  | f + 1, k, σ => by
    unfold layN
    have hw := Dk.write_pend σ ((base + 1 + k : Nat) : Int) ((all.drop (64 * k)).take 64)
    split
    · split
      · have := layN_pend base all f (k + 1) (σ.write ((base + 1 + k : Nat) : Int) ((all.drop (64 * k)).take 64)).2
        omega
      · omega
    · exact Nat.le_add_right _ _

theorem layB_pend (base : Nat) (all : List UInt8) (k : Nat) (σ : Dk) : (layB base all k σ).2.pend.length ≤ σ.pend.length + (all.length / 64 + 1) := by
  have h := layN_pend base all (all.length / 64 + 1) k σ
  unfold layB
  simp only []
  split
  · exact Nat.le_trans (Dk.flush_pend _) h
  · exact h

theorem writeHead_pend (base e n : Nat) (σ : Dk) : (writeHead base e n σ).2.pend.length ≤ σ.pend.length + 1 := by
  have h := Dk.write_pend σ (base : Int) (headB e n)
  unfold writeHead
  simp only []
  split
  · exact Nat.le_trans (Dk.flush_pend _) h
  · exact h

theorem Lg.sync_pend {l : Lg} (ok : l.Ok) (σ : Dk) : (l.sync σ).2.2.pend.length ≤ σ.pend.length + 70000 := by
  have h1 := ok.fits
  have h2 := ok.most
  unfold Lg.sync
  split
  · exact Nat.le_add_right _ _
  split
  · exact Nat.le_add_right _ _
  · have h3 := layB_pend l.base (l.bytes ++ frames l.waiting) (l.bytes.length / 64) σ
    have h4 := writeHead_pend l.base l.epoch (l.bytes ++ frames l.waiting).length (layB l.base (l.bytes ++ frames l.waiting) (l.bytes.length / 64) σ).2
    rw [List.length_append] at h3
    simp only []
    split
    · split
      · simp only []; omega
      · simp only []; omega
    · simp only []; omega

theorem Lg.reset_pend (l : Lg) (σ : Dk) : (l.reset σ).2.2.pend.length ≤ σ.pend.length + 1 := by
  have h := writeHead_pend l.base (l.epoch + 1) 0 σ
  unfold Lg.reset
  split
  · exact Nat.le_succ _
  split
  · exact Nat.le_succ _
  split
  · exact Nat.le_succ _
  · simp only []
    split <;> exact h

/-- The frames of the first k that wait, behind what is there. -/
def allTo (l : Lg) (k : Nat) : List UInt8 := l.bytes ++ frames (l.waiting.take k)

theorem allTo_succ {l : Lg} {k : Nat} {r : List UInt8} (h : l.waiting[k]? = some r) : allTo l (k + 1) = allTo l k ++ frameB r := by
  unfold allTo
  rw [List.take_add_one, h]
  simp [frames]

theorem allTo_length (l : Lg) (k : Nat) : (allTo l k).length ≤ l.bytes.length + (frames l.waiting).length := by
  have := sumTo_le l k
  unfold sumTo at this
  unfold allTo
  rw [List.length_append]
  omega

theorem allTo_all (l : Lg) : allTo l l.waiting.length = l.bytes ++ frames l.waiting := by simp [allTo]

/-- What holds at the head of a round: the bytes so far are a slice of the call's own. -/
def SyncMid (w0 wr : World) (ps : List HP) (b d : Nat) (l : Lg) (σ : Dk) (bv rv wv v : Value) (k : Nat) : Prop :=
  St w0 wr (slP v 5 1 (allTo l k).length ((allTo l k).map byteV) :: objP b (logCells d bv rv wv l) 124 :: rdP bv 5 (l.bytes.map byteV) :: slP rv 9 1 l.recs.length (l.recs.map strV) :: slP wv 9 1 l.waiting.length (l.waiting.map strV) :: diskP d σ :: ps)

theorem log_sync {w0 w : World} {ps : List HP} {b d : Nat} {l : Lg} {σ : Dk} (hh : HalfAt w0) (H : St w0 w (logP b d l :: diskP d σ :: ps)) (hroom : σ.pend.length ≤ 800000000) :
    Calls Tryz.prog 58 #[.pointer (some ⟨b, 0, none⟩)] w fun en w' => en = .returned (.int .i64 (l.sync σ).1) ∧ St w0 w' (logP b d (l.sync σ).2.1 :: diskP d (l.sync σ).2.2 :: ps) := by
  have hu := fun W (hW : W = w) => hW ▸ log_up H
  obtain ⟨bv, rv, wv, ok, HO⟩ := log_open H
  obtain ⟨aw, cw, rfl, hw1, hw2⟩ := (HO.sl 3 rfl).shape
  have c4 := (HO.obj 0 rfl).cell 4
  have c6 := (HO.obj 0 rfl).cell 6
  simp only [logCells, List.getElem?_cons_succ, List.getElem?_cons_zero] at c4 c6
  have hcn := ok.counts
  have hsyn := Lg.sync_ok ok σ
  unfold Lg.up at hu
  cases hlost : l.lost
  · rw [hlost] at hu
    by_cases hwt : l.waiting = []
    · have e : l.sync σ = (0, l, σ) := by simp [Lg.sync, hlost, hwt]
      rw [e]
      have h0 : l.waiting.length = 0 := by rw [hwt]; rfl
      rw [h0] at c6
      have HX := hid H
      clear e hlost hwt H HO ok hsyn h0 hcn c4 hw1 hw2
      go_enter Tryz.func58, Tryz.ntmps58
      go_wp2_with (go_at_call 93; refine (hu _ rfl).mono ?_; rintro e w' ⟨rfl, rfl⟩)
      go_ret
      exact ⟨rfl, HX.out⟩
    · have hwl : 0 < l.waiting.length := List.length_pos_iff.2 hwt
      have hne : ((l.waiting.length : Int) == 0) = false := by rw [beq_eq_false_iff_ne]; omega
      have hrd := (HO.rd 1 rfl).reads
      have hcl := fun W (hW : W = w) => hW ▸ clone_bytes w bv _ hrd bytes_one (by rw [List.length_map]; omega)
      simp only [List.length_map] at hcl
      have HX := hid H
      have HOK := hid ok
      have hlen := allTo_length l
      have hfit := ok.fits
      have hmost := ok.most
      have hmaxw : l.waiting.length ≤ 9223372036854775807 := by omega
      obtain ⟨abv, cbv, ebv, -, -⟩ := (HO.rd 1 rfl).shape
      rw [List.length_map] at ebv
      subst ebv
      have HO2 := hid HO
      have HLW := hid (And.intro hlost hwt)
      obtain ⟨F, hF⟩ : ∃ F, Hid (l.sync σ = F) := ⟨_, hid rfl⟩
      rw [hF.out]
      clear H HO hrd hlost hwt ok
      go_enter Tryz.func58, Tryz.ntmps58
      go_wp2_with (first | (go_at_call 93; refine (hu _ rfl).mono ?_; rintro e w' ⟨rfl, rfl⟩) | (go_at_call 94; refine (hcl _ rfl).mono ?_; rintro e w2 ⟨v2, rfl, X1, X2, X3⟩; have c6' := X2.cell c6 (by simp)))
      have HM : SyncMid w0 w2 ps b d l σ (.slice abv l.bytes.length cbv) rv (.slice aw l.waiting.length cw) v2 0 := by
        have := HO2.out.slice X1 X2 X3
        unfold SyncMid
        rw [show allTo l 0 = l.bytes by simp [allTo, frames]]
        exact this
      clear hu hcl X1 X2 X3 c4 c6
      obtain ⟨i, hi, hz, hs', hb'⟩ := info_u8
      have HI := hid (And.intro hi (And.intro hz (And.intro hs' hb')))
      clear hi hz hs' hb'
      go_loopw [4, 30] (fun v iv wr => ∃ (k : Nat) (x : Value), x = v ∧ k ≤ l.waiting.length ∧ iv = .int .i64 (k : Int) ∧ SyncMid w0 wr ps b d l σ (.slice abv l.bytes.length cbv) rv (.slice aw l.waiting.length cw) x k) (fun _ iv _ => l.waiting.length - (intOf iv).toNat)
      case atStart => exact ⟨0, _, rfl, Nat.zero_le _, rfl, HM⟩
      case round =>
        obtain ⟨k, v, rfl, hk, rfl, hM⟩ := hrel
        clear HM c6'
        have HH := hid hM
        clear hM
        by_cases hlt : k < l.waiting.length
        · obtain ⟨r, hr⟩ : ∃ r, l.waiting[k]? = some r := ⟨_, List.getElem?_eq_getElem hlt⟩
          obtain ⟨g, cg, cur, e1, -⟩ := (St.sl HH.out 4 rfl).get (by omega)
          simp only [Value.slice.injEq] at e1
          obtain ⟨rfl, -, rfl⟩ := e1
          have ck : wr.cell? ⟨g, k, none⟩ = some (strV r) := sl_cells (St.sl HH.out 4 rfl) (by rw [List.getElem?_map, hr]; rfl)
          unfold strV at ck
          have hst := allTo_succ hr
          have hrl := HOK.out.waits r (List.mem_of_getElem? hr)
          have hl1 := hlen k
          have hl2 := hlen (k + 1)
          obtain ⟨z, hz⟩ : ∃ z : ByteArray, Hid ((⟨r.toArray⟩ : ByteArray) = z) := ⟨_, hid rfl⟩
          have hzr : z.data.toList = r := by rw [← hz.out, ba_mk]
          have hzs : z.size = r.length := by rw [ba_size, hzr]
          rw [hz.out] at ck
          have hfr := wal_frame z wr (hh.pres (St.pres HH.out)) (by omega)
          rw [hzr] at hfr
          obtain ⟨fz, hfz⟩ : ∃ fz : ByteArray, Hid ((⟨(frameB r).toArray⟩ : ByteArray) = fz) := ⟨_, hid rfl⟩
          rw [hfz.out] at hfr
          have hfl : fz.data.toList = frameB r := by rw [← hfz.out, ba_mk]
          have hfs : fz.size = (frameB r).length := by rw [ba_size, hfl]
          rw [hst, List.length_append] at hl2
          have hlt' : (k : Int) < (l.waiting.length : Int) := by omega
          have HN := hid (And.intro hst (And.intro hfl (And.intro hfs (And.intro hl2 hl1))))
          clear hst hfl hfs hl2 hl1 hzr hzs hr
          go_wp2_with (first
            | (go_at_call 95; refine hfr.mono ?_; rintro e w3 ⟨rfl, P3⟩; have H3 := hid (St.quiet HH.out P3); have X3 := St.sl H3.out 0 rfl)
            | ((with_reducible refine at_append ?_); go_must (refine wpL_app rfl (.tmp 34) (.tmp 36) 122 9 rfl 5 i _ 1 Tryz.underlying122 HI.out.1 HI.out.2.1 HI.out.2.2.1 rfl _ (allTo l k).length _ rfl X3 fz.size _ (Src.text Tryz.underlying9 fz) (by have := HN.out; simp only [maxLen]; omega) (by have := HN.out; rw [HI.out.2.2.2]; omega) ?_); intro v5 w5 Y1 Y2 Y3; have H5 := hid (St.grow H3.out 0 rfl Y1 Y2 Y3); clear Y1 Y2 Y3))
          go_roundw
          case rel =>
            refine ⟨k + 1, v5, rfl, by omega, by go_num, ?_⟩
            have := H5.out
            rw [HN.out.2.1, HN.out.2.2.1, ← List.length_append, ← List.map_append, ← HN.out.1] at this
            exact this
          case measure => first | (simp [intOf]; done) | (simp [intOf]; omega)
        · have ek : k = l.waiting.length := by omega
          have hend : ¬ (k : Int) < (l.waiting.length : Int) := by omega
          have HE := hid (show allTo l k = l.bytes ++ frames l.waiting by rw [ek]; exact allTo_all l)
          clear ek hlt
          have HA : St w0 wr (logP b d l :: diskP d σ :: slP v 5 1 (l.bytes ++ frames l.waiting).length ((l.bytes ++ frames l.waiting).map byteV) :: ps) := by
            have h1 := HH.out
            unfold SyncMid at h1
            rw [HE.out] at h1
            have h2 := log_close HOK.out ((((h1.pull 4 rfl).pull 4 rfl).pull 4 rfl).pull 4 rfl)
            exact (h2.pull 2 rfl).pull 1 rfl
          have hAl : (l.bytes ++ frames l.waiting).length ≤ 4194304 := by rw [List.length_append]; omega
          have hsync : l.sync σ = (if (layB l.base (l.bytes ++ frames l.waiting) (l.bytes.length / 64) σ).1 = 0 then
              (if (writeHead l.base l.epoch (l.bytes ++ frames l.waiting).length (layB l.base (l.bytes ++ frames l.waiting) (l.bytes.length / 64) σ).2).1 = 0 then
                (0, { l with bytes := l.bytes ++ frames l.waiting, recs := l.recs ++ l.waiting, waiting := [] }, (writeHead l.base l.epoch (l.bytes ++ frames l.waiting).length (layB l.base (l.bytes ++ frames l.waiting) (l.bytes.length / 64) σ).2).2)
              else ((writeHead l.base l.epoch (l.bytes ++ frames l.waiting).length (layB l.base (l.bytes ++ frames l.waiting) (l.bytes.length / 64) σ).2).1, { l with lost := true }, (writeHead l.base l.epoch (l.bytes ++ frames l.waiting).length (layB l.base (l.bytes ++ frames l.waiting) (l.bytes.length / 64) σ).2).2))
            else ((layB l.base (l.bytes ++ frames l.waiting) (l.bytes.length / 64) σ).1, { l with lost := true }, (layB l.base (l.bytes ++ frames l.waiting) (l.bytes.length / 64) σ).2)) := by
            simp only [Lg.sync, HLW.out.1, Bool.false_eq_true, if_false, if_neg HLW.out.2]
          have hpb := layB_pend l.base (l.bytes ++ frames l.waiting) (l.bytes.length / 64) σ
          generalize hA : l.bytes ++ frames l.waiting = A at *
          have hlay := log_lay HA (by omega) hAl
          have hF2 := hF.out
          rw [hsync] at hF2
          clear hsync HE HH hlen
          generalize layB l.base A (l.bytes.length / 64) σ = q1 at *
          obtain ⟨re, σ1⟩ := q1
          simp only [] at hlay hpb hF2
          have hl0 : ({ l with lost := decide ((0 : Int) ≠ 0) } : Lg) = l := by
            have := HLW.out.1
            cases l
            simp_all
          have HF := hid hF2
          have hpb2 : σ1.pend.length ≤ 900000000 := by omega
          clear hF2 hpb hF
          have hcase : re = 0 ∨ re ≠ 0 := Decidable.em _
          go_wp2_with fail
          refine hlay.mono ?_
          rintro en w3 ⟨rfl, H3⟩
          have hls := log_lose H3 HLW.out.1 re
          clear hlay HA
          rcases hcase with rfl | hre
          · rw [hl0] at hls
            have hF3 := HF.out
            rw [if_pos rfl] at hF3
            have HF := hid hF3
            clear hF3
            go_upto_region 15 with (go_at_call 96; refine hls.mono ?_; rintro en w4 ⟨rfl, H4⟩)
            have H4 := hid H4
            obtain ⟨bv4, rv4, wv4, -, HO4⟩ := log_open H4.out
            have c3 := (HO4.obj 0 rfl).cell 3
            simp only [logCells, List.getElem?_cons_succ, List.getElem?_cons_zero] at c3
            have hep := HOK.out.epoch
            have hwr := log_write hh H4.out l.epoch A.length (by omega) (by omega) (by omega)
            obtain ⟨av, cv, rfl, -, -⟩ := (H4.out.sl 2 rfl).shape
            generalize writeHead l.base l.epoch A.length σ1 = q2 at *
            obtain ⟨re2, σ2⟩ := q2
            simp only [] at hwr
            clear HO4 hls
            have hcase2 : re2 = 0 ∨ re2 ≠ 0 := Decidable.em _
            go_wp2_with fail
            refine hwr.mono ?_
            rintro en w5 ⟨rfl, H5⟩
            have hls2 := log_lose H5 HLW.out.1 re2
            clear hwr H4 c3
            rcases hcase2 with rfl | hre2
            · rw [hl0] at hls2
              have hF3 := HF.out
              simp only [if_true] at hF3
              subst hF3
              clear HF
              go_upto_region 18 with (go_at_call 96; refine hls2.mono ?_; rintro en w6 ⟨rfl, H6⟩)
              have HS := hid (show Lg.Ok { l with bytes := A, recs := l.recs ++ l.waiting, waiting := [] } by
                have h1 := HOK.out
                refine ⟨h1.two, h1.most, h1.base, h1.epoch, ?_, ?_, ?_, by simp⟩
                · simp only [frames, List.flatMap_nil, List.length_nil]
                  rw [← hA, List.length_append]
                  exact h1.fits
                · simp only [frames_append]
                  rw [← hA, h1.form]
                · intro r hr
                  rcases List.mem_append.1 hr with h | h
                  · exact h1.recs r h
                  · exact h1.waits r h)
              obtain ⟨bv6, rv6, wv6, -, HO6⟩ := log_open H6
              obtain ⟨arv, crv, rfl, -, -⟩ := (HO6.sl 2 rfl).shape
              obtain ⟨awv, cwv, rfl, -, -⟩ := (HO6.sl 3 rfl).shape
              have c5 := (HO6.obj 0 rfl).cell 5
              have c6 := (HO6.obj 0 rfl).cell 6
              simp only [logCells, List.getElem?_cons_succ, List.getElem?_cons_zero] at c5 c6
              have HO6 := hid HO6
              obtain ⟨j, hj, hjz, hjs, hjb⟩ := info_str
              have HJ := hid (And.intro hj (And.intro hjz (And.intro hjs hjb)))
              clear hj hjz hjs hjb H6 hls2
              refine wp_stages (by kernel_rfl) ?_
              refine wp_pures [(0, true), (1, true), (2, true), (3, true)] 18 rfl (by kernel_rfl) (by kernel_rfl) (by intro c a dd v w h; cases dd <;> exact h) ?_
              iterate 4 (refine wpOrd_read (v := _) rfl rfl (by intro w' hS; skip; clear hS; go_simp; rfl) ?_; (try simp only [Act.put, List.setIfInBounds_toArray, List.set_cons_succ, List.set_cons_zero, List.getElem_toArray, List.getElem_cons_succ, List.getElem_cons_zero]))
              refine wpOrd_end ?_
              have S0 : w6.drew.cell? ⟨b, 5, none⟩ = some (.slice arv l.recs.length crv) ∧ w6.drew.cell? ⟨b, 6, none⟩ = some (.slice awv l.waiting.length cwv) := ⟨c5, c6⟩
              refine wp_stage (fun W => W.cell? ⟨b, 5, none⟩ = some (.slice arv l.recs.length crv) ∧ W.cell? ⟨b, 6, none⟩ = some (.slice awv l.waiting.length cwv)) [(4, true), (5, true), (6, true), (7, true), (8, true), (9, true), (10, true), (11, true), (12, false)] 9 rfl (by kernel_rfl) (by intro c a dd v w h; cases dd <;> exact h) (S0) ?_
              iterate 8 (refine wpOrd_read (v := _) rfl rfl (by intro w' hS; obtain ⟨s1, s2⟩ := id hS; clear hS; go_simp; rfl) ?_; (try simp only [Act.put, List.setIfInBounds_toArray, List.set_cons_succ, List.set_cons_zero, List.getElem_toArray, List.getElem_cons_succ, List.getElem_cons_zero]))
              have HD := hid (St.drew HO6.out)
              generalize w6.drew = wd at *
              refine wpOrd_do rfl rfl (fun K hK => ?_)
              refine wp_app (.tmp 67) (.tmp 71) 91 91 rfl 9 j _ 1 Tryz.underlying91 HJ.out.1 HJ.out.2.1 HJ.out.2.2.1 rfl (.slice arv l.recs.length crv) l.recs.length _ rfl (St.sl HD.out 2 rfl) l.waiting.length _ (Src.sl Tryz.underlying91 (St.sl HD.out 3 rfl) (strs_one _)) (by simp only [maxLen]; omega) (by rw [HJ.out.2.2.2]; omega) ?_
              intro v7 w7 Y1 Y2 Y3
              have H7 := hid (St.grow HD.out 2 rfl Y1 Y2 Y3)
              obtain ⟨a7, cap7, rfl, -, -⟩ := Y1.shape
              have d5 := (St.obj H7.out 0 rfl).cell 5
              have d6 := (St.obj H7.out 0 rfl).cell 6
              have d4 := (St.obj H7.out 0 rfl).cell 4
              have g4 := (St.obj H7.out 0 rfl).frozen 4
              have g5 := (St.obj H7.out 0 rfl).frozen 5
              have g6 := (St.obj H7.out 0 rfl).frozen 6
              simp only [logCells, List.getElem?_cons_succ, List.getElem?_cons_zero] at d4 d5 d6
              refine hK _ _ ⟨⟨d5, d6⟩, ?_⟩
              clear hK K Y1 Y2 Y3 S0 c5 c6 HD
              (try simp only [Act.put, List.setIfInBounds_toArray, List.set_cons_succ, List.set_cons_zero, List.getElem_toArray, List.getElem_cons_succ, List.getElem_cons_zero])
              refine wpOrd_end ?_
              refine wp_stages_end 13 (by rfl) (by kernel_rfl) ?_
              simp only [List.drop_succ_cons, List.drop_zero]
              go_wp2
              go_ret
              refine ⟨rfl, ?_⟩
              have h1 := St.set (St.set (St.set H7.out 0 rfl 4 (.slice av A.length cv)) 0 rfl 5 (.slice a7 (l.recs.length + l.waiting.length) cap7)) 0 rfl 6 (.slice none 0 0)
              have h2 := (h1.pull 1 rfl).drop
              have h3 := (h2.pull 2 rfl).drop
              have h4 := (h3.pull 3 rfl).see (q := rdP (.slice av A.length cv) 5 (A.map byteV)) (fun fp h => ⟨h.1, Rd.of_sl h.2⟩)
              have h5 := h4.nil 9 1
              have h6 := ((h5.pull 3 rfl).pull 2 rfl).pull 3 rfl
              refine log_close HS.out (bv := .slice av A.length cv) (rv := .slice a7 (l.recs.length + l.waiting.length) cap7) (wv := .slice none 0 0) ?_
              simp only [List.length_append, List.map_append, List.length_nil, List.map_nil]
              exact h6
            · have hb0 : (re2 != 0) = true := by simpa using hre2
              have hF3 := HF.out
              simp only [if_neg hre2] at hF3
              subst hF3
              have hd : decide (re2 ≠ 0) = true := by simpa using hre2
              rw [hd] at hls2
              clear hre2 hd HF
              go_wp2_with (go_at_call 96; refine hls2.mono ?_; rintro en w6 ⟨rfl, H6⟩)
              go_ret
              exact ⟨rfl, (H6.pull 2 rfl).drop⟩
          · have hb0 : (re != 0) = true := by simpa using hre
            have hF3 := HF.out
            rw [if_neg hre] at hF3
            subst hF3
            have hd : decide (re ≠ 0) = true := by simpa using hre
            rw [hd] at hls
            clear hre hd HF
            go_wp2_with (go_at_call 96; refine hls.mono ?_; rintro en w4 ⟨rfl, H4⟩)
            go_ret
            exact ⟨rfl, (H4.pull 2 rfl).drop⟩
  · rw [hlost] at hu
    have e : l.sync σ = (10, l, σ) := by simp [Lg.sync, hlost]
    rw [e]
    have HX := hid H
    clear e hlost H HO ok hsyn hcn c4 c6 hw1 hw2
    go_enter Tryz.func58, Tryz.ntmps58
    go_wp2_with (go_at_call 93; refine (hu _ rfl).mono ?_; rintro e w' ⟨rfl, rfl⟩)
    go_ret
    exact ⟨rfl, HX.out⟩

theorem log_reset {w0 w : World} {ps : List HP} {b d : Nat} {l : Lg} {σ : Dk} (hh : HalfAt w0) (H : St w0 w (logP b d l :: diskP d σ :: ps)) (hroom : σ.pend.length ≤ 800000000) :
    Calls Tryz.prog 84 #[.pointer (some ⟨b, 0, none⟩)] w fun en w' => en = .returned (.int .i64 (l.reset σ).1) ∧ St w0 w' (logP b d (l.reset σ).2.1 :: diskP d (l.reset σ).2.2 :: ps) := by
  have hu := fun W (hW : W = w) => hW ▸ log_up H
  obtain ⟨bv, rv, wv, ok, HO⟩ := log_open H
  obtain ⟨aw, cw, rfl, hw1, hw2⟩ := (HO.sl 3 rfl).shape
  have c3 := (HO.obj 0 rfl).cell 3
  have c6 := (HO.obj 0 rfl).cell 6
  simp only [logCells, List.getElem?_cons_succ, List.getElem?_cons_zero] at c3 c6
  have hcn := ok.counts
  have hep := ok.epoch
  have HOK := hid ok
  have HX := hid H
  obtain ⟨F, hF⟩ : ∃ F, Hid (l.reset σ = F) := ⟨_, hid rfl⟩
  rw [hF.out]
  have hF2 := hF.out
  unfold Lg.reset at hF2
  unfold Lg.up at hu
  clear hF HO H ok
  cases hlost : l.lost
  · rw [hlost] at hu hF2
    simp only [Bool.false_eq_true, if_false] at hF2
    by_cases hwt : l.waiting = []
    · have h0 : l.waiting.length = 0 := by rw [hwt]; rfl
      rw [h0] at c6
      have hwq : ¬ l.waiting ≠ [] := by simpa using hwt
      rw [if_neg hwq] at hF2
      by_cases hmx : l.epoch = 2 ^ 62
      · rw [if_pos hmx] at hF2
        subst hF2
        have hei : ((l.epoch : Int) == 4611686018427387904) = true := by rw [beq_iff_eq]; omega
        clear hlost hwt h0 hcn hw1 hw2 hwq hmx
        go_enter Tryz.func84, Tryz.ntmps84
        go_wp2_with (go_at_call 93; refine (hu _ rfl).mono ?_; rintro e w' ⟨rfl, rfl⟩)
        go_ret
        exact ⟨rfl, HX.out⟩
      · rw [if_neg hmx] at hF2
        have hei : ((l.epoch : Int) == 4611686018427387904) = false := by rw [beq_eq_false_iff_ne]; omega
        have hlt : l.epoch < 2 ^ 62 := by omega
        have hwr := fun W (hW : W = w) => hW ▸ log_write hh HX.out (l.epoch + 1) 0 (by omega) (by omega) (by omega)
        have hle : (l.epoch : Int) < 4611686018427387904 := by omega
        generalize writeHead l.base (l.epoch + 1) 0 σ = q2 at *
        obtain ⟨re2, σ2⟩ := q2
        simp only [] at hwr hF2
        have hcast : ((l.epoch + 1 : Nat) : Int) = (l.epoch : Int) + 1 := by omega
        simp only [hcast] at hwr
        have hl0 : ({ l with lost := decide ((0 : Int) ≠ 0) } : Lg) = l := by
          cases l
          simp_all
        have HL := hid hlost
        have HF := hid hF2
        have HW := hid hwt
        have hcase2 : re2 = 0 ∨ re2 ≠ 0 := Decidable.em _
        clear hlost hwt h0 hcn hw1 hw2 hwq hmx hF2 hcast
        go_enter Tryz.func84, Tryz.ntmps84
        go_wp2_with (first | (go_at_call 93; refine (hu _ rfl).mono ?_; rintro e w' ⟨rfl, rfl⟩) | (go_at_call 98; refine (hwr _ rfl).mono ?_; rintro e w5 ⟨rfl, H5⟩) | fail)
        have hls2 := log_lose H5 HL.out re2
        clear hwr hu
        rcases hcase2 with rfl | hre2
        · rw [hl0] at hls2
          have hF3 := HF.out
          simp only [if_true] at hF3
          subst hF3
          clear HF
          have hlo := fun (w6 : World) (H6 : St w0 w6 (logP b d l :: diskP d σ2 :: ps)) => log_open H6
          refine hls2.mono ?_
          rintro en w6 ⟨rfl, H6⟩
          obtain ⟨bv6, rv6, wv6, -, HO6⟩ := log_open H6
          obtain ⟨awv, cwv, rfl, -, -⟩ := (HO6.sl 3 rfl).shape
          have d3 := (HO6.obj 0 rfl).cell 3
          have d4 := (HO6.obj 0 rfl).cell 4
          have d5 := (HO6.obj 0 rfl).cell 5
          have g3 := (HO6.obj 0 rfl).frozen 3
          have g4 := (HO6.obj 0 rfl).frozen 4
          have g5 := (HO6.obj 0 rfl).frozen 5
          simp only [logCells, List.getElem?_cons_succ, List.getElem?_cons_zero] at d3 d4 d5
          have HO6 := hid HO6
          have HS := hid (show Lg.Ok { l with epoch := l.epoch + 1, bytes := [], recs := [], lost := false } by
            have h1 := HOK.out
            exact ⟨h1.two, h1.most, h1.base, by simp only []; omega, by simp [HW.out, frames], by simp [frames], by simp, h1.waits⟩)
          clear H6 hls2 hlo c3 c6
          go_wp2
          go_ret
          refine ⟨rfl, ?_⟩
          have h1 := St.set (St.set (St.set HO6.out 0 rfl 3 (.int .i64 ((l.epoch : Int) + 1))) 0 rfl 4 (.slice none 0 0)) 0 rfl 5 (.slice none 0 0)
          have h2 := (h1.pull 1 rfl).drop
          have h3 := (h2.pull 1 rfl).drop
          have h4 := h3.nil 9 1
          have h5 := (h4.nil 5 1).see (q := rdP (.slice none 0 0) 5 []) (fun fp h => ⟨h.1, Rd.of_sl h.2⟩)
          have h6 := h5.pull 2 rfl
          have hcast : ((l.epoch + 1 : Nat) : Int) = (l.epoch : Int) + 1 := by omega
          refine log_close HS.out (bv := .slice none 0 0) (rv := .slice none 0 0) (wv := .slice awv l.waiting.length cwv) ?_
          simp only [logCells] at h6 ⊢
          rw [HL.out] at h6
          simp only [hcast]
          exact h6
        · have hb0 : (re2 != 0) = true := by simpa using hre2
          have hF3 := HF.out
          simp only [if_neg hre2] at hF3
          subst hF3
          have hd : decide (re2 ≠ 0) = true := by simpa using hre2
          rw [hd] at hls2
          clear hre2 hd HF
          refine hls2.mono ?_
          rintro en w6 ⟨rfl, H6⟩
          go_wp2
          go_ret
          exact ⟨rfl, H6⟩
    · have hwq : l.waiting ≠ [] := hwt
      rw [if_pos hwq] at hF2
      subst hF2
      have hwl : 0 < l.waiting.length := List.length_pos_iff.2 hwt
      have hwli : 0 < (l.waiting.length : Int) := by omega
      clear hlost hwt hcn hw1 hw2 hwq
      go_enter Tryz.func84, Tryz.ntmps84
      go_wp2_with (go_at_call 93; refine (hu _ rfl).mono ?_; rintro e w' ⟨rfl, rfl⟩)
      go_ret
      exact ⟨rfl, HX.out⟩
  · rw [hlost] at hu hF2
    simp only [if_true] at hF2
    subst hF2
    clear hlost hcn hw1 hw2 c3 c6
    go_enter Tryz.func84, Tryz.ntmps84
    go_wp2_with (go_at_call 93; refine (hu _ rfl).mono ?_; rintro e w' ⟨rfl, rfl⟩)
    go_ret
    exact ⟨rfl, HX.out⟩

end Go.Proofs.YtnffnpndnaofhaaGreatDoor
