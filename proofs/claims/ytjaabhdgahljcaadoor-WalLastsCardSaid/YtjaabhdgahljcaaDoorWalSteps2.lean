/- aquiferlaw08.steps: adds, syncs and resets on a healthy disk are answered as they ought to be; it tells what was synced; whatever comes in. -/
import Derived.Test.YtjaabhdgahljcaaDoorWalSteps
namespace Go.Proofs.YtjaabhdgahljcaaDoor
open Go.RowKit
set_option maxRecDepth 100000

theorem StepOk.reset {σ : Dk} {l : Lg} {k : Nat} (h : StepOk σ l k) (hk : k < 1000) (hw : l.waiting = []) : (l.reset σ).1 = 0 ∧ (l.reset σ).2.1 = l.fresh ∧ StepOk (l.reset σ).2.2 l.fresh (k + 1) := by
  have hl : (l.reset σ).2.2.kept.length = σ.kept.length := by
    have := reset_len σ l
    exact this
  have he := h.epoch
  rcases reset_run h.sat hw (by omega) with ⟨h1, h2, h3, h4⟩ | ⟨h0, -⟩
  · exact ⟨h1, h2, h3, by rw [h4, h.armed], h.base, h.n, by simp only [Lg.fresh]; omega, by rw [hl, h.len]⟩
  · rw [h.armed] at h0; cases h0

theorem StepOk.add {σ : Dk} {l : Lg} {k : Nat} (h : StepOk σ l k) (r : List UInt8) (hr : r.length ≤ 100) :
    ((8 + r.length : Int) ≤ l.room ∧ l.add r = (0, { l with waiting := l.waiting ++ [r] }) ∧ StepOk σ { l with waiting := l.waiting ++ [r] } k) ∨ (l.room < (8 + r.length : Int) ∧ l.add r = (7, l)) := by
  have hok := Lg.add_ok h.sat.log r
  by_cases hf : l.room < (8 + r.length : Int)
  · refine .inr ⟨hf, ?_⟩
    unfold Lg.add
    rw [h.sat.lost, if_neg (by simp), if_neg (by omega), if_pos (by omega)]
  · have e : l.add r = (0, { l with waiting := l.waiting ++ [r] }) := by
      unfold Lg.add
      rw [h.sat.lost, if_neg (by simp), if_neg (by omega), if_neg (by omega)]
    rw [e] at hok
    refine .inl ⟨by omega, e, ⟨⟨h.sat.ok, hok, h.sat.lost, h.sat.down, h.sat.pend, h.sat.room, ⟨h.sat.fits.head, h.sat.fits.data⟩⟩, h.armed, h.base, h.n, h.epoch, h.len⟩⟩

theorem cut_extract (s : ByteArray) (m M : Nat) (h : M = min m s.size) : (s.extract 0 M).data.toList = s.data.toList.take m := by
  subst h
  rw [ba_take, List.drop_zero]
  rcases Nat.le_total m s.size with h | h
  · rw [Nat.min_eq_left h]
  · rw [Nat.min_eq_right h, List.take_of_length_le (by rw [← ba_size]; omega), List.take_of_length_le (by rw [← ba_size]; omega)]

/-- What holds at the head of a round. -/
def StepMid (w0 wr : World) (ps : List HP) (b d : Nat) (σ : Dk) (l : Lg) (rv wv : Value) : Prop :=
  St w0 wr (slP rv 9 1 l.recs.length (l.recs.map strV) :: slP wv 9 1 l.waiting.length (l.waiting.map strV) :: logP b d l :: diskP d σ :: ps)

set_option maxHeartbeats 8000000 in
theorem steps_ok {w0 w : World} {ps : List HP} {b d : Nat} {σ : Dk} {l : Lg} (hh : HalfAt w0) (H : St w0 w (logP b d l :: diskP d σ :: ps)) (ok : StepOk σ l 0) (hr0 : l.recs = []) (hw0 : l.waiting = []) (v : Value) (acts : List ActD) (ha : ActsAt w0 v acts) (most : Nat) (hm : most ≤ 1000) :
    Calls Tryd.prog 22 #[.pointer (some ⟨b, 0, none⟩), v, .int .i64 (most : Int)] w fun e w' => ∃ (l' : Lg) (σ' : Dk) (rv : Value), e = .returned (.tuple #[rv, .bool true]) ∧ StepOk σ' l' most ∧ St w0 w' (slP rv 9 1 l'.recs.length (l'.recs.map strV) :: logP b d l' :: diskP d σ' :: ps) := by
  obtain ⟨am, capm, em, hm1, hm2, -⟩ := id ha.1
  rw [List.length_map] at em hm1
  subst em
  have hmax : acts.length ≤ 9223372036854775807 := by simp only [maxLen] at hm2; omega
  have HA := hid ha
  have HM : StepMid w0 w ps b d σ l (.slice none 0 0) (.slice none 0 0) := by
    have h1 := (H.nil 9 1).nil 9 1
    unfold StepMid
    rw [hr0, hw0]
    exact h1
  clear H ha hm1 hm2 hr0 hw0
  go_enter Tryd.func22, Tryd.ntmps22
  go_wp2_with fail
  go_loopw [8, 9, 10] (fun rv wv iv wr => ∃ (k : Nat) (l : Lg) (σ : Dk), k ≤ most ∧ iv = .int .i64 (k : Int) ∧ StepOk σ l k ∧ StepMid w0 wr ps b d σ l rv wv) (fun _ _ iv _ => most - (intOf iv).toNat)
  case atStart => exact ⟨0, l, σ, Nat.zero_le _, rfl, ok, HM⟩
  case round =>
    obtain ⟨k, l, σ, hk, rfl, hok, hM⟩ := hrel
    clear HM ok
    have HH := hid hM
    have HOK := hid hok
    clear hM hok
    obtain ⟨arv, crv, rfl, -, -⟩ := (St.sl HH.out 0 rfl).shape
    obtain ⟨awv, cwv, rfl, -, -⟩ := (St.sl HH.out 1 rfl).shape
    by_cases hlt : k < acts.length ∧ k < most
    · obtain ⟨hlt, hkm⟩ := hlt
      have hl1 : (k : Int) < (acts.length : Int) := by omega
      have hl2 : (k : Int) < (most : Int) := by omega
      obtain ⟨a, ha⟩ : ∃ a, acts[k]? = some a := ⟨_, List.getElem?_eq_getElem hlt⟩
      have hok : a.Ok w0 := HA.out.2 a (List.mem_of_getElem? ha)
      obtain ⟨g, off, capb, eb, -, -, hcb, hbw⟩ := HA.out.get ha
      simp only [Value.slice.injEq] at eb
      obtain ⟨rfl, -, rfl⟩ := eb
      have c0 : wr.cell? ⟨g, off + k * 4 + 0, none⟩ = some (.int .i64 a.kind) := (St.pres HH.out).cell (hcb 0 _ rfl) (by simp)
      have c2 : wr.cell? ⟨g, off + k * 4 + 2, none⟩ = some (.string a.s) := (St.pres HH.out).cell (hcb 2 _ rfl) (by simp)
      rw [Nat.add_zero] at c0
      obtain ⟨M, hM⟩ : ∃ M : Nat, M = min 100 a.s.size := ⟨_, rfl⟩
      have hM1 : min (a.s.size : Int) 100 = (M : Int) := by omega
      have hM2 : (M : Int) ≤ (a.s.size : Int) := by omega
      have hM3 : (a.s.size : Int) ≤ 9223372036854775807 := by have := hok.s; simp only [maxLen] at this; omega
      have hxl := cut_extract a.s 100 M hM
      have hxs : (a.s.extract 0 M).size = M := by rw [ByteArray.size_extract]; omega
      have hM100 : M ≤ 100 := by omega
      clear hok hcb ha hM
      go_upto_region 5 with (fail)
      refine wp_stages (by kernel_rfl) ?_
      have S0 : wr.drew.cell? ⟨g, off + k * 4 + 2, none⟩ = some (.string a.s) := c2
      refine wp_stage (fun W => W.cell? ⟨g, off + k * 4 + 2, none⟩ = some (.string a.s)) [(0, true), (1, true), (2, true), (3, true), (4, true), (5, true), (6, true), (7, true), (8, true), (9, true), (10, true), (11, true)] 2 rfl (by kernel_rfl) (by intro c a dd v w h; cases dd <;> exact h) (S0) ?_
      iterate 12 (refine wpOrd_read (v := _) rfl rfl (by intro w' hS; have hs1 := hS; clear hS; go_simp; rfl) ?_; (try simp only [Act.put, List.setIfInBounds_toArray, List.set_cons_succ, List.set_cons_zero, List.getElem_toArray, List.getElem_cons_succ, List.getElem_cons_zero]))
      refine wpOrd_end ?_
      refine wp_stages_end 12 (by rfl) (by kernel_rfl) ?_
      simp only [List.drop_succ_cons, List.drop_zero]
      have c0' : wr.drew.cell? ⟨g, off + k * 4, none⟩ = some (.int .i64 a.kind) := c0
      have HD := hid (St.drew HH.out)
      generalize wr.drew = wd at *
      clear S0 c0 c2 HH
      clear hM1
      go_upto_region 6 with fail
      generalize a.s.extract 0 M = x at *
      have HXL := hid hxl
      have hxl100 : x.data.toList.length ≤ 100 := by rw [← ba_size]; omega
      have HXN := hid hxl100
      clear hxl hM2 hM3 hxl100
      obtain ⟨rec, hrec⟩ : ∃ rec, Hid (x.data.toList = rec) := ⟨_, hid rfl⟩
      obtain ⟨j, hj, hjz, hjs, hjb⟩ := info_str
      have HJ := hid (And.intro hj (And.intro hjz (And.intro hjs hjb)))
      clear hj hjz hjs hjb
      have hcn := hid (Lg.Ok.counts HOK.out.sat.log)
      by_cases k0 : a.kind = 0
      · have e0 : (a.kind == 0) = true := by simpa using k0
        have hroom := log_room (HD.out.pull 2 rfl)
        have hadd := HOK.out.add rec (by rw [← hrec.out]; exact HXN.out)
        obtain ⟨q, hq⟩ : ∃ q : Int, Hid (l.room = q) := ⟨_, hid rfl⟩
        rw [hq.out] at hroom hadd
        have hrl : rec.length = M := by rw [← hrec.out, ← ba_size]; exact hxs
        rw [hrl] at hadd
        clear k0 hrl
        rcases hadd with ⟨f1, f2, f3⟩ | ⟨f1, f2⟩
        · have f1' : (M : Int) + 8 ≤ q := by omega
          have F2 := hid f2
          have F3 := hid f3
          clear f1 f2 f3
          go_wp2_with (first
            | (go_at_call 21; refine hroom.mono ?_; rintro e w2 ⟨rfl, P2⟩; have H2 := hid (St.quiet HD.out P2); have hadd2 := log_add (H2.out.pull 2 rfl) x (by simp only [maxLen]; omega); rw [hrec.out, F2.out] at hadd2)
            | (go_at_call 11; refine hadd2.mono ?_; rintro e w3 ⟨rfl, H3⟩; have H3 := hid H3; have A3 := At.new w3 [.string x] 9; have H4 := hid (St.quiet H3.out ((Pres.refl [] w3).alloc (.cells #[.string x] 9))); have X3 := St.sl H4.out 2 rfl)
            | ((with_reducible refine at_append ?_); go_must (refine wpL_app rfl (.tmp 69) (.tmp 71) 31 31 rfl 9 j _ 1 Tryd.underlying31 HJ.out.1 HJ.out.2.1 HJ.out.2.2.1 rfl (.slice awv l.waiting.length cwv) l.waiting.length _ rfl X3 1 [.string x] (Src.at Tryd.underlying31 A3 rfl (by simp [Value.oneCell'])) (by have := hcn.out; simp only [maxLen]; omega) (by have := hcn.out; rw [HJ.out.2.2.2]; omega) ?_); intro v5 w5 Y1 Y2 Y3; have H5 := hid (St.grow H4.out 2 rfl Y1 Y2 Y3); clear Y1 Y2 Y3))
          go_roundw
          case rel =>
            refine ⟨k + 1, _, σ, by omega, by go_num, F3.out.more (by omega), ?_⟩
            have e1 : strV rec = .string x := by rw [← hrec.out]; exact congrArg Value.string (ba_ext (ba_mk _))
            unfold StepMid
            simp only [List.length_append, List.length_cons, List.length_nil, List.map_append, List.map_cons, List.map_nil, e1]
            exact (H5.out.pull 2 rfl).pull 2 rfl
          case measure => first | (simp [intOf]; done) | (simp [intOf]; omega)
        · have f1' : ¬ (M : Int) + 8 ≤ q := by omega
          have F2 := hid f2
          clear f1 f2
          go_wp2_with (first
            | (go_at_call 21; refine hroom.mono ?_; rintro e w2 ⟨rfl, P2⟩; have H2 := hid (St.quiet HD.out P2); have hadd2 := log_add (H2.out.pull 2 rfl) x (by simp only [maxLen]; omega); rw [hrec.out, F2.out] at hadd2)
            | (go_at_call 11; refine hadd2.mono ?_; rintro e w3 ⟨rfl, H3⟩; have H3 := hid H3))
          go_roundw
          case rel => exact ⟨k + 1, l, σ, by omega, by go_num, HOK.out.more (by omega), (H3.out.pull 1 rfl).pull 2 rfl |>.pull 1 rfl⟩
          case measure => first | (simp [intOf]; done) | (simp [intOf]; omega)
      have e0 : (a.kind == 0) = false := by simpa using k0
      clear k0
      have HL := hid ((HD.out.pull 2 rfl).pull 3 rfl |>.pull 1 rfl)
      have hpe : σ.pend.length ≤ 800000000 := by rw [HOK.out.sat.pend]; simp
      by_cases k1 : a.kind = 1
      · have e1 : (a.kind == 1) = true := by simpa using k1
        have hs := HOK.out.sync
        have hc := log_sync hh HL.out hpe
        rw [hs.1, hs.2.1] at hc
        have HS := hid hs.2.2
        generalize (l.sync σ).2.2 = τ at *
        clear k1 hs hpe
        go_wp2_with (first
          | (go_at_call 12; refine hc.mono ?_; rintro e w3 ⟨rfl, H3⟩; have H3 := hid H3; have X3 := St.sl H3.out 2 rfl; have X4 := St.sl H3.out 3 rfl)
          | ((with_reducible refine at_append ?_); go_must (refine wpL_app rfl (.tmp 78) (.tmp 79) 31 31 rfl 9 j _ 1 Tryd.underlying31 HJ.out.1 HJ.out.2.1 HJ.out.2.2.1 rfl (.slice arv l.recs.length crv) l.recs.length _ rfl X3 l.waiting.length _ (Src.sl Tryd.underlying31 X4 (strs_one _)) (by have := hcn.out; simp only [maxLen]; omega) (by have := hcn.out; rw [HJ.out.2.2.2]; omega) ?_); intro v5 w5 Y1 Y2 Y3; have H5 := hid (St.grow H3.out 2 rfl Y1 Y2 Y3); clear Y1 Y2 Y3))
        go_roundw
        case rel =>
          refine ⟨k + 1, l.synced, τ, by omega, by go_num, HS.out.more (by omega), ?_⟩
          unfold StepMid
          have h1 := ((H5.out.pull 3 rfl).drop.nil 9 1).pull 3 rfl
          simp only [Lg.synced, List.length_append, List.map_append, List.length_nil, List.map_nil]
          exact h1
        case measure => first | (simp [intOf]; done) | (simp [intOf]; omega)
      have e1 : (a.kind == 1) = false := by simpa using k1
      clear k1
      by_cases k2 : a.kind = 2
      · have e2 : (a.kind == 2) = true := by simpa using k2
        have hc := log_reset hh HL.out hpe
        by_cases hw : l.waiting = []
        · have hwl : ((l.waiting.length : Int) == 0) = true := by rw [hw]; rfl
          have hs := HOK.out.reset (by omega) hw
          rw [hs.1, hs.2.1] at hc
          have HS := hid hs.2.2
          have HW := hid hw
          generalize (l.reset σ).2.2 = τ at *
          clear k2 hs hpe hw
          go_wp2_with (go_at_call 18; refine hc.mono ?_; rintro e w3 ⟨rfl, H3⟩; have H3 := hid H3)
          go_roundw
          case rel =>
            refine ⟨k + 1, l.fresh, τ, by omega, by go_num, HS.out, ?_⟩
            unfold StepMid
            have h1 := ((H3.out.pull 2 rfl).drop.nil 9 1)
            have h2 := (h1.pull 3 rfl).pull 1 rfl
            simp only [Lg.fresh, List.length_nil, List.map_nil]
            exact h2
          case measure => first | (simp [intOf]; done) | (simp [intOf]; omega)
        · have hwp : 0 < l.waiting.length := List.length_pos_iff.2 hw
          have hwl : ((l.waiting.length : Int) == 0) = false := by rw [beq_eq_false_iff_ne]; omega
          have e : l.reset σ = (9, l, σ) := by simp [Lg.reset, HOK.out.sat.lost, hw]
          rw [e] at hc
          clear k2 hpe hw e
          go_wp2_with (go_at_call 18; refine hc.mono ?_; rintro e w3 ⟨rfl, H3⟩; have H3 := hid H3)
          go_roundw
          case rel => exact ⟨k + 1, l, σ, by omega, by go_num, HOK.out.more (by omega), (H3.out.pull 3 rfl).pull 3 rfl⟩
          case measure => first | (simp [intOf]; done) | (simp [intOf]; omega)
      · have e2 : (a.kind == 2) = false := by simpa using k2
        clear k2 hpe
        go_wp2_with fail
        go_roundw
        case rel => exact ⟨k + 1, l, σ, by omega, by go_num, HOK.out.more (by omega), HD.out⟩
        case measure => first | (simp [intOf]; done) | (simp [intOf]; omega)
    · have fin : ∃ (l' : Lg) (σ' : Dk), StepOk σ' l' most ∧ St w0 wr (slP (.slice arv l.recs.length crv) 9 1 l'.recs.length (l'.recs.map strV) :: logP b d l' :: diskP d σ' :: ps) :=
        ⟨l, σ, HOK.out.more hk, (St.pull HH.out 1 rfl).drop⟩
      have FIN := hid fin
      clear fin
      by_cases hlt1 : k < acts.length
      · have hl1 : (k : Int) < (acts.length : Int) := by omega
        have hl2 : ¬ (k : Int) < (most : Int) := by omega
        clear hlt HH
        go_wp2_with fail
        go_ret2
        obtain ⟨l', σ', h1, h2⟩ := FIN.out
        exact ⟨l', σ', _, rfl, h1, h2⟩
      · have hl1 : ¬ (k : Int) < (acts.length : Int) := by omega
        clear hlt HH
        go_wp2_with fail
        go_ret2
        obtain ⟨l', σ', h1, h2⟩ := FIN.out
        exact ⟨l', σ', _, rfl, h1, h2⟩

end Go.Proofs.YtjaabhdgahljcaaDoor
