/- Parts of the proof: A log's write, lay, Sync, Reset: each comes to what Lg says of it and of the disk; conditions stand in the theorems. -/
import Derived.Test.YtnffnpndnaofhaaGreatDoorQal

/- A log's write, lay, Sync, Reset: each comes to what Lg says of it and of the disk; conditions stand in the theorems. -/
namespace Go.Proofs.YtnffnpndnaofhaaGreatDoor
open Go.RowKit
set_option maxRecDepth 20000

theorem ba_list (l : List UInt8) : (⟨l.toArray⟩ : ByteArray).data.toList = l := ba_mk l

theorem Dk.does_pend (σ : Dk) : σ.does.2.pend = σ.pend := (Dk.does_kept σ).2

theorem Dk.write_pend (σ : Dk) (i : Int) (s : List UInt8) : (σ.write i s).2.pend.length ≤ σ.pend.length + 1 := by
  unfold Dk.write
  split
  · exact Nat.le_succ _
  split
  · split
    · exact Nat.le_succ _
    split
    · simp [Dk.put, Dk.does_pend]
    · simp [Dk.does_pend]
  · exact Nat.le_succ _

theorem log_write {w0 w : World} {ps : List HP} {b d : Nat} {l : Lg} {σ : Dk} (hh : HalfAt w0) (H : St w0 w (logP b d l :: diskP d σ :: ps)) (e n : Nat) (he : e < 2 ^ 63) (hn : n < 2 ^ 63) (hroom : σ.pend.length ≤ 1000000000) :
    Calls Tryz.prog 98 #[.pointer (some ⟨b, 0, none⟩), .int .i64 (e : Int), .int .i64 (n : Int)] w fun en w' => en = .returned (.int .i64 (writeHead l.base e n σ).1) ∧ St w0 w' (logP b d l :: diskP d (writeHead l.base e n σ).2 :: ps) := by
  have HX := hid H
  obtain ⟨bv, rv, wv, ok, H⟩ := log_open H
  have c0 := (H.obj 0 rfl).cell 0
  have c1 := (H.obj 0 rfl).cell 1
  simp only [logCells, List.getElem?_cons_succ, List.getElem?_cons_zero] at c0 c1
  have hb := ok.base
  have hbi : (l.base : Int) ≤ 65536 := by omega
  have HH := hid hh
  clear H ok hh
  obtain ⟨z, hz⟩ : ∃ z : ByteArray, Hid (z = ⟨(headB e n).toArray⟩) := ⟨_, hid rfl⟩
  have hzl : z.data.toList = headB e n := by rw [hz.out, ba_mk]
  have hhd := fun W (hW : HalfAt W) => wal_head e n W hW he hn
  rw [← hz.out] at hhd
  unfold writeHead
  rw [← hzl]
  clear hzl hz he hn hb
  generalize hq : σ.write (l.base : Int) z.data.toList = q at *
  have hwr := fun W (h : St w0 W (diskP d σ :: logP b d l :: ps)) => sd_write h (l.base : Int) z hroom
  rw [hq] at hwr
  clear hq
  obtain ⟨qe, τ⟩ := q
  simp only [] at hwr ⊢
  have hfl := fun W (h : St w0 W (diskP d τ :: logP b d l :: ps)) => sd_flush h
  generalize τ.flush = fl at *
  obtain ⟨fe, ρ⟩ := fl
  simp only [] at hfl ⊢
  by_cases h0 : qe = 0
  all_goals
    first | rw [if_pos h0] | rw [if_neg h0]
    have hbq : (qe != 0) = decide (qe ≠ 0) := by by_cases h : qe = 0 <;> simp [h]
    have hbd : decide (qe ≠ 0) = false ∨ decide (qe ≠ 0) = true := by by_cases h : qe = 0 <;> simp [h]
    go_enter Tryz.func98, Tryz.ntmps98
    go_upto_region 1 with (fail)
    refine wp_stages (by kernel_rfl) ?_
    have S0 : w.drew.cell? ⟨b, 0, none⟩ = some (.pointer (some ⟨d, 0, none⟩)) ∧ w.drew.cell? ⟨b, 1, none⟩ = some (.int .i64 (l.base : Int)) := ⟨c0, c1⟩
    refine wp_stage (fun W => W.cell? ⟨b, 0, none⟩ = some (.pointer (some ⟨d, 0, none⟩)) ∧ W.cell? ⟨b, 1, none⟩ = some (.int .i64 (l.base : Int))) [(0, true), (1, true), (2, true), (3, true), (4, true), (5, true), (6, true), (7, true), (8, true), (9, true), (10, false)] 2 rfl (by kernel_rfl) (by intro c a dd v w h; cases dd <;> exact h) (S0) ?_
    iterate 10 (refine wpOrd_read (v := _) rfl rfl (by intro w' hS; obtain ⟨s1, s2⟩ := id hS; clear hS; go_simp; rfl) ?_; (try simp only [Act.put, List.setIfInBounds_toArray, List.set_cons_succ, List.set_cons_zero, List.getElem_toArray, List.getElem_cons_succ, List.getElem_cons_zero]))
    have HD := hid HX.out.drew
    generalize w.drew = wd at *
    refine wpOrd_do rfl rfl (fun K hK => ?_)
    go_simp
    refine (hhd _ (HH.out.pres HD.out.pres)).mono ?_
    rintro en w2 ⟨rfl, P2⟩
    refine hK _ _ ⟨⟨P2.cell S0.1 (by simp), P2.cell S0.2 (by simp)⟩, ?_⟩
    clear hK K
    (try simp only [Act.put, List.setIfInBounds_toArray, List.set_cons_succ, List.set_cons_zero, List.getElem_toArray, List.getElem_cons_succ, List.getElem_cons_zero])
    have H2 := hid ((HD.out.quiet P2).pull 1 rfl)
    clear HD P2 S0
    refine wpOrd_end ?_
    refine wp_stages_end 11 (by rfl) (by kernel_rfl) ?_
    simp only [List.drop_succ_cons, List.drop_zero]
    go_wp2_with fail
    refine (hwr _ H2.out).mono ?_
    rintro en w3 ⟨rfl, H3⟩
    have H3 := hid H3
    clear H2
    have c0' := ((log_open (H3.out.pull 1 rfl)).choose_spec.choose_spec.choose_spec.2.obj 0 rfl).cell 0
    simp only [logCells, List.getElem?_cons_zero] at c0'
    first
      | (have hb0 : (qe != 0) = true := by simpa using h0
         clear h0 hbq hbd
         go_wp2
         go_ret
         exact ⟨rfl, H3.out.pull 1 rfl⟩)
      | (subst h0
         clear hbq hbd
         go_wp2_with (go_at_call 83; refine (hfl _ H3.out).mono ?_; rintro en w4 ⟨rfl, H4⟩)
         go_ret
         exact ⟨rfl, H4.pull 1 rfl⟩)

/-! lay -/
theorem run_bytes_op {P : Program} {w : World} {o : Oper} {a : Act} {src dst e : TypeId} {x : Operand} (ho : o.op = .convert src dst x) (hs : P.underlying src = some (.slice e)) (he : P.underlying e = some (.int .u8)) (hd : P.underlying dst = some .string)
    {b off len cap : Nat} (hx : a.eval x = .slice (some ⟨b, off, none⟩) len cap) {bs : List UInt8} (hl : bs.length = len) (hc : ∀ j u, (bs.map byteV)[j]? = some u → w.cell? ⟨b, off + j, none⟩ = some u) :
    (execOp a.eval o).run P w = .ok (.value (.string ⟨bs.toArray⟩)) w := by
  have hr := run_bytes_string (P := P) (w := w) (src := src) (dst := dst) hs he hd (b := b) (off := off) (len := len) (cap := cap) hl (fun j u hj => by rw [addr_add]; exact hc j u hj)
  unfold execOp
  simp only [ho, hx, Sem.run_bind, Sem.run_pure, Result.andThen_ok, hr]

theorem layN_done {base : Nat} {all : List UInt8} {k : Nat} {σ : Dk} (h : ¬ 64 * k < all.length) : ∀ f, layN base all f k σ = (0, σ)
  | 0 => rfl
  | f + 1 => by unfold layN; rw [if_neg h]

theorem layN_succ {base : Nat} {all : List UInt8} {k f : Nat} {σ : Dk} (h : 64 * k < all.length) : layN base all (f + 1) k σ = if (σ.write ((base : Int) + 1 + (k : Int)) ((all.drop (64 * k)).take 64)).1 = 0 then layN base all f (k + 1) (σ.write ((base : Int) + 1 + (k : Int)) ((all.drop (64 * k)).take 64)).2 else σ.write ((base : Int) + 1 + (k : Int)) ((all.drop (64 * k)).take 64) := by
  rw [layN, if_pos h, show ((base + 1 + k : Nat) : Int) = (base : Int) + 1 + (k : Int) by omega]

/-- The state at the head of a round: all that is to come is R. -/
structure LayMid (w0 wr : World) (ps : List HP) (b d : Nat) (l : Lg) (v : Value) (all : List UInt8) (R : Int × Dk) (k m : Nat) : Prop where
  st : ∃ τ f, St w0 wr (logP b d l :: diskP d τ :: slP v 5 1 all.length (all.map byteV) :: ps) ∧ layN l.base all f k τ = R ∧ all.length / 64 + 1 ≤ f + k ∧ τ.pend.length ≤ m + k

theorem log_lay {w0 w : World} {ps : List HP} {b d : Nat} {l : Lg} {σ : Dk} {v : Value} {all : List UInt8} (H : St w0 w (logP b d l :: diskP d σ :: slP v 5 1 all.length (all.map byteV) :: ps)) (hroom : σ.pend.length ≤ 900000000) (hall : all.length ≤ 4194304) :
    Calls Tryz.prog 97 #[.pointer (some ⟨b, 0, none⟩), v] w fun en w' => en = .returned (.int .i64 (layB l.base all (l.bytes.length / 64) σ).1) ∧ St w0 w' (logP b d l :: diskP d (layB l.base all (l.bytes.length / 64) σ).2 :: slP v 5 1 all.length (all.map byteV) :: ps) := by
  have HM : LayMid w0 w ps b d l v all (layN l.base all (all.length / 64 + 1) (l.bytes.length / 64) σ) (l.bytes.length / 64) σ.pend.length := ⟨σ, _, H, rfl, by omega, by omega⟩
  obtain ⟨bv, rv, wv, ok, H'⟩ := log_open H
  obtain ⟨abv, cbv, rfl, -, -⟩ := (H'.rd 1 rfl).shape
  rw [List.length_map] at H'
  have c4 := (H'.obj 0 rfl).cell 4
  simp only [logCells, List.getElem?_cons_succ, List.getElem?_cons_zero] at c4
  obtain ⟨ao, cap, rfl, hcap, hcmax⟩ := (H.sl 2 rfl).shape
  have hcn := ok.counts.2.1
  have hbase := ok.base
  have hcm : cap ≤ 9223372036854775807 := by simp only [maxLen] at hcmax; omega
  clear H H' hcmax ok
  unfold layB
  generalize layN l.base all (all.length / 64 + 1) (l.bytes.length / 64) σ = R at *
  obtain ⟨re, ρ⟩ := R
  simp only []
  obtain ⟨F, hF⟩ : ∃ F, Hid ((if re = 0 then ρ.flush else (re, ρ)) = F) := ⟨_, hid rfl⟩
  rw [hF.out]
  have hk0 : l.bytes.length / 64 ≤ 65536 := by omega
  obtain ⟨k0, hk0d⟩ : ∃ k0, l.bytes.length / 64 = k0 := ⟨_, rfl⟩
  rw [hk0d] at HM hk0
  have hdiv : (l.bytes.length : Int) / 64 = (k0 : Int) := by omega
  clear hk0d
  go_enter Tryz.func97, Tryz.ntmps97
  go_wp2_with fail
  go_loopw [5] (fun iv wr => ∃ k : Nat, k ≤ 70000 ∧ iv = .int .i64 ((k : Int) * 64) ∧ LayMid w0 wr ps b d l (.slice ao all.length cap) all (re, ρ) k σ.pend.length) (fun iv _ => all.length - (intOf iv).toNat)
  case atStart => exact ⟨k0, by omega, rfl, HM⟩
  case round =>
    obtain ⟨k, hk, rfl, ⟨τ, f, hS, hR, hf, hp⟩⟩ := hrel
    clear HM c4
    obtain ⟨bv2, rv2, wv2, -, hO⟩ := log_open hS
    have c0 := (hO.obj 0 rfl).cell 0
    have c1 := (hO.obj 0 rfl).cell 1
    simp only [logCells, List.getElem?_cons_succ, List.getElem?_cons_zero] at c0 c1
    by_cases hlt : 64 * k < all.length
    · have hlt' : (k : Int) * 64 < (all.length : Int) := by omega
      obtain ⟨g, cg, cur, e1, hg, -, -, -, htake⟩ := (hS.sl 2 rfl).get (by omega)
      simp only [Value.slice.injEq] at e1
      obtain ⟨rfl, -, rfl⟩ := e1
      obtain ⟨hi, hhi⟩ : ∃ hi : Nat, hi = min (64 * k + 64) all.length := ⟨_, rfl⟩
      have hmin : min ((k : Int) * 64 + 64) (all.length : Int) = (hi : Int) := by omega
      have h1 : (k : Int) * 64 ≤ (hi : Int) := by omega
      have h2 : (hi : Int) ≤ (all.length : Int) := by omega
      have h3 : (all.length : Int) ≤ (cap : Int) := by omega
      have hk2 : (k : Int) ≤ 70000 := by omega
      obtain ⟨cnt, hcnt⟩ : ∃ cnt, hi - k * 64 = cnt := ⟨_, rfl⟩
      obtain ⟨bs, hbs⟩ : ∃ bs, Hid ((all.drop (64 * k)).take 64 = bs) := ⟨_, hid rfl⟩
      have hbl : bs.length = cnt := by rw [← hbs.out, List.length_take, List.length_drop]; omega
      have hcell : ∀ j u, (bs.map byteV)[j]? = some u → wr.cell? ⟨g, k * 64 + j, none⟩ = some u := by
        intro j u hj
        have hjl : j < cnt := by have := (List.getElem?_eq_some_iff.1 hj).1; rw [List.length_map] at this; omega
        refine sl_cells (hS.sl 2 rfl) ?_
        rw [List.getElem?_map] at hj ⊢
        rw [← hj]
        congr 1
        rw [← hbs.out, List.getElem?_take, if_pos (by omega), List.getElem?_drop, Nat.mul_comm]
      have HC := hid hcell
      have HS := hid hS
      clear hO hS hcell htake hg hhi
      have w1 : IntKind.i64.wrap ((l.base : Int) + 1) = (l.base : Int) + 1 := by rw [IntKind.wrap_i64]; omega
      have w2 : IntKind.i64.wrap ((l.base : Int) + 1 + (k : Int)) = (l.base : Int) + 1 + (k : Int) := by rw [IntKind.wrap_i64]; omega
      have w3 : IntKind.i64.wrap (k : Int) = (k : Int) := by rw [IntKind.wrap_i64]; omega
      have w4 : (k : Int) * 64 / 64 = (k : Int) := by omega
      go_upto_region 5 with (fail)
      refine wp_stages (by kernel_rfl) ?_
      have S0 : wr.drew.cell? ⟨b, 0, none⟩ = some (.pointer (some ⟨d, 0, none⟩)) ∧ wr.drew.cell? ⟨b, 1, none⟩ = some (.int .i64 (l.base : Int)) ∧ ∀ j u, (bs.map byteV)[j]? = some u → wr.drew.cell? ⟨g, k * 64 + j, none⟩ = some u := ⟨c0, c1, HC.out⟩
      refine wp_stage (fun W => W.cell? ⟨b, 0, none⟩ = some (.pointer (some ⟨d, 0, none⟩)) ∧ W.cell? ⟨b, 1, none⟩ = some (.int .i64 (l.base : Int)) ∧ ∀ j u, (bs.map byteV)[j]? = some u → W.cell? ⟨g, k * 64 + j, none⟩ = some u) [(0, true), (1, true), (2, true), (3, true), (4, true), (5, true), (6, true), (7, true), (8, true), (9, true), (10, true), (11, true), (12, true), (13, true)] 2 rfl (by kernel_rfl) (by intro c a dd v w h; cases dd <;> exact h) (S0) ?_
      iterate 13 (refine wpOrd_read (v := _) rfl rfl (by intro w' hS; obtain ⟨s1, s2, -⟩ := id hS; clear hS; go_simp; rfl) ?_; (try simp only [Act.put, List.setIfInBounds_toArray, List.set_cons_succ, List.set_cons_zero, List.getElem_toArray, List.getElem_cons_succ, List.getElem_cons_zero]))
      refine wpOrd_read (v := .string ⟨bs.toArray⟩) rfl rfl (by intro w' hS; exact run_bytes_op rfl Tryz.underlying122 Tryz.underlying5 Tryz.underlying9 rfl hbl hS.2.2) ?_
      (try simp only [Act.put, List.setIfInBounds_toArray, List.set_cons_succ, List.set_cons_zero, List.getElem_toArray, List.getElem_cons_succ, List.getElem_cons_zero])
      refine wpOrd_end ?_
      refine wp_stages_end 14 (by rfl) (by kernel_rfl) ?_
      simp only [List.drop_succ_cons, List.drop_zero]
      have HD := hid (HS.out.drew.pull 1 rfl)
      generalize wr.drew = wd at *
      clear S0 HS c0 c1 w1 w2 w3
      obtain ⟨z, hz⟩ : ∃ z : ByteArray, (⟨bs.toArray⟩ : ByteArray) = z := ⟨_, rfl⟩
      have hzl : z.data.toList = bs := by rw [← hz, ba_mk]
      rw [hz]
      have hwr := sd_write HD.out ((l.base : Int) + 1 + (k : Int)) z (by omega)
      rw [hzl] at hwr
      have hstep : layN l.base all f k τ = if (τ.write ((l.base : Int) + 1 + (k : Int)) bs).1 = 0 then layN l.base all (f - 1) (k + 1) (τ.write ((l.base : Int) + 1 + (k : Int)) bs).2 else τ.write ((l.base : Int) + 1 + (k : Int)) bs := by
        obtain ⟨f', rfl⟩ : ∃ f', f = f' + 1 := ⟨f - 1, by omega⟩
        rw [layN_succ hlt, hbs.out]
        rfl
      have hpw := Dk.write_pend τ ((l.base : Int) + 1 + (k : Int)) bs
      rw [hR] at hstep
      generalize τ.write ((l.base : Int) + 1 + (k : Int)) bs = q at *
      obtain ⟨qe, τ2⟩ := q
      simp only [] at hstep hwr hpw
      have HN := hid (And.intro hstep hpw)
      clear hstep hpw hz hzl hR
      go_wp2_with fail
      refine hwr.mono ?_
      rintro en w3 ⟨rfl, H3⟩
      have H3 := hid (H3.pull 1 rfl)
      clear HD hwr
      by_cases h0 : qe = 0
      · subst h0
        go_wp2
        go_roundw
        case rel =>
          obtain ⟨hst, hpp⟩ := HN.out
          exact ⟨k + 1, by omega, by go_num, ⟨τ2, f - 1, H3.out, by simpa using hst.symm, by omega, by omega⟩⟩
        case measure => simp [intOf]; omega
      · have hb0 : (qe != 0) = true := by simpa using h0
        have HN0 := hid h0
        clear h0
        go_wp2
        go_ret
        obtain ⟨hst, hpp⟩ := HN.out
        rw [if_neg HN0.out] at hst
        cases hst
        have e := hF.out
        rw [if_neg HN0.out] at e
        subst e
        exact ⟨rfl, H3.out⟩
    · have hlt' : ¬ (k : Int) * 64 < (all.length : Int) := by omega
      rw [layN_done hlt] at hR
      cases hR
      have HD := hid (hS.pull 1 rfl)
      clear hO hS
      have hfl := sd_flush HD.out
      go_wp2_with (go_at_call 83; refine hfl.mono ?_; rintro en w4 ⟨rfl, H4⟩)
      go_ret
      have e : ρ.flush = F := by simpa using hF.out
      subst e
      exact ⟨rfl, H4.pull 1 rfl⟩

end Go.Proofs.YtnffnpndnaofhaaGreatDoor
