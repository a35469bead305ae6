/- A log's Add and Records; slices.Clone; conditions stand in the theorems. -/
import Derived.Test.YtjaabhdgahljcaaDoorWalB
namespace Go.Proofs.YtjaabhdgahljcaaDoor
open Go.RowKit
set_option maxRecDepth 20000

theorem info_str : ∃ i, Tryd.prog.info? 9 = some i ∧ i.zero = some (.string ⟨#[]⟩) ∧ i.size = 1 ∧ i.bytes = 16 := by
  have h : (Tryd.prog.info? 9).map (fun i => (i.zero, i.size, i.bytes)) = some (some (.string ⟨#[]⟩), 1, 16) := by kernel_rfl
  cases hq : Tryd.prog.info? 9 with
  | none => simp [hq] at h
  | some i => exact ⟨i, rfl, by simpa [hq] using h⟩

theorem clone_bytes (w : World) (v : Value) (xs : List Value) (hv : Reads w v xs) (h1 : ∀ u ∈ xs, u.oneCell' = true) (hx : xs.length ≤ 1000000000) :
    Calls Tryd.prog 44 #[v] w fun e w' => ∃ v', e = .returned v' ∧ Sl w' 5 1 v' xs.length xs ∧ Pres [] w w' ∧ (∀ k ∈ fpv v', w.heap.size ≤ k) := by
  obtain ⟨i, hi, hz, hs, hb⟩ := info_u8
  have HI := hid (And.intro hi (And.intro hz (And.intro hs hb)))
  clear hi hz hs hb
  have HV := hid hv
  have hnl : ∀ (w : World) (a : Option Addr) (n c n' c' : Nat), (binOp .eql 43 (.slice a n c) (.slice none n' c')).run Tryd.prog w = .ok (.bool a.isNone) w := fun w a n c n' c' => Lib.run_eql_slice_nil w _ _ a n c n' c' Tryd.underlying43
  obtain ⟨ao, cap, rfl, hc1, hc2, hr⟩ := hv
  cases ao with
  | none =>
    have hnil : xs = [] := by
      cases xs with
      | nil => rfl
      | cons x xs => obtain ⟨b, off, e, -⟩ := hr 0 x rfl; cases e
    subst hnil
    clear hr hc1 hc2
    go_enter Tryd.func44, Tryd.ntmps44
    go_wp2
    go_ret
    exact ⟨_, rfl, Sl.nil _ _ _, Pres.refl _ _, by simp [fpv]⟩
  | some ad =>
    clear hr hc1 hc2
    have HX := hid h1
    have S0 : Sl (w.alloc (.cells #[] 5)) 5 1 (.slice (some ⟨w.heap.size, 0, none⟩) 0 0) 0 [] := ⟨rfl, .inr ⟨_, 0, [], rfl, At.new w [] _, Nat.le_refl _, by simp [maxLen], rfl, rfl⟩⟩
    have P0 := (Pres.refl [] w).alloc (.cells #[] 5)
    have HS := hid (HV.out.pres P0 (by simp))
    clear h1 HV
    go_enter Tryd.func44, Tryd.ntmps44
    go_wp2_with (((with_reducible refine at_append ?_); go_must (refine wpL_app rfl (.tmp 5) (.tmp 6) 43 43 rfl 5 i _ 1 Tryd.underlying43 HI.out.1 HI.out.2.1 HI.out.2.2.1 rfl (.slice (some ⟨w.heap.size, 0, none⟩) 0 0) 0 [] rfl S0 xs.length xs (Src.reads Tryd.underlying43 HS.out HX.out) (by simp only [maxLen]; omega) (by rw [HI.out.2.2.2]; omega) ?_); intro v' w2 X1 X2 X3; simp only [Nat.zero_add, List.nil_append] at X1))
    go_ret
    refine ⟨_, rfl, X1, P0.trans X2 (by intro x hx; simp [fpv] at hx; right; omega), fun k hk => ?_⟩
    rcases X3 k hk with h | h
    · simp [fpv] at h; omega
    · simp at h; omega


theorem clone_strings (w : World) (v : Value) (xs : List Value) (hv : Reads w v xs) (h1 : ∀ u ∈ xs, u.oneCell' = true) (hx : xs.length ≤ 1000000000) :
    Calls Tryd.prog 50 #[v] w fun e w' => ∃ v', e = .returned v' ∧ Sl w' 9 1 v' xs.length xs ∧ Pres [] w w' ∧ (∀ k ∈ fpv v', w.heap.size ≤ k) := by
  obtain ⟨i, hi, hz, hs, hb⟩ := info_str
  have HI := hid (And.intro hi (And.intro hz (And.intro hs hb)))
  clear hi hz hs hb
  have HV := hid hv
  have hnl : ∀ (w : World) (a : Option Addr) (n c n' c' : Nat), (binOp .eql 31 (.slice a n c) (.slice none n' c')).run Tryd.prog w = .ok (.bool a.isNone) w := fun w a n c n' c' => Lib.run_eql_slice_nil w _ _ a n c n' c' Tryd.underlying31
  obtain ⟨ao, cap, rfl, hc1, hc2, hr⟩ := hv
  cases ao with
  | none =>
    have hnil : xs = [] := by
      cases xs with
      | nil => rfl
      | cons x xs => obtain ⟨b, off, e, -⟩ := hr 0 x rfl; cases e
    subst hnil
    clear hr hc1 hc2
    go_enter Tryd.func50, Tryd.ntmps50
    go_wp2
    go_ret
    exact ⟨_, rfl, Sl.nil _ _ _, Pres.refl _ _, by simp [fpv]⟩
  | some ad =>
    clear hr hc1 hc2
    have HX := hid h1
    have S0 : Sl (w.alloc (.cells #[] 9)) 9 1 (.slice (some ⟨w.heap.size, 0, none⟩) 0 0) 0 [] := ⟨rfl, .inr ⟨_, 0, [], rfl, At.new w [] _, Nat.le_refl _, by simp [maxLen], rfl, rfl⟩⟩
    have P0 := (Pres.refl [] w).alloc (.cells #[] 9)
    have HS := hid (HV.out.pres P0 (by simp))
    clear h1 HV
    go_enter Tryd.func50, Tryd.ntmps50
    go_wp2_with (((with_reducible refine at_append ?_); go_must (refine wpL_app rfl (.tmp 5) (.tmp 6) 31 31 rfl 9 i _ 1 Tryd.underlying31 HI.out.1 HI.out.2.1 HI.out.2.2.1 rfl (.slice (some ⟨w.heap.size, 0, none⟩) 0 0) 0 [] rfl S0 xs.length xs (Src.reads Tryd.underlying31 HS.out HX.out) (by simp only [maxLen]; omega) (by rw [HI.out.2.2.2]; omega) ?_); intro v' w2 X1 X2 X3; simp only [Nat.zero_add, List.nil_append] at X1))
    go_ret
    refine ⟨_, rfl, X1, P0.trans X2 (by intro x hx; simp [fpv] at hx; right; omega), fun k hk => ?_⟩
    rcases X3 k hk with h | h
    · simp [fpv] at h; omega
    · simp at h; omega

theorem strs_one (l : List (List UInt8)) : ∀ u ∈ l.map strV, u.oneCell' = true := by
  intro u hu
  obtain ⟨x, -, rfl⟩ := List.mem_map.1 hu
  rfl

theorem Lg.Ok.counts {l : Lg} (ok : l.Ok) : 8 * l.recs.length ≤ l.bytes.length ∧ l.bytes.length ≤ 4194304 ∧ l.waiting.length ≤ 4194304 := by
  have h1 := frames_eight l.recs
  have h2 := frames_eight l.waiting
  have h3 := ok.fits
  have h4 := ok.most
  rw [← ok.form] at h1
  omega

theorem log_records {w0 w : World} {ps : List HP} {b d : Nat} {l : Lg} (H : St w0 w (logP b d l :: ps)) :
    Calls Tryd.prog 15 #[.pointer (some ⟨b, 0, none⟩)] w fun e w' => ∃ v, e = .returned v ∧ St w0 w' (slP v 9 1 l.recs.length (l.recs.map strV) :: logP b d l :: ps) ∧ Pres [] w w' := by
  have hn := fun W (hW : W = w) => hW ▸ log_none H
  have HX := hid H
  obtain ⟨bv, rv, wv, ok, H⟩ := log_open H
  have c5 := (H.obj 0 rfl).cell 5
  simp only [logCells, List.getElem?_cons_succ, List.getElem?_cons_zero] at c5
  have hc := ok.counts
  have hcl := fun W (hW : W = w) => hW ▸ clone_strings w rv _ (H.sl 2 rfl).reads (strs_one _) (by rw [List.length_map]; omega)
  simp only [List.length_map] at hcl
  clear H ok hc
  go_enter Tryd.func15, Tryd.ntmps15
  go_wp2_with (first | (go_at_call 49; refine (hn _ rfl).mono ?_; rintro e w' ⟨rfl, rfl⟩) | (go_at_call 50; refine (hcl _ rfl).mono ?_; rintro e w2 ⟨v', rfl, X1, X2, X3⟩))
  go_ret
  exact ⟨v', rfl, HX.out.slice X1 X2 X3, X2⟩

theorem log_add {w0 w : World} {ps : List HP} {b d : Nat} {l : Lg} (H : St w0 w (logP b d l :: ps)) (s : ByteArray) (hs : s.size ≤ maxLen) :
    Calls Tryd.prog 11 #[.pointer (some ⟨b, 0, none⟩), .string s] w fun e w' => e = .returned (.int .i64 (l.add s.data.toList).1) ∧ St w0 w' (logP b d (l.add s.data.toList).2 :: ps) := by
  have hu := fun W (hW : W = w) => hW ▸ log_up H
  have hr := fun W (hW : W = w) => hW ▸ log_room H
  have HX := hid H
  obtain ⟨bv, rv, wv, ok, H⟩ := log_open H
  have hok := Lg.add_ok ok s.data.toList
  have hl : s.data.toList.length = s.size := by simp
  have hcn := ok.counts
  have hroom := Lg.room_eq ok
  have hfit := ok.fits
  have hmost := ok.most
  have HH := hid (And.intro hok H)
  unfold maxLen at hs
  clear H hok ok
  unfold Lg.up at hu
  cases hlost : l.lost
  · rw [hlost] at hu
    by_cases hlong : 65536 < s.size
    · have e : l.add s.data.toList = (3, l) := by simp only [Lg.add, hlost, hl, if_pos hlong, Bool.false_eq_true, if_false]
      rw [e]
      have hlong' : 65536 < (s.size : Int) := by omega
      clear e hlost hl hlong HH hcn hroom hfit hmost hr
      go_enter Tryd.func11, Tryd.ntmps11
      go_wp2_with (go_at_call 43; refine (hu _ rfl).mono ?_; rintro e w' ⟨rfl, rfl⟩)
      go_ret
      exact ⟨rfl, HX.out⟩
    · have hlong' : ¬ 65536 < (s.size : Int) := by omega
      obtain ⟨q, hq⟩ : ∃ q : Int, Hid (l.room = q) := ⟨_, hid rfl⟩
      rw [hq.out] at hroom hr
      by_cases hfull : (8 + s.size : Int) > q
      · have e : l.add s.data.toList = (7, l) := by
          simp only [Lg.add, hlost, hl, if_neg hlong, hq.out, if_pos hfull, Bool.false_eq_true, if_false]
        rw [e]
        have hfull' : q < 8 + (s.size : Int) := by omega
        clear e hlost hl hlong HH hcn hroom hfit hmost hfull
        go_enter Tryd.func11, Tryd.ntmps11
        go_wp2_with (first | (go_at_call 43; refine (hu _ rfl).mono ?_; rintro e w' ⟨rfl, rfl⟩) | (go_at_call 21; refine (hr _ rfl).mono ?_; rintro e w2 ⟨rfl, P2⟩))
        go_ret
        exact ⟨rfl, HX.out.quiet P2⟩
      · have e : l.add s.data.toList = (0, { l with waiting := l.waiting ++ [s.data.toList] }) := by
          simp only [Lg.add, hlost, hl, if_neg hlong, hq.out, if_neg hfull, Bool.false_eq_true, if_false]
        rw [e] at HH ⊢
        have hfull' : ¬ q < 8 + (s.size : Int) := by omega
        obtain ⟨i, hi, hz, hs', hb'⟩ := info_str
        have HI := hid (And.intro hi (And.intro hz (And.intro hs' hb')))
        have hwl : l.waiting.length ≤ 4194304 := by omega
        clear e hlost hl hlong hcn hroom hfit hmost hfull hi hz hs' hb'
        go_enter Tryd.func11, Tryd.ntmps11
        go_wp2_with (first
          | (go_at_call 43; refine (hu _ rfl).mono ?_; rintro e w' ⟨rfl, rfl⟩)
          | (go_at_call 21; refine (hr _ rfl).mono ?_; rintro e w2 ⟨rfl, P2⟩; have H2 := hid (HH.out.2.quiet P2); have c6 := (H2.out.obj 0 rfl).cell 6; have hL := (H2.out.obj 0 rfl).lt; simp only [logCells, List.getElem?_cons_succ, List.getElem?_cons_zero] at c6; have A3 := At.new w2 [.string s] 9; have H3 := hid (H2.out.quiet ((Pres.refl [] w2).alloc (.cells #[.string s] 9))); have X3 := H3.out.sl 3 rfl)
          | ((with_reducible refine at_append ?_); go_must (refine wpL_app rfl (.tmp 26) (.tmp 28) 31 31 rfl 9 i _ 1 Tryd.underlying31 HI.out.1 HI.out.2.1 HI.out.2.2.1 rfl _ l.waiting.length _ rfl X3 1 [.string s] (Src.at Tryd.underlying31 A3 rfl (by simp [Value.oneCell'])) (by simp only [maxLen]; omega) (by rw [HI.out.2.2.2]; omega) ?_); intro v5 w5 Y1 Y2 Y3; have H5 := hid (H3.out.grow 3 rfl Y1 Y2 Y3); obtain ⟨ao5, cap5, rfl, -, -⟩ := Y1.shape; have f5 := (H5.out.obj 0 rfl).frozen 6; have c5 := (H5.out.obj 0 rfl).cell 6; simp only [logCells, List.getElem?_cons_succ, List.getElem?_cons_zero] at c5; clear Y1 Y2 Y3))
        go_ret
        refine ⟨rfl, log_close HH.out.1 (bv := bv) (rv := rv) (wv := .slice ao5 (l.waiting.length + 1) cap5) ?_⟩
        have H6 := H5.out.set 0 rfl 6 (.slice ao5 (l.waiting.length + 1) cap5)
        have e1 : strV s.data.toList = .string s := congrArg Value.string (ba_ext (ba_mk _))
        simp only [List.length_append, List.length_cons, List.length_nil, List.map_append, List.map_cons, List.map_nil, e1]
        exact H6
  · rw [hlost] at hu
    have e : l.add s.data.toList = (10, l) := by simp [Lg.add, hlost]
    rw [e]
    clear e hlost hl HH hcn hroom hfit hmost hr
    go_enter Tryd.func11, Tryd.ntmps11
    go_wp2_with (go_at_call 43; refine (hu _ rfl).mono ?_; rintro e w' ⟨rfl, rfl⟩)
    go_ret
    exact ⟨rfl, HX.out⟩

end Go.Proofs.YtjaabhdgahljcaaDoor
