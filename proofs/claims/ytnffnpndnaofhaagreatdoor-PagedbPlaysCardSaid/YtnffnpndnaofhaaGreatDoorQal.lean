/- Parts of the proof: A log in memory, and its methods that leave the disk alone: each comes to what Lg says; conditions stand in the theorems. -/
import Derived.Test.YtnffnpndnaofhaaGreatDoorQaj
import Derived.Test.YtnffnpndnaofhaaGreatDoorQak

/- A log in memory, and its methods that leave the disk alone: each comes to what Lg says; conditions stand in the theorems. -/
namespace Go.Proofs.YtnffnpndnaofhaaGreatDoor
open Go.RowKit
set_option maxRecDepth 20000

/-- Slice v reads as xs, and owns its block; it may be longer behind. -/
def Rd (w : World) (E : TypeId) (v : Value) (xs : List Value) : Prop :=
  (v = .slice none 0 0 ∧ xs = []) ∨ ∃ g cap cur, v = .slice (some ⟨g, 0, none⟩) xs.length cap ∧ At w g cur E ∧ xs.length ≤ cap ∧ cap ≤ maxLen ∧ cur.take xs.length = xs

theorem Rd.lt {w : World} {E : TypeId} {v : Value} {xs : List Value} (h : Rd w E v xs) : ∀ k ∈ fpv v, k < w.heap.size := by
  intro k hk
  rcases h with ⟨rfl, _⟩ | ⟨g, cap, cur, rfl, hg, _⟩
  · simp [fpv] at hk
  · simp [fpv] at hk; subst hk; exact hg.lt

theorem Rd.keep {w w' : World} {E : TypeId} {v : Value} {xs : List Value} (h : Rd w E v xs) (hk : ∀ k ∈ fpv v, w'.heap[k]? = w.heap[k]?) : Rd w' E v xs := by
  rcases h with h1 | ⟨g, cap, cur, rfl, hg, h2⟩
  · exact .inl h1
  · exact .inr ⟨g, cap, cur, rfl, hg.keep (hk g (by simp [fpv])), h2⟩

theorem Rd.reads {w : World} {E : TypeId} {v : Value} {xs : List Value} (h : Rd w E v xs) : Reads w v xs := by
  rcases h with ⟨rfl, rfl⟩ | ⟨g, cap, cur, rfl, hg, h1, h2, h3⟩
  · exact Reads.nil w
  · refine ⟨_, cap, rfl, h1, h2, fun j x hj => ⟨g, 0, rfl, ?_⟩⟩
    rw [Nat.zero_add, hg.cell]
    rw [← h3, List.getElem?_take] at hj
    split at hj
    · exact hj
    · cases hj

theorem Rd.of_sl {w : World} {E : TypeId} {v : Value} {n : Nat} {xs : List Value} (h : Sl w E 1 v n xs) : Rd w E v xs := by
  have hl : xs.length = n := by have := h.1; omega
  rcases h.2 with ⟨rfl, rfl⟩ | ⟨g, cap, cur, rfl, hg, h1, h2, h3, h4⟩
  · exact .inl ⟨rfl, List.eq_nil_of_length_eq_zero hl⟩
  · exact .inr ⟨g, cap, cur, by rw [hl], hg, by omega, h2, by rw [hl]; simpa using h4⟩

def rdP (v : Value) (E : TypeId) (xs : List Value) : HP where
  at' w fp := fp = fpv v ∧ Rd w E v xs
  lt := by rintro w fp ⟨rfl, h⟩ k hk; exact h.lt k hk
  keep := by rintro w w' fp ⟨rfl, h⟩ hk; exact ⟨rfl, h.keep hk⟩

theorem St.rd {w0 w : World} {ps : List HP} (H : St w0 w ps) (i : Nat) {v : Value} {E : TypeId} {xs : List Value} (h : ps[i]? = some (rdP v E xs)) : Rd w E v xs := by
  obtain ⟨f, ⟨-, h1⟩, -⟩ := H.get i h
  exact h1

theorem Rd.shape {w : World} {E : TypeId} {v : Value} {xs : List Value} (h : Rd w E v xs) : ∃ ao cap, v = .slice ao xs.length cap ∧ xs.length ≤ cap ∧ cap ≤ maxLen := by
  obtain ⟨ao, cap, rfl, h1, h2, -⟩ := h.reads
  exact ⟨ao, cap, rfl, h1, h2⟩

/-- The struct's own cells. -/
def logCells (d : Nat) (bv rv wv : Value) (l : Lg) : List Value :=
  [.pointer (some ⟨d, 0, none⟩), .int .i64 (l.base : Int), .int .i64 (l.n : Int), .int .i64 (l.epoch : Int), bv, rv, wv, .bool l.lost]

/-- The log at block b over the disk at block d. -/
def logP (b d : Nat) (l : Lg) : HP := exP fun v : Value × Value × Value => ifP l.Ok (sepP (objP b (logCells d v.1 v.2.1 v.2.2 l) 124) (sepP (rdP v.1 5 (l.bytes.map byteV)) (sepP (slP v.2.1 9 1 l.recs.length (l.recs.map strV)) (slP v.2.2 9 1 l.waiting.length (l.waiting.map strV)))))

section
variable {w0 w : World} {ps : List HP} {b d : Nat} {l : Lg}

theorem log_open (H : St w0 w (logP b d l :: ps)) : ∃ bv rv wv, l.Ok ∧ St w0 w (objP b (logCells d bv rv wv l) 124 :: rdP bv 5 (l.bytes.map byteV) :: slP rv 9 1 l.recs.length (l.recs.map strV) :: slP wv 9 1 l.waiting.length (l.waiting.map strV) :: ps) := by
  obtain ⟨⟨bv, rv, wv⟩, H⟩ := H.ex
  obtain ⟨ok, H⟩ := H.fact
  have H1 := (H.split.pull 1 rfl).split
  have H2 := (H1.pull 1 rfl).split
  exact ⟨bv, rv, wv, ok, ((H2.pull 2 rfl).pull 3 rfl)⟩

theorem log_close {bv rv wv : Value} (ok : l.Ok) (H : St w0 w (objP b (logCells d bv rv wv l) 124 :: rdP bv 5 (l.bytes.map byteV) :: slP rv 9 1 l.recs.length (l.recs.map strV) :: slP wv 9 1 l.waiting.length (l.waiting.map strV) :: ps)) : St w0 w (logP b d l :: ps) := by
  refine St.any (bv, rv, wv) (St.with ok ?_)
  have H1 := (((H.pull 3 rfl).pull 3 rfl).join)
  have H2 := (H1.pull 2 rfl).join
  exact (H2.pull 1 rfl).join
end

theorem log_none {w0 w : World} {ps : List HP} {b d : Nat} {l : Lg} (H : St w0 w (logP b d l :: ps)) :
    Calls Tryz.prog 80 #[.pointer (some ⟨b, 0, none⟩)] w fun e w' => e = .returned (.bool false) ∧ w = w' := by
  obtain ⟨bv, rv, wv, -, H⟩ := log_open H
  have c0 := (H.obj 0 rfl).cell 0
  simp only [logCells, List.getElem?_cons_zero] at c0
  clear H
  go_enter Tryz.func80, Tryz.ntmps80
  go_wp2
  go_ret
  exact ⟨rfl, rfl⟩

theorem log_up {w0 w : World} {ps : List HP} {b d : Nat} {l : Lg} (H : St w0 w (logP b d l :: ps)) :
    Calls Tryz.prog 93 #[.pointer (some ⟨b, 0, none⟩)] w fun e w' => e = .returned (.int .i64 l.up) ∧ w = w' := by
  have hn := fun W (hW : W = w) => hW ▸ log_none H
  obtain ⟨bv, rv, wv, -, H⟩ := log_open H
  have c7 := (H.obj 0 rfl).cell 7
  simp only [logCells, List.getElem?_cons_succ, List.getElem?_cons_zero] at c7
  clear H
  unfold Lg.up
  cases hl : l.lost
  all_goals
    rw [hl] at c7
    clear hl
    go_enter Tryz.func93, Tryz.ntmps93
    go_wp2_with (go_at_call 80; refine (hn _ rfl).mono ?_; rintro e w' ⟨rfl, rfl⟩)
    go_ret
    exact ⟨rfl, rfl⟩

/-- lose: an error loses the log. -/
theorem log_lose {w0 w : World} {ps : List HP} {b d : Nat} {l : Lg} (H : St w0 w (logP b d l :: ps)) (hl : l.lost = false) (e : Int) :
    Calls Tryz.prog 96 #[.pointer (some ⟨b, 0, none⟩), .int .i64 e] w fun en w' => en = .returned (.int .i64 e) ∧ St w0 w' (logP b d { l with lost := decide (e ≠ 0) } :: ps) := by
  obtain ⟨bv, rv, wv, ok, H⟩ := log_open H
  have c7 := (H.obj 0 rfl).cell 7
  have f7 := (H.obj 0 rfl).frozen 7
  simp only [logCells, List.getElem?_cons_succ, List.getElem?_cons_zero] at c7
  rw [hl] at c7
  have ok' : Lg.Ok { l with lost := decide (e ≠ 0) } := ⟨ok.two, ok.most, ok.base, ok.epoch, ok.fits, ok.form, ok.recs, ok.waits⟩
  have HH := hid (And.intro ok' H)
  clear H ok ok'
  by_cases h0 : e = 0
  · have hb : (e != 0) = false := by simp [h0]
    have hd : decide (e ≠ 0) = false := by simp [h0]
    have HD := hid hd
    clear h0 hd
    go_enter Tryz.func96, Tryz.ntmps96
    go_wp2
    go_ret
    refine ⟨rfl, log_close HH.out.1 (bv := bv) (rv := rv) (wv := wv) ?_⟩
    have H1 := HH.out.2.set 0 rfl 7 (.bool false)
    rw [HD.out]
    exact H1
  · have hb : (e != 0) = true := by simp [h0]
    have hd : decide (e ≠ 0) = true := by simp [h0]
    have HD := hid hd
    clear h0 hd
    go_enter Tryz.func96, Tryz.ntmps96
    go_wp2
    go_ret
    refine ⟨rfl, log_close HH.out.1 (bv := bv) (rv := rv) (wv := wv) ?_⟩
    have H1 := HH.out.2.set 0 rfl 7 (.bool true)
    rw [HD.out]
    exact H1

/-! Room -/
def sumTo (l : Lg) (k : Nat) : Nat := (frames (l.waiting.take k)).length

theorem sumTo_succ {l : Lg} {k : Nat} {r : List UInt8} (h : l.waiting[k]? = some r) : sumTo l (k + 1) = sumTo l k + (8 + r.length) := by
  unfold sumTo
  rw [List.take_add_one, h]
  simp [frames_append, frames, length_frameB]

theorem sumTo_le (l : Lg) (k : Nat) : sumTo l k ≤ (frames l.waiting).length := by
  have : frames l.waiting = frames (l.waiting.take k) ++ frames (l.waiting.drop k) := by rw [← frames_append, List.take_append_drop]
  rw [this, List.length_append]
  unfold sumTo
  omega

theorem log_room {w0 w : World} {ps : List HP} {b d : Nat} {l : Lg} (H : St w0 w (logP b d l :: ps)) :
    Calls Tryz.prog 55 #[.pointer (some ⟨b, 0, none⟩)] w fun e w' => e = .returned (.int .i64 l.room) ∧ Pres [] w w' := by
  have hn := fun W (hW : W = w) => hW ▸ log_none H
  obtain ⟨bv, rv, wv, ok, H⟩ := log_open H
  obtain ⟨abv, cbv, rfl, -, -⟩ := (H.rd 1 rfl).shape
  obtain ⟨ao, cap, rfl, -, -⟩ := (H.sl 3 rfl).shape
  rw [List.length_map] at H
  have c2 := (H.obj 0 rfl).cell 2
  have c4 := (H.obj 0 rfl).cell 4
  have c6 := (H.obj 0 rfl).cell 6
  simp only [logCells, List.getElem?_cons_succ, List.getElem?_cons_zero] at c2 c4 c6
  have hmost := ok.most
  have htwo := ok.two
  have hfit := ok.fits
  have hroom := Lg.room_eq ok
  have h8 := frames_eight l.waiting
  have HH := hid (And.intro ok H)
  clear H ok
  go_enter Tryz.func55, Tryz.ntmps55
  go_upto_region 3 with (go_at_call 80; refine (hn _ rfl).mono ?_; rintro e w' ⟨rfl, rfl⟩)
  refine wp_stages (by kernel_rfl) ?_
  have S0 : w.drew.cell? ⟨b, 2, none⟩ = some (.int .i64 (l.n : Int)) ∧ w.drew.cell? ⟨b, 4, none⟩ = some (.slice abv l.bytes.length cbv) := ⟨c2, c4⟩
  have hw1 : IntKind.i64.wrap ((l.n : Int) - 1) = (l.n : Int) - 1 := by rw [IntKind.wrap_i64]; omega
  have hw2 : IntKind.i64.wrap (64 * ((l.n : Int) - 1)) = 64 * ((l.n : Int) - 1) := by rw [IntKind.wrap_i64]; omega
  have hw3 : IntKind.i64.wrap (64 * ((l.n : Int) - 1) - (l.bytes.length : Int)) = 64 * ((l.n : Int) - 1) - (l.bytes.length : Int) := by rw [IntKind.wrap_i64]; omega
  refine wp_stage (fun W => W.cell? ⟨b, 2, none⟩ = some (.int .i64 (l.n : Int)) ∧ W.cell? ⟨b, 4, none⟩ = some (.slice abv l.bytes.length cbv)) [(0, true), (1, true), (2, true), (3, true), (4, true), (5, true), (6, true), (7, true), (8, true), (9, true), (10, true)] 2 rfl (by kernel_rfl) (by intro c a dd v w h; cases dd <;> exact h) (S0) ?_
  iterate 11 (refine wpOrd_read (v := _) rfl rfl (by intro w' hS; obtain ⟨s1, s2⟩ := id hS; clear hS; go_simp; rfl) ?_; (try simp only [Act.put, List.setIfInBounds_toArray, List.set_cons_succ, List.set_cons_zero, List.getElem_toArray, List.getElem_cons_succ, List.getElem_cons_zero]))
  refine wpOrd_end ?_
  refine wp_stages_end 11 (by rfl) (by kernel_rfl) ?_
  simp only [List.drop_succ_cons, List.drop_zero]
  clear hw1 hw2 hw3 S0 hn
  have c6' : w.drew.cell? ⟨b, 6, none⟩ = some (.slice ao l.waiting.length cap) := c6
  have HD := hid HH.out.2.drew
  have HP := hid ((Pres.refl [] w).drew)
  generalize w.drew = wd at *
  clear c2 c4 c6
  go_wp2
  go_loop [3, 25] (fun rv iv => ∃ k : Nat, k ≤ l.waiting.length ∧ iv = .int .i64 (k : Int) ∧ rv = .int .i64 (64 * ((l.n : Int) - 1) - (l.bytes.length : Int) - (sumTo l k : Int))) (fun _ iv => l.waiting.length - (intOf iv).toNat)
  case atStart => exact ⟨0, Nat.zero_le _, rfl, by simp [sumTo, frames]⟩
  case round =>
    obtain ⟨k, hk, rfl, rfl⟩ := hrel
    have hs := sumTo_le l k
    by_cases hlt : k < l.waiting.length
    · obtain ⟨r, hr⟩ : ∃ r, l.waiting[k]? = some r := ⟨_, List.getElem?_eq_getElem hlt⟩
      have hst := sumTo_succ hr
      have hs' := sumTo_le l (k + 1)
      obtain ⟨g, cg, cur, e1, -⟩ := (HD.out.sl 3 rfl).get (by omega)
      simp only [Value.slice.injEq] at e1
      obtain ⟨rfl, -, rfl⟩ := e1
      have ck : wd.cell? ⟨g, k, none⟩ = some (strV r) := sl_cells (HD.out.sl 3 rfl) (by rw [List.getElem?_map, hr]; rfl)
      unfold strV at ck
      have hrl : (⟨r.toArray⟩ : ByteArray).size = r.length := by simp [ByteArray.size]
      obtain ⟨z, hz⟩ : ∃ z : ByteArray, Hid ((⟨r.toArray⟩ : ByteArray) = z) := ⟨_, hid rfl⟩
      rw [hz.out] at ck hrl
      have hlt' : (k : Int) < (l.waiting.length : Int) := by omega
      obtain ⟨q, hq⟩ : ∃ q, Hid (r.length = q) := ⟨_, hid rfl⟩
      rw [hq.out] at hrl hst
      have HS := hid hst
      have hq64 : q ≤ 4194304 := by omega
      clear hst hr
      go_wp2
      go_round
      case rel => exact ⟨k + 1, by omega, by go_num, by rw [HS.out]; congr 1; omega⟩
      case measure => first | (simp [intOf]; done) | (simp [intOf]; omega)
    · have hend : ¬ (k : Int) < (l.waiting.length : Int) := by omega
      have ek : k = l.waiting.length := by omega
      have HS := hid (show sumTo l k = (frames l.waiting).length by rw [ek]; unfold sumTo; rw [List.take_length])
      have HR := hid hroom
      clear hroom ek
      go_wp2
      go_ret
      refine ⟨congrArg (fun x : Int => Ending.returned (.int .i64 x)) ?_, HP.out⟩
      rw [HR.out, HS.out]
      omega

end Go.Proofs.YtnffnpndnaofhaaGreatDoor

/- A log's Add and Records; slices.Clone; conditions stand in the theorems. -/
namespace Go.Proofs.YtnffnpndnaofhaaGreatDoor
open Go.RowKit
set_option maxRecDepth 20000

theorem info_str : ∃ i, Tryz.prog.info? 9 = some i ∧ i.zero = some (.string ⟨#[]⟩) ∧ i.size = 1 ∧ i.bytes = 16 := by
  have h : (Tryz.prog.info? 9).map (fun i => (i.zero, i.size, i.bytes)) = some (some (.string ⟨#[]⟩), 1, 16) := by kernel_rfl
  cases hq : Tryz.prog.info? 9 with
  | none => simp [hq] at h
  | some i => exact ⟨i, rfl, by simpa [hq] using h⟩

theorem clone_bytes (w : World) (v : Value) (xs : List Value) (hv : Reads w v xs) (h1 : ∀ u ∈ xs, u.oneCell' = true) (hx : xs.length ≤ 1000000000) :
    Calls Tryz.prog 94 #[v] w fun e w' => ∃ v', e = .returned v' ∧ Sl w' 5 1 v' xs.length xs ∧ Pres [] w w' ∧ (∀ k ∈ fpv v', w.heap.size ≤ k) := by
  obtain ⟨i, hi, hz, hs, hb⟩ := info_u8
  have HI := hid (And.intro hi (And.intro hz (And.intro hs hb)))
  clear hi hz hs hb
  have HV := hid hv
  have hnl : ∀ (w : World) (a : Option Addr) (n c n' c' : Nat), (binOp .eql 122 (.slice a n c) (.slice none n' c')).run Tryz.prog w = .ok (.bool a.isNone) w := fun w a n c n' c' => Lib.run_eql_slice_nil w _ _ a n c n' c' Tryz.underlying122
  obtain ⟨ao, cap, rfl, hc1, hc2, hr⟩ := hv
  cases ao with
  | none =>
    have hnil : xs = [] := by
      cases xs with
      | nil => rfl
      | cons x xs => obtain ⟨b, off, e, -⟩ := hr 0 x rfl; cases e
    subst hnil
    clear hr hc1 hc2
    go_enter Tryz.func94, Tryz.ntmps94
    go_wp2
    go_ret
    exact ⟨_, rfl, Sl.nil _ _ _, Pres.refl _ _, by simp [fpv]⟩
  | some ad =>
    clear hr hc1 hc2
    have HX := hid h1
    have S0 : Sl (w.alloc (.cells #[] 5)) 5 1 (.slice (some ⟨w.heap.size, 0, none⟩) 0 0) 0 [] := ⟨rfl, .inr ⟨_, 0, [], rfl, At.new w [] _, Nat.le_refl _, by simp [maxLen], rfl, rfl⟩⟩
    have P0 := (Pres.refl [] w).alloc (.cells #[] 5)
    have HS := hid (HV.out.pres P0 (by simp))
    clear h1 HV
    go_enter Tryz.func94, Tryz.ntmps94
    go_wp2_with (((with_reducible refine at_append ?_); go_must (refine wpL_app rfl (.tmp 5) (.tmp 6) 122 122 rfl 5 i _ 1 Tryz.underlying122 HI.out.1 HI.out.2.1 HI.out.2.2.1 rfl (.slice (some ⟨w.heap.size, 0, none⟩) 0 0) 0 [] rfl S0 xs.length xs (Src.reads Tryz.underlying122 HS.out HX.out) (by simp only [maxLen]; omega) (by rw [HI.out.2.2.2]; omega) ?_); intro v' w2 X1 X2 X3; simp only [Nat.zero_add, List.nil_append] at X1))
    go_ret
    refine ⟨_, rfl, X1, P0.trans X2 (by intro x hx; simp [fpv] at hx; right; omega), fun k hk => ?_⟩
    rcases X3 k hk with h | h
    · simp [fpv] at h; omega
    · simp at h; omega


theorem clone_strings (w : World) (v : Value) (xs : List Value) (hv : Reads w v xs) (h1 : ∀ u ∈ xs, u.oneCell' = true) (hx : xs.length ≤ 1000000000) :
    Calls Tryz.prog 81 #[v] w fun e w' => ∃ v', e = .returned v' ∧ Sl w' 9 1 v' xs.length xs ∧ Pres [] w w' ∧ (∀ k ∈ fpv v', w.heap.size ≤ k) := by
  obtain ⟨i, hi, hz, hs, hb⟩ := info_str
  have HI := hid (And.intro hi (And.intro hz (And.intro hs hb)))
  clear hi hz hs hb
  have HV := hid hv
  have hnl : ∀ (w : World) (a : Option Addr) (n c n' c' : Nat), (binOp .eql 91 (.slice a n c) (.slice none n' c')).run Tryz.prog w = .ok (.bool a.isNone) w := fun w a n c n' c' => Lib.run_eql_slice_nil w _ _ a n c n' c' Tryz.underlying91
  obtain ⟨ao, cap, rfl, hc1, hc2, hr⟩ := hv
  cases ao with
  | none =>
    have hnil : xs = [] := by
      cases xs with
      | nil => rfl
      | cons x xs => obtain ⟨b, off, e, -⟩ := hr 0 x rfl; cases e
    subst hnil
    clear hr hc1 hc2
    go_enter Tryz.func81, Tryz.ntmps81
    go_wp2
    go_ret
    exact ⟨_, rfl, Sl.nil _ _ _, Pres.refl _ _, by simp [fpv]⟩
  | some ad =>
    clear hr hc1 hc2
    have HX := hid h1
    have S0 : Sl (w.alloc (.cells #[] 9)) 9 1 (.slice (some ⟨w.heap.size, 0, none⟩) 0 0) 0 [] := ⟨rfl, .inr ⟨_, 0, [], rfl, At.new w [] _, Nat.le_refl _, by simp [maxLen], rfl, rfl⟩⟩
    have P0 := (Pres.refl [] w).alloc (.cells #[] 9)
    have HS := hid (HV.out.pres P0 (by simp))
    clear h1 HV
    go_enter Tryz.func81, Tryz.ntmps81
    go_wp2_with (((with_reducible refine at_append ?_); go_must (refine wpL_app rfl (.tmp 5) (.tmp 6) 91 91 rfl 9 i _ 1 Tryz.underlying91 HI.out.1 HI.out.2.1 HI.out.2.2.1 rfl (.slice (some ⟨w.heap.size, 0, none⟩) 0 0) 0 [] rfl S0 xs.length xs (Src.reads Tryz.underlying91 HS.out HX.out) (by simp only [maxLen]; omega) (by rw [HI.out.2.2.2]; omega) ?_); intro v' w2 X1 X2 X3; simp only [Nat.zero_add, List.nil_append] at X1))
    go_ret
    refine ⟨_, rfl, X1, P0.trans X2 (by intro x hx; simp [fpv] at hx; right; omega), fun k hk => ?_⟩
    rcases X3 k hk with h | h
    · simp [fpv] at h; omega
    · simp at h; omega

theorem strs_one (l : List (List UInt8)) : ∀ u ∈ l.map strV, u.oneCell' = true := by
  intro u hu
  obtain ⟨x, -, rfl⟩ := List.mem_map.1 hu
  rfl

theorem Lg.Ok.counts {l : Lg} (ok : l.Ok) : 8 * l.recs.length ≤ l.bytes.length ∧ l.bytes.length ≤ 4194304 ∧ l.waiting.length ≤ 4194304 := by
  have h1 := frames_eight l.recs
  have h2 := frames_eight l.waiting
  have h3 := ok.fits
  have h4 := ok.most
  rw [← ok.form] at h1
  omega

theorem log_records {w0 w : World} {ps : List HP} {b d : Nat} {l : Lg} (H : St w0 w (logP b d l :: ps)) :
    Calls Tryz.prog 42 #[.pointer (some ⟨b, 0, none⟩)] w fun e w' => ∃ v, e = .returned v ∧ St w0 w' (slP v 9 1 l.recs.length (l.recs.map strV) :: logP b d l :: ps) ∧ Pres [] w w' := by
  have hn := fun W (hW : W = w) => hW ▸ log_none H
  have HX := hid H
  obtain ⟨bv, rv, wv, ok, H⟩ := log_open H
  have c5 := (H.obj 0 rfl).cell 5
  simp only [logCells, List.getElem?_cons_succ, List.getElem?_cons_zero] at c5
  have hc := ok.counts
  have hcl := fun W (hW : W = w) => hW ▸ clone_strings w rv _ (H.sl 2 rfl).reads (strs_one _) (by rw [List.length_map]; omega)
  simp only [List.length_map] at hcl
  clear H ok hc
  go_enter Tryz.func42, Tryz.ntmps42
  go_wp2_with (first | (go_at_call 80; refine (hn _ rfl).mono ?_; rintro e w' ⟨rfl, rfl⟩) | (go_at_call 81; refine (hcl _ rfl).mono ?_; rintro e w2 ⟨v', rfl, X1, X2, X3⟩))
  go_ret
  exact ⟨v', rfl, HX.out.slice X1 X2 X3, X2⟩

theorem log_add {w0 w : World} {ps : List HP} {b d : Nat} {l : Lg} (H : St w0 w (logP b d l :: ps)) (s : ByteArray) (hs : s.size ≤ maxLen) :
    Calls Tryz.prog 57 #[.pointer (some ⟨b, 0, none⟩), .string s] w fun e w' => e = .returned (.int .i64 (l.add s.data.toList).1) ∧ St w0 w' (logP b d (l.add s.data.toList).2 :: ps) := by
  have hu := fun W (hW : W = w) => hW ▸ log_up H
  have hr := fun W (hW : W = w) => hW ▸ log_room H
  have HX := hid H
  obtain ⟨bv, rv, wv, ok, H⟩ := log_open H
  have hok := Lg.add_ok ok s.data.toList
  have hl : s.data.toList.length = s.size := by simp
  have hcn := ok.counts
  have hroom := Lg.room_eq ok
  have hfit := ok.fits
  have hmost := ok.most
  have HH := hid (And.intro hok H)
  unfold maxLen at hs
  clear H hok ok
  unfold Lg.up at hu
  cases hlost : l.lost
  · rw [hlost] at hu
    by_cases hlong : 65536 < s.size
    · have e : l.add s.data.toList = (3, l) := by simp only [Lg.add, hlost, hl, if_pos hlong, Bool.false_eq_true, if_false]
      rw [e]
      have hlong' : 65536 < (s.size : Int) := by omega
      clear e hlost hl hlong HH hcn hroom hfit hmost hr
      go_enter Tryz.func57, Tryz.ntmps57
      go_wp2_with (go_at_call 93; refine (hu _ rfl).mono ?_; rintro e w' ⟨rfl, rfl⟩)
      go_ret
      exact ⟨rfl, HX.out⟩
    · have hlong' : ¬ 65536 < (s.size : Int) := by omega
      obtain ⟨q, hq⟩ : ∃ q : Int, Hid (l.room = q) := ⟨_, hid rfl⟩
      rw [hq.out] at hroom hr
      by_cases hfull : (8 + s.size : Int) > q
      · have e : l.add s.data.toList = (7, l) := by
          simp only [Lg.add, hlost, hl, if_neg hlong, hq.out, if_pos hfull, Bool.false_eq_true, if_false]
        rw [e]
        have hfull' : q < 8 + (s.size : Int) := by omega
        clear e hlost hl hlong HH hcn hroom hfit hmost hfull
        go_enter Tryz.func57, Tryz.ntmps57
        go_wp2_with (first | (go_at_call 93; refine (hu _ rfl).mono ?_; rintro e w' ⟨rfl, rfl⟩) | (go_at_call 55; refine (hr _ rfl).mono ?_; rintro e w2 ⟨rfl, P2⟩))
        go_ret
        exact ⟨rfl, HX.out.quiet P2⟩
      · have e : l.add s.data.toList = (0, { l with waiting := l.waiting ++ [s.data.toList] }) := by
          simp only [Lg.add, hlost, hl, if_neg hlong, hq.out, if_neg hfull, Bool.false_eq_true, if_false]
        rw [e] at HH ⊢
        have hfull' : ¬ q < 8 + (s.size : Int) := by omega
        obtain ⟨i, hi, hz, hs', hb'⟩ := info_str
        have HI := hid (And.intro hi (And.intro hz (And.intro hs' hb')))
        have hwl : l.waiting.length ≤ 4194304 := by omega
        clear e hlost hl hlong hcn hroom hfit hmost hfull hi hz hs' hb'
        go_enter Tryz.func57, Tryz.ntmps57
        go_wp2_with (first
          | (go_at_call 93; refine (hu _ rfl).mono ?_; rintro e w' ⟨rfl, rfl⟩)
          | (go_at_call 55; refine (hr _ rfl).mono ?_; rintro e w2 ⟨rfl, P2⟩; have H2 := hid (HH.out.2.quiet P2); have c6 := (H2.out.obj 0 rfl).cell 6; have hL := (H2.out.obj 0 rfl).lt; simp only [logCells, List.getElem?_cons_succ, List.getElem?_cons_zero] at c6; have A3 := At.new w2 [.string s] 9; have H3 := hid (H2.out.quiet ((Pres.refl [] w2).alloc (.cells #[.string s] 9))); have X3 := H3.out.sl 3 rfl)
          | ((with_reducible refine at_append ?_); go_must (refine wpL_app rfl (.tmp 26) (.tmp 28) 91 91 rfl 9 i _ 1 Tryz.underlying91 HI.out.1 HI.out.2.1 HI.out.2.2.1 rfl _ l.waiting.length _ rfl X3 1 [.string s] (Src.at Tryz.underlying91 A3 rfl (by simp [Value.oneCell'])) (by simp only [maxLen]; omega) (by rw [HI.out.2.2.2]; omega) ?_); intro v5 w5 Y1 Y2 Y3; have H5 := hid (H3.out.grow 3 rfl Y1 Y2 Y3); obtain ⟨ao5, cap5, rfl, -, -⟩ := Y1.shape; have f5 := (H5.out.obj 0 rfl).frozen 6; have c5 := (H5.out.obj 0 rfl).cell 6; simp only [logCells, List.getElem?_cons_succ, List.getElem?_cons_zero] at c5; clear Y1 Y2 Y3))
        go_ret
        refine ⟨rfl, log_close HH.out.1 (bv := bv) (rv := rv) (wv := .slice ao5 (l.waiting.length + 1) cap5) ?_⟩
        have H6 := H5.out.set 0 rfl 6 (.slice ao5 (l.waiting.length + 1) cap5)
        have e1 : strV s.data.toList = .string s := congrArg Value.string (ba_ext (ba_mk _))
        simp only [List.length_append, List.length_cons, List.length_nil, List.map_append, List.map_cons, List.map_nil, e1]
        exact H6
  · rw [hlost] at hu
    have e : l.add s.data.toList = (10, l) := by simp [Lg.add, hlost]
    rw [e]
    clear e hlost hl HH hcn hroom hfit hmost hr
    go_enter Tryz.func57, Tryz.ntmps57
    go_wp2_with (go_at_call 93; refine (hu _ rfl).mono ?_; rintro e w' ⟨rfl, rfl⟩)
    go_ret
    exact ⟨rfl, HX.out⟩

end Go.Proofs.YtnffnpndnaofhaaGreatDoor

/- A page (layer 9): Sectors of a page's bytes; conditions stand in the theorem. -/
namespace Go.Proofs.YtnffnpndnaofhaaGreatDoor
open Go.RowKit
set_option maxRecDepth 100000

def secList (l : List UInt8) (k : Nat) : List (List UInt8) := (List.range k).map fun j => (l.drop (64 * j)).take 64

theorem secList_succ (l : List UInt8) (k : Nat) : secList l (k + 1) = secList l k ++ [(l.drop (64 * k)).take 64] := by simp [secList, List.range_succ]
theorem length_secList (l : List UInt8) (k : Nat) : (secList l k).length = k := by simp [secList]

set_option maxHeartbeats 4000000 in
theorem pg_sectors {w0 w : World} {ps : List HP} (H : St w0 w ps) (s : ByteArray) (l : List UInt8) (hs : s.data.toList = l) (hl : l.length = 512) :
    Calls Tryz.prog 110 #[.string s] w fun e w' => ∃ v, e = .returned v ∧ St w0 w' (slP v 9 1 8 ((secList l 8).map strV) :: ps) := by
  have HM := hid (H.nil 9 1)
  have hsz := hid (show s.size = 512 by rw [ba_size, hs, hl])
  obtain ⟨j, hj, hjz, hjs, hjb⟩ := info_str
  have HJ := hid (And.intro hj (And.intro hjz (And.intro hjs hjb)))
  have HS := hid hs
  have HL := hid hl
  clear hj hjz hjs hjb H hs hl
  go_enter Tryz.func110, Tryz.ntmps110
  go_wp2_with fail
  go_loopw [0, 3] (fun bv ov wr => ∃ (k : Nat) (z : ByteArray), k ≤ 8 ∧ bv = .string z ∧ z.data.toList = l.drop (64 * k) ∧ St w0 wr (slP ov 9 1 k ((secList l k).map strV) :: ps)) (fun bv _ _ => match bv with | .string z => z.size | _ => 0)
  case atStart => exact ⟨0, s, Nat.zero_le _, rfl, by rw [HS.out]; rfl, HM.out⟩
  case round =>
    obtain ⟨k, z, hk, rfl, hz, hM⟩ := hrel
    clear HM
    have HH := hid hM
    obtain ⟨ao, co, rfl, -, -⟩ := (hM.sl 0 rfl).shape
    clear hM
    obtain ⟨m, hm⟩ : ∃ m, m = 512 - 64 * k := ⟨_, rfl⟩
    have hzs : z.size = m := by rw [ba_size, hz, List.length_drop, HL.out, hm]
    have HZ := hid hz
    clear hz
    by_cases hlt : k < 8
    · have h1 : (0 : Int) < (m : Int) := by omega
      have h2 : (64 : Int) ≤ (m : Int) := by omega
      have hmin : min (64 : Int) (m : Int) = 64 := by omega
      have hmin' : (if (m : Int) < 64 then (m : Int) else 64) = 64 := by split <;> omega
      obtain ⟨x, hx⟩ : ∃ x, z.extract 0 64 = x := ⟨_, rfl⟩
      obtain ⟨y, hy⟩ : ∃ y, z.extract 64 m = y := ⟨_, rfl⟩
      have hxl : x.data.toList = (l.drop (64 * k)).take 64 := by rw [← hx, ba_take, List.drop_zero, HZ.out]
      have hyl : y.data.toList = l.drop (64 * (k + 1)) := by
        rw [← hy, ba_take, HZ.out, List.take_of_length_le (by rw [List.length_drop, HL.out]; omega), List.drop_drop]
        congr 1
      have hys : y.size = m - 64 := by rw [← hy, ByteArray.size_extract, hzs]; omega
      have hm2 : (m : Int) ≤ 512 := by omega
      have HX := hid (And.intro hxl (And.intro hyl hys))
      have HMM := hid hm
      clear hxl hyl hys hm
      have A3 := At.new wr [.string x] 9
      have H4 := hid (St.quiet HH.out ((Pres.refl [] wr).alloc (.cells #[.string x] 9)))
      have X3 := H4.out.sl 0 rfl
      go_wp2_with (((with_reducible refine at_append ?_); go_must (refine wpL_app rfl (.tmp 11) (.tmp 15) 91 91 rfl 9 j _ 1 Tryz.underlying91 HJ.out.1 HJ.out.2.1 HJ.out.2.2.1 rfl (.slice ao k co) k _ rfl X3 1 [.string x] (Src.at Tryz.underlying91 A3 rfl (by simp [Value.oneCell'])) (by simp only [maxLen]; omega) (by rw [HJ.out.2.2.2]; omega) ?_); intro v5 w5 Y1 Y2 Y3; have H5 := hid (St.grow H4.out 0 rfl Y1 Y2 Y3); clear Y1 Y2 Y3))
      go_roundw
      case rel =>
        refine ⟨k + 1, y, by omega, rfl, HX.out.2.1, ?_⟩
        have e1 : strV ((l.drop (64 * k)).take 64) = .string x := by rw [← HX.out.1]; exact congrArg Value.string (ba_ext (ba_mk _))
        rw [secList_succ, List.map_append, List.map_cons, List.map_nil, e1]
        exact H5.out
      case measure =>
        have := HX.out.2.2
        have := HMM.out
        simp only []
        omega
    · obtain rfl : k = 8 := by omega
      obtain rfl : m = 0 := by omega
      have h1 : ¬ (0 : Int) < ((0 : Nat) : Int) := by omega
      clear hm
      go_wp2
      go_ret
      exact ⟨_, rfl, HH.out⟩

end Go.Proofs.YtnffnpndnaofhaaGreatDoor
