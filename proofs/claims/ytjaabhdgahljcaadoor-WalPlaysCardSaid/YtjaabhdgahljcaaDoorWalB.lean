/- A log in memory, and its methods that leave the disk alone: each comes to what Lg says; conditions stand in the theorems. -/
import Derived.Test.YtjaabhdgahljcaaDoorWalA
namespace Go.Proofs.YtjaabhdgahljcaaDoor
open Go.RowKit
set_option maxRecDepth 20000

/-- Slice v reads as xs, and owns its block; it may be longer behind. -/
def Rd (w : World) (E : TypeId) (v : Value) (xs : List Value) : Prop :=
  (v = .slice none 0 0 ∧ xs = []) ∨ ∃ g cap cur, v = .slice (some ⟨g, 0, none⟩) xs.length cap ∧ At w g cur E ∧ xs.length ≤ cap ∧ cap ≤ maxLen ∧ cur.take xs.length = xs

theorem Rd.lt {w : World} {E : TypeId} {v : Value} {xs : List Value} (h : Rd w E v xs) : ∀ k ∈ fpv v, k < w.heap.size := by
  intro k hk
  rcases h with ⟨rfl, _⟩ | ⟨g, cap, cur, rfl, hg, _⟩
  · simp [fpv] at hk
  · simp [fpv] at hk; subst hk; exact hg.lt

theorem Rd.keep {w w' : World} {E : TypeId} {v : Value} {xs : List Value} (h : Rd w E v xs) (hk : ∀ k ∈ fpv v, w'.heap[k]? = w.heap[k]?) : Rd w' E v xs := by
  rcases h with h1 | ⟨g, cap, cur, rfl, hg, h2⟩
  · exact .inl h1
  · exact .inr ⟨g, cap, cur, rfl, hg.keep (hk g (by simp [fpv])), h2⟩

theorem Rd.reads {w : World} {E : TypeId} {v : Value} {xs : List Value} (h : Rd w E v xs) : Reads w v xs := by
  rcases h with ⟨rfl, rfl⟩ | ⟨g, cap, cur, rfl, hg, h1, h2, h3⟩
  · exact Reads.nil w
  · refine ⟨_, cap, rfl, h1, h2, fun j x hj => ⟨g, 0, rfl, ?_⟩⟩
    rw [Nat.zero_add, hg.cell]
    rw [← h3, List.getElem?_take] at hj
    split at hj
    · exact hj
    · cases hj

theorem Rd.of_sl {w : World} {E : TypeId} {v : Value} {n : Nat} {xs : List Value} (h : Sl w E 1 v n xs) : Rd w E v xs := by
  have hl : xs.length = n := by have := h.1; omega
  rcases h.2 with ⟨rfl, rfl⟩ | ⟨g, cap, cur, rfl, hg, h1, h2, h3, h4⟩
  · exact .inl ⟨rfl, List.eq_nil_of_length_eq_zero hl⟩
  · exact .inr ⟨g, cap, cur, by rw [hl], hg, by omega, h2, by rw [hl]; simpa using h4⟩

def rdP (v : Value) (E : TypeId) (xs : List Value) : HP where
  at' w fp := fp = fpv v ∧ Rd w E v xs
  lt := by rintro w fp ⟨rfl, h⟩ k hk; exact h.lt k hk
  keep := by rintro w w' fp ⟨rfl, h⟩ hk; exact ⟨rfl, h.keep hk⟩

theorem St.rd {w0 w : World} {ps : List HP} (H : St w0 w ps) (i : Nat) {v : Value} {E : TypeId} {xs : List Value} (h : ps[i]? = some (rdP v E xs)) : Rd w E v xs := by
  obtain ⟨f, ⟨-, h1⟩, -⟩ := H.get i h
  exact h1

theorem Rd.shape {w : World} {E : TypeId} {v : Value} {xs : List Value} (h : Rd w E v xs) : ∃ ao cap, v = .slice ao xs.length cap ∧ xs.length ≤ cap ∧ cap ≤ maxLen := by
  obtain ⟨ao, cap, rfl, h1, h2, -⟩ := h.reads
  exact ⟨ao, cap, rfl, h1, h2⟩

/-- The struct's own cells. -/
def logCells (d : Nat) (bv rv wv : Value) (l : Lg) : List Value :=
  [.pointer (some ⟨d, 0, none⟩), .int .i64 (l.base : Int), .int .i64 (l.n : Int), .int .i64 (l.epoch : Int), bv, rv, wv, .bool l.lost]

/-- The log at block b over the disk at block d. -/
def logP (b d : Nat) (l : Lg) : HP := exP fun v : Value × Value × Value => ifP l.Ok (sepP (objP b (logCells d v.1 v.2.1 v.2.2 l) 45) (sepP (rdP v.1 5 (l.bytes.map byteV)) (sepP (slP v.2.1 9 1 l.recs.length (l.recs.map strV)) (slP v.2.2 9 1 l.waiting.length (l.waiting.map strV)))))

section
variable {w0 w : World} {ps : List HP} {b d : Nat} {l : Lg}

theorem log_open (H : St w0 w (logP b d l :: ps)) : ∃ bv rv wv, l.Ok ∧ St w0 w (objP b (logCells d bv rv wv l) 45 :: rdP bv 5 (l.bytes.map byteV) :: slP rv 9 1 l.recs.length (l.recs.map strV) :: slP wv 9 1 l.waiting.length (l.waiting.map strV) :: ps) := by
  obtain ⟨⟨bv, rv, wv⟩, H⟩ := H.ex
  obtain ⟨ok, H⟩ := H.fact
  have H1 := (H.split.pull 1 rfl).split
  have H2 := (H1.pull 1 rfl).split
  exact ⟨bv, rv, wv, ok, ((H2.pull 2 rfl).pull 3 rfl)⟩

theorem log_close {bv rv wv : Value} (ok : l.Ok) (H : St w0 w (objP b (logCells d bv rv wv l) 45 :: rdP bv 5 (l.bytes.map byteV) :: slP rv 9 1 l.recs.length (l.recs.map strV) :: slP wv 9 1 l.waiting.length (l.waiting.map strV) :: ps)) : St w0 w (logP b d l :: ps) := by
  refine St.any (bv, rv, wv) (St.with ok ?_)
  have H1 := (((H.pull 3 rfl).pull 3 rfl).join)
  have H2 := (H1.pull 2 rfl).join
  exact (H2.pull 1 rfl).join
end

theorem log_none {w0 w : World} {ps : List HP} {b d : Nat} {l : Lg} (H : St w0 w (logP b d l :: ps)) :
    Calls Tryd.prog 49 #[.pointer (some ⟨b, 0, none⟩)] w fun e w' => e = .returned (.bool false) ∧ w = w' := by
  obtain ⟨bv, rv, wv, -, H⟩ := log_open H
  have c0 := (H.obj 0 rfl).cell 0
  simp only [logCells, List.getElem?_cons_zero] at c0
  clear H
  go_enter Tryd.func49, Tryd.ntmps49
  go_wp2
  go_ret
  exact ⟨rfl, rfl⟩

theorem log_up {w0 w : World} {ps : List HP} {b d : Nat} {l : Lg} (H : St w0 w (logP b d l :: ps)) :
    Calls Tryd.prog 43 #[.pointer (some ⟨b, 0, none⟩)] w fun e w' => e = .returned (.int .i64 l.up) ∧ w = w' := by
  have hn := fun W (hW : W = w) => hW ▸ log_none H
  obtain ⟨bv, rv, wv, -, H⟩ := log_open H
  have c7 := (H.obj 0 rfl).cell 7
  simp only [logCells, List.getElem?_cons_succ, List.getElem?_cons_zero] at c7
  clear H
  unfold Lg.up
  cases hl : l.lost
  all_goals
    rw [hl] at c7
    clear hl
    go_enter Tryd.func43, Tryd.ntmps43
    go_wp2_with (go_at_call 49; refine (hn _ rfl).mono ?_; rintro e w' ⟨rfl, rfl⟩)
    go_ret
    exact ⟨rfl, rfl⟩

theorem log_waiting {w0 w : World} {ps : List HP} {b d : Nat} {l : Lg} (H : St w0 w (logP b d l :: ps)) :
    Calls Tryd.prog 19 #[.pointer (some ⟨b, 0, none⟩)] w fun e w' => e = .returned (.int .i64 (l.waiting.length : Int)) ∧ w = w' := by
  have hn := fun W (hW : W = w) => hW ▸ log_none H
  obtain ⟨bv, rv, wv, -, H⟩ := log_open H
  obtain ⟨ao, cap, rfl, -, -⟩ := (H.sl 3 rfl).shape
  have c6 := (H.obj 0 rfl).cell 6
  simp only [logCells, List.getElem?_cons_succ, List.getElem?_cons_zero] at c6
  clear H
  go_enter Tryd.func19, Tryd.ntmps19
  go_wp2_with (go_at_call 49; refine (hn _ rfl).mono ?_; rintro e w' ⟨rfl, rfl⟩)
  go_ret
  exact ⟨rfl, rfl⟩

theorem log_epoch {w0 w : World} {ps : List HP} {b d : Nat} {l : Lg} (H : St w0 w (logP b d l :: ps)) :
    Calls Tryd.prog 20 #[.pointer (some ⟨b, 0, none⟩)] w fun e w' => e = .returned (.int .i64 (l.epoch : Int)) ∧ w = w' := by
  have hn := fun W (hW : W = w) => hW ▸ log_none H
  obtain ⟨bv, rv, wv, -, H⟩ := log_open H
  have c3 := (H.obj 0 rfl).cell 3
  simp only [logCells, List.getElem?_cons_succ, List.getElem?_cons_zero] at c3
  clear H
  go_enter Tryd.func20, Tryd.ntmps20
  go_wp2_with (go_at_call 49; refine (hn _ rfl).mono ?_; rintro e w' ⟨rfl, rfl⟩)
  go_ret
  exact ⟨rfl, rfl⟩

theorem log_drop {w0 w : World} {ps : List HP} {b d : Nat} {l : Lg} (H : St w0 w (logP b d l :: ps)) :
    Calls Tryd.prog 17 #[.pointer (some ⟨b, 0, none⟩)] w fun e w' => e = .returned (.tuple #[]) ∧ St w0 w' (logP b d l.drop :: ps) := by
  have hn := fun W (hW : W = w) => hW ▸ log_none H
  obtain ⟨bv, rv, wv, ok, H⟩ := log_open H
  have c6 := (H.obj 0 rfl).cell 6
  have f6 := (H.obj 0 rfl).frozen 6
  simp only [logCells, List.getElem?_cons_succ, List.getElem?_cons_zero] at c6
  have HH := hid (And.intro (Lg.drop_ok ok) H)
  clear H ok
  go_enter Tryd.func17, Tryd.ntmps17
  go_wp2_with (go_at_call 49; refine (hn _ rfl).mono ?_; rintro e w' ⟨rfl, rfl⟩)
  go_end0
  refine ⟨rfl, log_close HH.out.1 (bv := bv) (rv := rv) (wv := .slice none 0 0) ?_⟩
  have H1 := HH.out.2.set 0 rfl 6 (.slice none 0 0)
  have H2 := ((H1.pull 3 rfl).drop.nil 9 1)
  exact ((H2.pull 3 rfl).pull 3 rfl).pull 3 rfl

/-- lose: an error loses the log. -/
theorem log_lose {w0 w : World} {ps : List HP} {b d : Nat} {l : Lg} (H : St w0 w (logP b d l :: ps)) (hl : l.lost = false) (e : Int) :
    Calls Tryd.prog 46 #[.pointer (some ⟨b, 0, none⟩), .int .i64 e] w fun en w' => en = .returned (.int .i64 e) ∧ St w0 w' (logP b d { l with lost := decide (e ≠ 0) } :: ps) := by
  obtain ⟨bv, rv, wv, ok, H⟩ := log_open H
  have c7 := (H.obj 0 rfl).cell 7
  have f7 := (H.obj 0 rfl).frozen 7
  simp only [logCells, List.getElem?_cons_succ, List.getElem?_cons_zero] at c7
  rw [hl] at c7
  have ok' : Lg.Ok { l with lost := decide (e ≠ 0) } := ⟨ok.two, ok.most, ok.base, ok.epoch, ok.fits, ok.form, ok.recs, ok.waits⟩
  have HH := hid (And.intro ok' H)
  clear H ok ok'
  by_cases h0 : e = 0
  · have hb : (e != 0) = false := by simp [h0]
    have hd : decide (e ≠ 0) = false := by simp [h0]
    have HD := hid hd
    clear h0 hd
    go_enter Tryd.func46, Tryd.ntmps46
    go_wp2
    go_ret
    refine ⟨rfl, log_close HH.out.1 (bv := bv) (rv := rv) (wv := wv) ?_⟩
    have H1 := HH.out.2.set 0 rfl 7 (.bool false)
    rw [HD.out]
    exact H1
  · have hb : (e != 0) = true := by simp [h0]
    have hd : decide (e ≠ 0) = true := by simp [h0]
    have HD := hid hd
    clear h0 hd
    go_enter Tryd.func46, Tryd.ntmps46
    go_wp2
    go_ret
    refine ⟨rfl, log_close HH.out.1 (bv := bv) (rv := rv) (wv := wv) ?_⟩
    have H1 := HH.out.2.set 0 rfl 7 (.bool true)
    rw [HD.out]
    exact H1

/-! Room -/
def sumTo (l : Lg) (k : Nat) : Nat := (frames (l.waiting.take k)).length

theorem sumTo_succ {l : Lg} {k : Nat} {r : List UInt8} (h : l.waiting[k]? = some r) : sumTo l (k + 1) = sumTo l k + (8 + r.length) := by
  unfold sumTo
  rw [List.take_add_one, h]
  simp [frames_append, frames, length_frameB]

theorem sumTo_le (l : Lg) (k : Nat) : sumTo l k ≤ (frames l.waiting).length := by
  have : frames l.waiting = frames (l.waiting.take k) ++ frames (l.waiting.drop k) := by rw [← frames_append, List.take_append_drop]
  rw [this, List.length_append]
  unfold sumTo
  omega

theorem log_room {w0 w : World} {ps : List HP} {b d : Nat} {l : Lg} (H : St w0 w (logP b d l :: ps)) :
    Calls Tryd.prog 21 #[.pointer (some ⟨b, 0, none⟩)] w fun e w' => e = .returned (.int .i64 l.room) ∧ Pres [] w w' := by
  have hn := fun W (hW : W = w) => hW ▸ log_none H
  obtain ⟨bv, rv, wv, ok, H⟩ := log_open H
  obtain ⟨abv, cbv, rfl, -, -⟩ := (H.rd 1 rfl).shape
  obtain ⟨ao, cap, rfl, -, -⟩ := (H.sl 3 rfl).shape
  rw [List.length_map] at H
  have c2 := (H.obj 0 rfl).cell 2
  have c4 := (H.obj 0 rfl).cell 4
  have c6 := (H.obj 0 rfl).cell 6
  simp only [logCells, List.getElem?_cons_succ, List.getElem?_cons_zero] at c2 c4 c6
  have hmost := ok.most
  have htwo := ok.two
  have hfit := ok.fits
  have hroom := Lg.room_eq ok
  have h8 := frames_eight l.waiting
  have HH := hid (And.intro ok H)
  clear H ok
  go_enter Tryd.func21, Tryd.ntmps21
  go_upto_region 3 with (go_at_call 49; refine (hn _ rfl).mono ?_; rintro e w' ⟨rfl, rfl⟩)
  refine wp_stages (by kernel_rfl) ?_
  have S0 : w.drew.cell? ⟨b, 2, none⟩ = some (.int .i64 (l.n : Int)) ∧ w.drew.cell? ⟨b, 4, none⟩ = some (.slice abv l.bytes.length cbv) := ⟨c2, c4⟩
  have hw1 : IntKind.i64.wrap ((l.n : Int) - 1) = (l.n : Int) - 1 := by rw [IntKind.wrap_i64]; omega
  have hw2 : IntKind.i64.wrap (64 * ((l.n : Int) - 1)) = 64 * ((l.n : Int) - 1) := by rw [IntKind.wrap_i64]; omega
  have hw3 : IntKind.i64.wrap (64 * ((l.n : Int) - 1) - (l.bytes.length : Int)) = 64 * ((l.n : Int) - 1) - (l.bytes.length : Int) := by rw [IntKind.wrap_i64]; omega
  refine wp_stage (fun W => W.cell? ⟨b, 2, none⟩ = some (.int .i64 (l.n : Int)) ∧ W.cell? ⟨b, 4, none⟩ = some (.slice abv l.bytes.length cbv)) [(0, true), (1, true), (2, true), (3, true), (4, true), (5, true), (6, true), (7, true), (8, true), (9, true), (10, true)] 2 rfl (by kernel_rfl) (by intro c a dd v w h; cases dd <;> exact h) (S0) ?_
  iterate 11 (refine wpOrd_read (v := _) rfl rfl (by intro w' hS; obtain ⟨s1, s2⟩ := id hS; clear hS; go_simp; rfl) ?_; (try simp only [Act.put, List.setIfInBounds_toArray, List.set_cons_succ, List.set_cons_zero, List.getElem_toArray, List.getElem_cons_succ, List.getElem_cons_zero]))
  refine wpOrd_end ?_
  refine wp_stages_end 11 (by rfl) (by kernel_rfl) ?_
  simp only [List.drop_succ_cons, List.drop_zero]
  clear hw1 hw2 hw3 S0 hn
  have c6' : w.drew.cell? ⟨b, 6, none⟩ = some (.slice ao l.waiting.length cap) := c6
  have HD := hid HH.out.2.drew
  have HP := hid ((Pres.refl [] w).drew)
  generalize w.drew = wd at *
  clear c2 c4 c6
  go_wp2
  go_loop [3, 25] (fun rv iv => ∃ k : Nat, k ≤ l.waiting.length ∧ iv = .int .i64 (k : Int) ∧ rv = .int .i64 (64 * ((l.n : Int) - 1) - (l.bytes.length : Int) - (sumTo l k : Int))) (fun _ iv => l.waiting.length - (intOf iv).toNat)
  case atStart => exact ⟨0, Nat.zero_le _, rfl, by simp [sumTo, frames]⟩
  case round =>
    obtain ⟨k, hk, rfl, rfl⟩ := hrel
    have hs := sumTo_le l k
    by_cases hlt : k < l.waiting.length
    · obtain ⟨r, hr⟩ : ∃ r, l.waiting[k]? = some r := ⟨_, List.getElem?_eq_getElem hlt⟩
      have hst := sumTo_succ hr
      have hs' := sumTo_le l (k + 1)
      obtain ⟨g, cg, cur, e1, -⟩ := (HD.out.sl 3 rfl).get (by omega)
      simp only [Value.slice.injEq] at e1
      obtain ⟨rfl, -, rfl⟩ := e1
      have ck : wd.cell? ⟨g, k, none⟩ = some (strV r) := sl_cells (HD.out.sl 3 rfl) (by rw [List.getElem?_map, hr]; rfl)
      unfold strV at ck
      have hrl : (⟨r.toArray⟩ : ByteArray).size = r.length := by simp [ByteArray.size]
      obtain ⟨z, hz⟩ : ∃ z : ByteArray, Hid ((⟨r.toArray⟩ : ByteArray) = z) := ⟨_, hid rfl⟩
      rw [hz.out] at ck hrl
      have hlt' : (k : Int) < (l.waiting.length : Int) := by omega
      obtain ⟨q, hq⟩ : ∃ q, Hid (r.length = q) := ⟨_, hid rfl⟩
      rw [hq.out] at hrl hst
      have HS := hid hst
      have hq64 : q ≤ 4194304 := by omega
      clear hst hr
      go_wp2
      go_round
      case rel => exact ⟨k + 1, by omega, by go_num, by rw [HS.out]; congr 1; omega⟩
      case measure => first | (simp [intOf]; done) | (simp [intOf]; omega)
    · have hend : ¬ (k : Int) < (l.waiting.length : Int) := by omega
      have ek : k = l.waiting.length := by omega
      have HS := hid (show sumTo l k = (frames l.waiting).length by rw [ek]; unfold sumTo; rw [List.take_length])
      have HR := hid hroom
      clear hroom ek
      go_wp2
      go_ret
      refine ⟨congrArg (fun x : Int => Ending.returned (.int .i64 x)) ?_, HP.out⟩
      rw [HR.out, HS.out]
      omega

end Go.Proofs.YtjaabhdgahljcaaDoor
