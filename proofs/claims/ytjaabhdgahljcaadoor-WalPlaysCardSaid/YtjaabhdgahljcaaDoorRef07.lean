/- The document's disk (aquiferref07): each of its functions comes to what Dk says; all conditions stand in the theorems. -/
import Derived.Test.YtjaabhdgahljcaaDoorDiskF
import Derived.Test.YtjaabhdgahljcaaDoorApp
import Derived.Deep.DeepMust
namespace Go.Proofs.YtjaabhdgahljcaaDoor
open Go.RowKit

def rpend (p : Nat × List UInt8) : List Value := [.int .i64 (p.1 : Int), strV p.2]
def refLeft (σ : Dk) : Int := if σ.armed then σ.left else -1
def refCells (kv pv : Value) (σ : Dk) : List Value := [kv, pv, .bool σ.down, .int .i64 (refLeft σ), .int .i64 σ.done]

/-- The document's disk at block r. -/
def refP (r : Nat) (σ : Dk) : HP := exP fun kp : Value × Value => ifP σ.Ok (sepP (objP r (refCells kp.1 kp.2 σ) 69) (sepP (slP kp.1 9 1 σ.kept.length (σ.kept.map strV)) (slP kp.2 103 2 σ.pend.length (σ.pend.flatMap rpend))))

section
variable {w0 w : World} {ps : List HP} {r : Nat} {σ : Dk}

theorem ref_open (H : St w0 w (refP r σ :: ps)) : ∃ kv pv, σ.Ok ∧ St w0 w (objP r (refCells kv pv σ) 69 :: slP kv 9 1 σ.kept.length (σ.kept.map strV) :: slP pv 103 2 σ.pend.length (σ.pend.flatMap rpend) :: ps) := by
  obtain ⟨⟨kv, pv⟩, H⟩ := H.ex
  obtain ⟨ok, H⟩ := H.fact
  have H1 := (H.split.pull 1 rfl).split
  exact ⟨kv, pv, ok, H1.perm (by exact ((List.Perm.swap _ _ _).cons _).trans (List.Perm.swap _ _ _) |>.trans (((List.Perm.refl _)).cons _))⟩

theorem ref_close {kv pv : Value} (ok : σ.Ok) (H : St w0 w (objP r (refCells kv pv σ) 69 :: slP kv 9 1 σ.kept.length (σ.kept.map strV) :: slP pv 103 2 σ.pend.length (σ.pend.flatMap rpend) :: ps)) : St w0 w (refP r σ :: ps) := by
  refine St.any (kv, pv) (St.with ok ?_)
  have H1 := ((H.pull 1 rfl).pull 2 rfl).pull 1 rfl
  have H2 := (H1.join).pull 1 rfl
  exact H2.join
end


theorem ref_does {w0 w : World} {ps : List HP} {r : Nat} {σ : Dk} (H : St w0 w (refP r σ :: ps)) :
    Calls Tryd.prog 79 #[.pointer (some ⟨r, 0, none⟩)] w fun e w' => e = .returned (.int .i64 σ.does.1) ∧ St w0 w' (refP r σ.does.2 :: ps) := by
  obtain ⟨kv, pv, ok, H⟩ := ref_open H
  have hd := H.obj 0 rfl
  have h2 := hd.cell 2
  have h3 := hd.cell 3
  have h4 := hd.cell 4
  simp only [refCells, List.getElem?_cons_succ, List.getElem?_cons_zero] at h2 h3 h4
  have f2 := hd.frozen 2
  have f3 := hd.frozen 3
  have f4 := hd.frozen 4
  have b0 := ok.left0
  have b1 := ok.left1
  have hok := Dk.does_ok ok
  have HC := fun (τ : Dk) (w' : World) => @ref_close w0 w' ps r τ kv pv
  have HH := And.intro hok (And.intro H HC)
  clear ok H hok HC hd
  by_cases ha : σ.armed = true
  · by_cases hl : σ.left = 0
    · have e : σ.does = (10, { σ with down := true }) := by simp [Dk.does, ha, hl]
      rw [e] at HH ⊢
      have hl' : refLeft σ = 0 := by simp [refLeft, ha, hl]
      rw [hl'] at h3
      clear hl e ha hl'
      go_enter Tryd.func79, Tryd.ntmps79
      go_wp2
      go_ret
      exact ⟨rfl, HH.2.2 _ _ HH.1 (HH.2.1.set 0 rfl 2 _)⟩
    · have e : σ.does = (0, { σ with left := σ.left - 1, done := wrap64 (σ.done + 1) }) := by simp [Dk.does, ha, hl]
      rw [e] at HH ⊢
      have hl' : refLeft σ = σ.left := by simp [refLeft, ha]
      rw [hl'] at h3
      have hl1 : (σ.left == 0) = false := by simpa using hl
      have hl2 : decide (0 < σ.left) = true := by simp; omega
      have hl3 : 1 ≤ σ.left := by omega
      have HE : refCells kv pv { σ with left := σ.left - 1, done := wrap64 (σ.done + 1) } = ((refCells kv pv σ).set 3 (.int .i64 (σ.left - 1))).set 4 (.int .i64 (wrap64 (σ.done + 1))) := by simp [refCells, refLeft, ha]
      have HE := hid HE
      clear hl e ha hl'
      go_enter Tryd.func79, Tryd.ntmps79
      go_wp2
      go_ret
      exact ⟨rfl, HH.2.2 _ _ HH.1 (by rw [HE.out]; exact (HH.2.1.set 0 rfl 3 _).set 0 rfl 4 _)⟩
  · have ha' : σ.armed = false := by simpa using ha
    have e : σ.does = (0, { σ with left := σ.left, done := wrap64 (σ.done + 1) }) := by simp [Dk.does, ha']
    rw [e] at HH ⊢
    have hl' : refLeft σ = -1 := by simp [refLeft, ha']
    rw [hl'] at h3
    have HE : refCells kv pv { σ with left := σ.left, done := wrap64 (σ.done + 1) } = (refCells kv pv σ).set 4 (.int .i64 (wrap64 (σ.done + 1))) := by simp [refCells, refLeft]
    have HE := hid HE
    clear e ha ha' hl'
    go_enter Tryd.func79, Tryd.ntmps79
    go_wp2
    go_ret
    exact ⟨rfl, HH.2.2 _ _ HH.1 (by rw [HE.out]; exact HH.2.1.set 0 rfl 4 _)⟩

theorem ref_off {w0 w : World} {ps : List HP} {r : Nat} {σ : Dk} (H : St w0 w (refP r σ :: ps)) :
    Calls Tryd.prog 58 #[.pointer (some ⟨r, 0, none⟩)] w fun e w' => e = .returned (.int .i64 σ.off.1) ∧ St w0 w' (refP r σ.off.2 :: ps) := by
  have H0 := H
  obtain ⟨kv, pv, ok, H⟩ := ref_open H
  have hd := H.obj 0 rfl
  have h2 := hd.cell 2
  simp only [refCells, List.getElem?_cons_succ, List.getElem?_cons_zero] at h2
  have f2 := hd.frozen 2
  have hok := Dk.off_ok ok
  have HC := fun (τ : Dk) (w' : World) => @ref_close w0 w' ps r τ kv pv
  have HH := And.intro hok (And.intro H (And.intro HC H0))
  clear ok H hok HC hd H0
  cases hdn : σ.down
  · have e : σ.off = (0, { σ with down := true }) := by simp [Dk.off, hdn]
    rw [e] at HH ⊢
    rw [hdn] at h2
    clear e hdn
    go_enter Tryd.func58, Tryd.ntmps58
    go_wp2
    go_ret
    exact ⟨rfl, HH.2.2.1 _ _ HH.1 (HH.2.1.set 0 rfl 2 _)⟩
  · have e : σ.off = (10, σ) := by simp [Dk.off, hdn]
    rw [e] at HH ⊢
    rw [hdn] at h2
    clear e hdn
    go_enter Tryd.func58, Tryd.ntmps58
    go_wp2
    go_ret
    exact ⟨rfl, HH.2.2.2⟩

theorem ref_arm {w0 w : World} {ps : List HP} {r : Nat} {σ : Dk} (H : St w0 w (refP r σ :: ps)) (n : Int) (hb : n ≤ 9223372036854775807) :
    Calls Tryd.prog 57 #[.pointer (some ⟨r, 0, none⟩), .int .i64 n] w fun e w' => e = .returned (.int .i64 (σ.arm n).1) ∧ St w0 w' (refP r (σ.arm n).2 :: ps) := by
  have H0 := H
  obtain ⟨kv, pv, ok, H⟩ := ref_open H
  have hd := H.obj 0 rfl
  have h2 := hd.cell 2
  have h3 := hd.cell 3
  simp only [refCells, List.getElem?_cons_succ, List.getElem?_cons_zero] at h2 h3
  have f3 := hd.frozen 3
  have hok := Dk.arm_ok ok hb
  have HC := fun (τ : Dk) (w' : World) => @ref_close w0 w' ps r τ kv pv
  have HH := And.intro hok (And.intro H (And.intro HC H0))
  clear ok H hok HC hd H0 hb
  cases hdn : σ.down
  · rw [hdn] at h2
    by_cases h0 : 0 ≤ n
    · have e : σ.arm n = (0, { σ with armed := true, left := n }) := by simp [Dk.arm, hdn, h0]; omega
      have HE : refCells kv pv { σ with armed := true, left := n } = (refCells kv pv σ).set 3 (.int .i64 n) := by simp [refCells, refLeft]
      have HE := hid HE
      rw [e] at HH ⊢
      clear e hdn
      go_enter Tryd.func57, Tryd.ntmps57
      go_wp2
      go_ret
      exact ⟨rfl, HH.2.2.1 _ _ HH.1 (by rw [HE.out]; exact HH.2.1.set 0 rfl 3 _)⟩
    · have e : σ.arm n = (0, { σ with armed := false, left := 0 }) := by simp [Dk.arm, hdn]; omega
      have HE : refCells kv pv { σ with armed := false, left := 0 } = ((refCells kv pv σ).set 3 (.int .i64 n)).set 3 (.int .i64 (-1)) := by simp [refCells, refLeft]
      have HE := hid HE
      have hlt : n < 0 := by omega
      rw [e] at HH ⊢
      clear e hdn h0
      go_enter Tryd.func57, Tryd.ntmps57
      go_wp2
      go_ret
      exact ⟨rfl, HH.2.2.1 _ _ HH.1 (by rw [HE.out]; exact (HH.2.1.set 0 rfl 3 _).set 0 rfl 3 _)⟩
  · have e : σ.arm n = (10, σ) := by simp [Dk.arm, hdn]
    rw [e] at HH ⊢
    rw [hdn] at h2
    clear e hdn
    go_enter Tryd.func57, Tryd.ntmps57
    go_wp2
    go_ret
    exact ⟨rfl, HH.2.2.2⟩

/-! filled -/
theorem arr_append (s t : List UInt8) : (⟨s.toArray⟩ : ByteArray) ++ ⟨t.toArray⟩ = ⟨(s ++ t).toArray⟩ := by
  apply ByteArray.ext
  simp


/-- t is s with some noughts behind, not beyond a sector. -/
def PadOf (s t : ByteArray) : Prop := ∃ k : Nat, t.data.toList = s.data.toList ++ List.replicate k 0 ∧ (k = 0 ∨ s.size + k ≤ 64)

theorem PadOf.size {s t : ByteArray} (h : PadOf s t) : t.size ≤ max s.size 64 := by
  obtain ⟨k, h, hk⟩ := h
  have : t.data.toList.length = s.data.toList.length + k := by rw [h]; simp
  simp only [Array.length_toList, ByteArray.size_data] at this
  omega

theorem PadOf.more {s t : ByteArray} (h : PadOf s t) (hlt : t.size < 64) : PadOf s (t ++ ⟨#[0]⟩) := by
  obtain ⟨k, h, hk⟩ := h
  have : t.data.toList.length = s.data.toList.length + k := by rw [h]; simp
  simp only [Array.length_toList, ByteArray.size_data] at this
  refine ⟨k + 1, ?_, .inr (by omega)⟩
  simp [h, List.replicate_succ']

theorem PadOf.whole {s t : ByteArray} (h : PadOf s t) (hge : ¬ t.size < 64) : t = ⟨(pad s.data.toList).toArray⟩ := by
  obtain ⟨k, h, hk⟩ := h
  have : t.data.toList.length = s.data.toList.length + k := by rw [h]; simp
  simp only [Array.length_toList, ByteArray.size_data] at this
  apply ByteArray.ext
  apply Array.ext'
  rw [h]
  simp only [pad]
  congr 2
  simp only [Array.length_toList, ByteArray.size_data]
  omega

theorem push_size (t : ByteArray) : (t ++ ⟨#[0]⟩ : ByteArray).size = t.size + 1 := by simp [ByteArray.size_append]; rfl

set_option maxRecDepth 10000 in
theorem ref_filled (s : ByteArray) (w : World) (hs : s.size ≤ maxLen) :
    Calls Tryd.prog 52 #[.string s] w fun e w' => e = .returned (strV (pad s.data.toList)) ∧ w = w' := by
  unfold maxLen at hs
  go_enter Tryd.func52, Tryd.ntmps52
  go_wp2
  go_loop [0] (fun v => ∃ t : ByteArray, v = .string t ∧ PadOf s t) (fun v => match v with | .string t => 64 - t.size | _ => 0)
  case atStart => exact ⟨s, rfl, 0, by simp, .inl rfl⟩
  case round =>
    obtain ⟨t, rfl, ht⟩ := hrel
    have hsz := ht.size
    have hT := hid ht
    have hmax : (t.size : Int) ≤ 9223372036854775807 := by omega
    clear ht hs hsz
    by_cases hlt : t.size < 64
    · have hlt' : (t.size : Int) < 64 := by omega
      have hp := hid (push_size t)
      go_wp2
      go_round
      case rel => exact ⟨_, rfl, hT.out.more (by assumption)⟩
      case measure =>
        have := hp.out
        show 64 - (t ++ ⟨#[0]⟩ : ByteArray).size < 64 - t.size
        omega
    · have hlt' : ¬ (t.size : Int) < 64 := by omega
      have he := hid (hT.out.whole hlt)
      go_wp2
      go_ret
      exact ⟨by rw [strV, ← he.out]; rfl, rfl⟩


/-! Read -/
def lookTo (σ : Dk) (i k : Nat) : List UInt8 := (σ.pend.take k).foldl (fun acc p => if p.1 = i then p.2 else acc) (σ.kept.getD i [])

theorem lookTo_succ {σ : Dk} {i k : Nat} {q : Nat × List UInt8} (hq : σ.pend[k]? = some q) : lookTo σ i (k + 1) = if q.1 = i then q.2 else lookTo σ i k := by
  unfold lookTo
  rw [List.take_add_one, hq]
  simp [List.foldl_append]

theorem lookTo_all (σ : Dk) (i : Nat) : lookTo σ i σ.pend.length = σ.look i := by simp [lookTo, Dk.look]

theorem rpend_piece {σ : Dk} {k : Nat} {q : Nat × List UInt8} (hq : σ.pend[k]? = some q) : ((σ.pend.flatMap rpend).drop (k * 2)).take 2 = rpend q := by
  obtain ⟨hk, rfl⟩ := List.getElem?_eq_some_iff.1 hq
  exact flat_piece (f := rpend) (sz := 2) (fun _ _ => rfl) hk

set_option maxRecDepth 10000 in
theorem ref_read_bad {w0 w : World} {ps : List HP} {r : Nat} {σ : Dk} (H : St w0 w (refP r σ :: ps)) (i : Int) (hb : σ.down = true ∨ σ.has i = false) :
    Calls Tryd.prog 34 #[.pointer (some ⟨r, 0, none⟩), .int .i64 i] w fun e w' => e = .returned (.tuple #[strV (σ.read i).1, .int .i64 (σ.read i).2]) ∧ w = w' := by
  obtain ⟨kv, pv, ok, H⟩ := ref_open H
  have hd := H.obj 0 rfl
  have h0 := hd.cell 0
  have h2 := hd.cell 2
  simp only [refCells, List.getElem?_cons_succ, List.getElem?_cons_zero] at h0 h2
  obtain ⟨ao, cap, rfl, -, -⟩ := (H.sl 1 rfl).shape
  clear H hd ok
  cases hdn : σ.down
  · have hi : σ.has i = false := by simpa [hdn] using hb
    have e : σ.read i = ([], 2) := by simp [Dk.read, hdn, hi]
    rw [e]
    rw [hdn] at h2
    simp only [Dk.has, Bool.and_eq_false_iff, decide_eq_false_iff_not] at hi
    clear hb hdn e
    by_cases h1 : i < 0
    · clear hi
      go_enter Tryd.func34, Tryd.ntmps34
      go_wp2
      go_ret2
      exact ⟨rfl, rfl⟩
    · have h3 : (σ.kept.length : Int) ≤ i := by omega
      clear hi
      go_enter Tryd.func34, Tryd.ntmps34
      go_wp2
      go_ret2
      exact ⟨rfl, rfl⟩
  · have e : σ.read i = ([], 10) := by simp [Dk.read, hdn]
    rw [e]
    rw [hdn] at h2
    clear hb hdn e
    go_enter Tryd.func34, Tryd.ntmps34
    go_wp2
    go_ret2
    exact ⟨rfl, rfl⟩

theorem ret_s2 {a b : List UInt8} {x : Int} (h : a = b) : Ending.returned (.tuple #[strV a, .int .i64 x]) = .returned (.tuple #[strV b, .int .i64 x]) := by rw [h]

set_option maxRecDepth 10000 in
theorem ref_read_good {w0 w : World} {ps : List HP} {r : Nat} {σ : Dk} (H : St w0 w (refP r σ :: ps)) (i : Nat) (hdn : σ.down = false) (hi : σ.has i = true) :
    Calls Tryd.prog 34 #[.pointer (some ⟨r, 0, none⟩), .int .i64 (i : Int)] w fun e w' => e = .returned (.tuple #[strV (σ.look i), .int .i64 0]) ∧ w = w' := by
  obtain ⟨kv, pv, ok, H⟩ := ref_open H
  have hd := H.obj 0 rfl
  have h0 := hd.cell 0
  have h1 := hd.cell 1
  have h2 := hd.cell 2
  simp only [refCells, List.getElem?_cons_succ, List.getElem?_cons_zero] at h0 h1 h2
  rw [hdn] at h2
  have hlt := (Dk.has_lt hi).2
  obtain ⟨g, cap, cur, rfl, -⟩ := (H.sl 1 rfl).get (by omega)
  obtain ⟨ao, capp, rfl, hp1, hp2⟩ := (H.sl 2 rfl).shape
  have hkc : w.cell? ⟨g, i, none⟩ = some (strV (lookTo σ i 0)) := sl_cells (H.sl 1 rfl) (by
    rw [List.getElem?_map, List.getElem?_eq_getElem (by omega)]
    simp [lookTo, List.getD_eq_getElem?_getD, List.getElem?_eq_getElem (show i < σ.kept.length by omega)])
  have hmax : σ.pend.length ≤ 9223372036854775807 := by simp only [maxLen] at hp2; omega
  have HP := hid (H.sl 2 rfl)
  have OK := hid ok
  clear hd hdn hi H hp1 hp2 ok
  unfold strV at hkc
  go_enter Tryd.func34, Tryd.ntmps34
  go_wp2
  go_loop [6, 7] (fun s v => ∃ k : Nat, k ≤ σ.pend.length ∧ v = .int .i64 (k : Int) ∧ s = strV (lookTo σ i k)) (fun _ v => σ.pend.length - (intOf v).toNat)
  case atStart => exact ⟨0, Nat.zero_le _, rfl, rfl⟩
  case round =>
    obtain ⟨k, hk, rfl, rfl⟩ := hrel
    clear hkc
    by_cases hlk : k < σ.pend.length
    · obtain ⟨q, hq⟩ : ∃ q, σ.pend[k]? = some q := ⟨σ.pend[k], List.getElem?_eq_getElem hlk⟩
      obtain ⟨gp, cp, curp, e1, -⟩ := HP.out.get (by omega)
      simp only [Value.slice.injEq] at e1
      obtain ⟨rfl, -, rfl⟩ := e1
      have c0 : w.cell? ⟨gp, k * 2, none⟩ = some (.int .i64 (q.1 : Int)) := sl_cells HP.out (piece_get (rpend_piece hq) 0 rfl)
      have c1 : w.cell? ⟨gp, k * 2 + 1, none⟩ = some (strV q.2) := sl_cells HP.out (piece_get (rpend_piece hq) 1 rfl)
      unfold strV at c1 ⊢
      have hs := lookTo_succ (i := i) hq
      clear hq
      by_cases hqi : q.1 = i
      · rw [if_pos hqi] at hs
        have HS := hid hs
        have hqi' : ((q.1 : Int) == (i : Int)) = true := by simp [hqi]
        clear hs hqi
        go_wp2
        go_round
        case rel => exact ⟨k + 1, by omega, by go_num, by rw [HS.out]⟩
        case measure => first | (simp [intOf]; done) | (simp [intOf]; omega)
      · rw [if_neg hqi] at hs
        have HS := hid hs
        have hqi' : ((q.1 : Int) == (i : Int)) = false := by simp; omega
        clear hs hqi
        go_wp2
        go_round
        case rel => exact ⟨k + 1, by omega, by go_num, by rw [HS.out]⟩
        case measure => first | (simp [intOf]; done) | (simp [intOf]; omega)
    · have hlk' : ¬ (k : Int) < (σ.pend.length : Int) := by omega
      have ek : k = σ.pend.length := by omega
      subst ek
      have HA := hid (lookTo_all σ i)
      go_wp2
      go_ret2
      exact ⟨ret_s2 HA.out, rfl⟩

theorem ref_read {w0 w : World} {ps : List HP} {r : Nat} {σ : Dk} (H : St w0 w (refP r σ :: ps)) (i : Int) :
    Calls Tryd.prog 34 #[.pointer (some ⟨r, 0, none⟩), .int .i64 i] w fun e w' => e = .returned (.tuple #[strV (σ.read i).1, .int .i64 (σ.read i).2]) ∧ w = w' := by
  by_cases h : σ.down = true ∨ σ.has i = false
  · exact ref_read_bad H i h
  · have h1 : σ.down = false := by simpa using fun e => h (.inl e)
    have h2 : σ.has i = true := by simpa using fun e => h (.inr e)
    obtain ⟨n, rfl⟩ := Int.eq_ofNat_of_zero_le (Dk.has_lt h2).1
    have e : σ.read (n : Int) = (σ.look n, 0) := by simp [Dk.read, h1, h2]
    rw [e]
    exact ref_read_good H n h1 h2


theorem info_rw : ∃ i, Tryd.prog.info? 103 = some i ∧ i.zero = some (.agg [.int .i64 0, .string ⟨#[]⟩].toArray) ∧ i.size = 2 ∧ i.bytes = 24 := info_of (by kernel_rfl)

theorem size_rw : (Tryd.prog.info? 103).map (·.size) = some 2 := by kernel_rfl
theorem zero_rw : (Tryd.prog.info? 103).bind (·.zero) = some (.agg [.int .i64 0, .string ⟨#[]⟩].toArray) := by kernel_rfl

theorem ref_write_bad {w0 w : World} {ps : List HP} {r : Nat} {σ : Dk} (H : St w0 w (refP r σ :: ps)) (i : Int) (s : ByteArray) (hs : s.size ≤ maxLen) (hb : σ.down = true ∨ σ.has i = false ∨ 64 < s.size ∨ σ.does.1 ≠ 0) :
    Calls Tryd.prog 60 #[.pointer (some ⟨r, 0, none⟩), .int .i64 i, .string s] w fun e w' => e = .returned (.int .i64 (σ.write i s.data.toList).1) ∧ St w0 w' (refP r (σ.write i s.data.toList).2 :: ps) := by
  have H0 := H
  have HD := fun W (hW : W = w) => hW ▸ ref_does H
  obtain ⟨kv, pv, ok, H⟩ := ref_open H
  have hd := H.obj 0 rfl
  have h0 := hd.cell 0
  have h2 := hd.cell 2
  simp only [refCells, List.getElem?_cons_succ, List.getElem?_cons_zero] at h0 h2
  obtain ⟨ao, cap, rfl, -, -⟩ := (H.sl 1 rfl).shape
  unfold maxLen at hs
  clear H hd ok
  cases hdn : σ.down
  · rw [hdn] at h2
    cases hi : σ.has i
    · have e : σ.write i s.data.toList = (2, σ) := by simp [Dk.write, hdn, hi]
      rw [e]
      simp only [Dk.has, Bool.and_eq_false_iff, decide_eq_false_iff_not] at hi
      have HX := hid H0
      clear hb hdn e H0 HD
      by_cases h1 : i < 0
      · clear hi
        go_enter Tryd.func60, Tryd.ntmps60
        go_wp2
        go_ret
        exact ⟨rfl, HX.out⟩
      · have h3 : (σ.kept.length : Int) ≤ i := by omega
        clear hi
        go_enter Tryd.func60, Tryd.ntmps60
        go_wp2
        go_ret
        exact ⟨rfl, HX.out⟩
    · obtain ⟨hi1, hi2⟩ := Dk.has_lt hi
      have hl : s.data.toList.length = s.size := by simp
      by_cases hlen : 64 < s.size
      · have e : σ.write i s.data.toList = (3, σ) := by simp only [Dk.write, hdn, hi, hl, if_pos hlen, Bool.false_eq_true, if_false, if_true]
        rw [e]
        have HX := hid H0
        have hlen' : 64 < (s.size : Int) := by omega
        clear hb hdn e H0 HD hi hl hlen
        go_enter Tryd.func60, Tryd.ntmps60
        go_wp2
        go_ret
        exact ⟨rfl, HX.out⟩
      · have hg : σ.does.1 ≠ 0 := by
          rcases hb with h | h | h | h
          · rw [hdn] at h; cases h
          · rw [hi] at h; cases h
          · exact absurd h hlen
          · exact h
        have e : σ.write i s.data.toList = (10, σ.does.2) := by simp only [Dk.write, hdn, hi, hl, if_neg hlen, if_neg hg, Bool.false_eq_true, if_false, if_true]
        have ed : σ.does.1 = 10 := by unfold Dk.does at hg ⊢; split at hg <;> simp_all
        rw [e]
        rw [ed] at HD
        have hlen' : ¬ 64 < (s.size : Int) := by omega
        clear hb hdn e H0 hi hl hlen hg ed
        go_enter Tryd.func60, Tryd.ntmps60
        go_wp2_with (go_at_call 79; refine (HD _ rfl).mono ?_; rintro e w1 ⟨rfl, H1⟩)
        go_ret
        exact ⟨rfl, H1⟩
  · have e : σ.write i s.data.toList = (10, σ) := by simp [Dk.write, hdn]
    rw [e]
    rw [hdn] at h2
    have HX := hid H0
    clear hb hdn e H0 HD
    go_enter Tryd.func60, Tryd.ntmps60
    go_wp2
    go_ret
    exact ⟨rfl, HX.out⟩

set_option maxRecDepth 20000 in
set_option maxHeartbeats 800000 in
theorem ref_write_good {w0 w : World} {ps : List HP} {r : Nat} {σ : Dk} (H : St w0 w (refP r σ :: ps)) (i : Nat) (s : ByteArray) (hdn : σ.down = false) (hi : σ.has i = true) (hs : s.size ≤ 64) (hg : σ.does.1 = 0) (hroom : σ.pend.length ≤ 1000000000) :
    Calls Tryd.prog 60 #[.pointer (some ⟨r, 0, none⟩), .int .i64 (i : Int), .string s] w fun e w' => e = .returned (.int .i64 0) ∧ St w0 w' (refP r (σ.does.2.put i s.data.toList) :: ps) := by
  have HD := fun W (hW : W = w) => hW ▸ ref_does H
  rw [hg] at HD
  have hkp := Dk.does_kept σ
  obtain ⟨kv, pv, ok, H⟩ := ref_open H
  have hd := H.obj 0 rfl
  have h0 := hd.cell 0
  have h2 := hd.cell 2
  simp only [refCells, List.getElem?_cons_succ, List.getElem?_cons_zero] at h0 h2
  rw [hdn] at h2
  obtain ⟨ao, cap, rfl, -, -⟩ := (H.sl 1 rfl).shape
  obtain ⟨hi1, hi2⟩ := Dk.has_lt hi
  have hs' : ¬ 64 < (s.size : Int) := by omega
  have hsm : (s.size : Int) ≤ 9223372036854775807 := by omega
  obtain ⟨t, ht⟩ : ∃ t : ByteArray, Hid (t = ⟨(pad s.data.toList).toArray⟩) := ⟨_, hid rfl⟩
  have hFi : ∀ W, Calls Tryd.prog 52 #[.string s] W fun e w' => e = .returned (.string t) ∧ W = w' := fun W => by rw [ht.out]; exact ref_filled s W (by simp only [maxLen]; omega)
  have HK := hid hkp
  have HG := hid hs
  clear H hd hdn hi hg hkp hs ok
  go_enter Tryd.func60, Tryd.ntmps60
  go_wp2_with fail
  refine (HD _ rfl).mono ?_
  rintro e w1 ⟨rfl, H1⟩
  obtain ⟨kv1, pv1, ok1, H1⟩ := ref_open H1
  have hd := H1.obj 0 rfl
  have c1 := hd.cell 1
  have f1 := hd.frozen 1
  have hL := hd.lt
  have hi0 : ¬ (i : Int) < 0 := by omega
  simp only [refCells, List.getElem?_cons_succ, List.getElem?_cons_zero] at c1
  have HH := And.intro ok1 H1
  clear ok1 H1 HD hd h0 h2
  obtain ⟨nf, hi', hz', hs2, hb2⟩ := info_rw
  have HI := hid (And.intro hi' (And.intro hz' (And.intro hs2 hb2)))
  have P2 := (Pres.refl [] w1).alloc (.cells #[] 103)
  have S2 : Sl (w1.alloc (.cells #[] 103)) 103 2 (.slice (some ⟨w1.heap.size, 0, none⟩) 0 0) 0 [] := ⟨rfl, .inr ⟨_, 0, [], rfl, At.new w1 [] _, Nat.le_refl _, by simp [maxLen], rfl, rfl⟩⟩
  have H2 := hid (HH.2.slice S2 P2 (by simp [fpv]))
  have HP := hid (H2.out.sl 3 rfl)
  have h1c : ∀ u ∈ σ.does.2.pend.flatMap rpend, u.oneCell' = true := by
    intro u hu
    obtain ⟨q, -, hq⟩ := List.mem_flatMap.1 hu
    simp [rpend, strV] at hq
    rcases hq with rfl | rfl <;> rfl
  have hpl : σ.does.2.pend.length ≤ 1000000000 := by rw [HK.out.2]; exact hroom
  have H1c := hid h1c
  have OKs := hid HH.1
  clear HH P2 hi' hz' hs2 hb2 hroom h1c
  go_wp2_with (first
    | ((with_reducible refine at_append ?_); refine wpL_app rfl (.tmp 32) (.tmp 36) 67 67 rfl 103 nf _ 2 Tryd.underlying67 HI.out.1 HI.out.2.1 HI.out.2.2.1 rfl _ 0 [] rfl S2 σ.does.2.pend.length (σ.does.2.pend.flatMap rpend) (Src.sl Tryd.underlying67 HP.out H1c.out) (by simp only [maxLen]; omega) (by rw [HI.out.2.2.2]; omega) ?_; intro v2 w2 X1 X2 X3; simp only [Nat.zero_add, List.nil_append] at X1; have H3 := hid (H2.out.grow 0 rfl X1 X2 X3); clear X1 X2 X3)
    | (go_at_call 52; refine (hFi _).mono ?_; rintro e w3 ⟨rfl, rfl⟩)
    | ((with_reducible refine at_slit ?_); refine wpList_plain rfl fun K hK => wp_value (run_slit_one (n := 2) (v := .agg #[.int .i64 (i : Int), .string t]) rfl rfl Tryd.underlying67 size_rw zero_rw rfl (by omega) (by omega) rfl) (hK _ _ ?_); clear hK K; have A4 := At.new w2 [.int .i64 (i : Int), .string t] 103; have H4 := hid (H3.out.quiet ((Pres.refl [] w2).alloc (.cells #[.int .i64 (i : Int), .string t] 103))); have X4 := H4.out.sl 0 rfl)
    | ((with_reducible refine at_append ?_); go_must (refine wpL_app rfl (.tmp 37) (.tmp 42) 67 67 rfl 103 nf _ 2 Tryd.underlying67 HI.out.1 HI.out.2.1 HI.out.2.2.1 rfl _ σ.does.2.pend.length _ rfl X4 1 [.int .i64 (i : Int), .string t] (Src.at Tryd.underlying67 A4 rfl (by simp [Value.oneCell'])) (by simp only [maxLen]; omega) (by rw [HI.out.2.2.2]; omega) ?_); intro v5 w5 Y1 Y2 Y3; have H5 := hid (H4.out.grow 0 rfl Y1 Y2 Y3); obtain ⟨ao5, cap5, rfl, -, -⟩ := Y1.shape; have f5 := (H5.out.obj 1 rfl).frozen 1; have c5 := (H5.out.obj 1 rfl).cell 1; simp only [refCells, List.getElem?_cons_succ, List.getElem?_cons_zero] at c5; clear Y1 Y2 Y3))
  go_ret
  refine ⟨rfl, ref_close (kv := kv1) (pv := .slice ao5 (σ.does.2.pend.length + 1) cap5) (Dk.put_ok OKs.out (by rw [HK.out.1]; omega) (by simpa using HG.out)) ?_⟩
  have H6 := (((H5.out.set 1 rfl 1 (.slice ao5 (σ.does.2.pend.length + 1) cap5)).pull 3 rfl).drop).perm (List.Perm.swap _ _ _)
  have H7 := H6.perm ((List.Perm.swap _ _ _).cons _)
  simp only [Dk.put, List.length_append, List.length_cons, List.length_nil, List.flatMap_append, List.flatMap_cons, List.flatMap_nil, List.append_nil, rpend, strV, ← ht.out]
  exact H7


theorem ref_write {w0 w : World} {ps : List HP} {r : Nat} {σ : Dk} (H : St w0 w (refP r σ :: ps)) (i : Int) (s : ByteArray) (hs : s.size ≤ maxLen) (hroom : σ.pend.length ≤ 1000000000) :
    Calls Tryd.prog 60 #[.pointer (some ⟨r, 0, none⟩), .int .i64 i, .string s] w fun e w' => e = .returned (.int .i64 (σ.write i s.data.toList).1) ∧ St w0 w' (refP r (σ.write i s.data.toList).2 :: ps) := by
  by_cases h : σ.down = true ∨ σ.has i = false ∨ 64 < s.size ∨ σ.does.1 ≠ 0
  · exact ref_write_bad H i s hs h
  · simp only [not_or] at h
    obtain ⟨h1, h2, h3, h4⟩ := h
    have h1 : σ.down = false := by simpa using h1
    have h2 : σ.has i = true := by simpa using h2
    have h4 : σ.does.1 = 0 := by simpa using h4
    obtain ⟨n, rfl⟩ := Int.eq_ofNat_of_zero_le (Dk.has_lt h2).1
    have e : σ.write (n : Int) s.data.toList = (0, σ.does.2.put n s.data.toList) := by
      have hl : ¬ s.data.toList.length > 64 := by simp; omega
      simp only [Dk.write, h1, h2, if_neg hl, h4, Bool.false_eq_true, if_false, if_true, Int.toNat_natCast]
    rw [e]
    exact ref_write_good H n s h1 h2 (by omega) h4 hroom

/-! keep -/
/-- What is kept of the first k pending writes. -/
def selTo (σ : Dk) (all : Bool) (keep : List Bool) (k : Nat) : List (Nat × List UInt8) := if all then σ.pend.take k else marked keep 0 (σ.pend.take k)

def Dk.keptBy (σ : Dk) (all : Bool) (keep : List Bool) : Dk := { σ with kept := keepAll σ.kept (selTo σ all keep σ.pend.length), pend := [] }

theorem selTo_mem {σ : Dk} {all : Bool} {keep : List Bool} {k : Nat} {p : Nat × List UInt8} (h : p ∈ selTo σ all keep k) : p ∈ σ.pend := by
  unfold selTo at h
  split at h
  · exact List.mem_of_mem_take h
  · exact List.mem_of_mem_take (marked_sub keep _ _ _ h)

theorem selTo_succ {σ : Dk} {all : Bool} {keep : List Bool} {k : Nat} {q : Nat × List UInt8} (hq : σ.pend[k]? = some q) :
    selTo σ all keep (k + 1) = selTo σ all keep k ++ (if (all || keep.getD k false) = true then [q] else []) := by
  have hk : k < σ.pend.length := (List.getElem?_eq_some_iff.1 hq).1
  unfold selTo
  have e : σ.pend.take (k + 1) = σ.pend.take k ++ [q] := by rw [List.take_add_one, hq]; rfl
  rw [e]
  cases all
  · have hl : (σ.pend.take k).length = k := by simp; omega
    simp [marked_snoc, hl]
  · simp

theorem Dk.keptBy_ok {σ : Dk} (ok : σ.Ok) (all : Bool) (keep : List Bool) : (σ.keptBy all keep).Ok :=
  ⟨by simpa [Dk.keptBy, keepAll_length] using ok.pos, by simpa [Dk.keptBy, keepAll_length] using ok.most, keepAll_full _ _ ok.full (fun p hp => (ok.pend p (selTo_mem hp)).2), by simp [Dk.keptBy], ok.left0, ok.left1⟩

/-- What holds at the head of a round of keep. -/
def KeepAt (w0 wr : World) (ps : List HP) (r : Nat) (kv pv : Value) (σ : Dk) (kept : List (List UInt8)) : Prop :=
  St w0 wr (objP r (refCells kv pv σ) 69 :: slP kv 9 1 σ.kept.length (kept.map strV) :: slP pv 103 2 σ.pend.length (σ.pend.flatMap rpend) :: ps)

set_option maxRecDepth 10000 in
set_option maxHeartbeats 1000000 in
theorem ref_keep {w0 w : World} {ps : List HP} {r : Nat} {σ : Dk} (H : St w0 w (refP r σ :: ps)) (all : Bool) (wv : Value) (keep : List Bool) (hk : Safe w0 ps wv (keep.map Value.bool)) :
    Calls Tryd.prog 78 #[.pointer (some ⟨r, 0, none⟩), wv, .bool all] w fun e w' => e = .returned (.tuple #[]) ∧ St w0 w' (refP r (σ.keptBy all keep) :: ps) := by
  obtain ⟨kv, pv, ok, H⟩ := ref_open H
  obtain ⟨g, cap, cur, rfl, -⟩ := (H.sl 1 rfl).get ok.pos
  obtain ⟨aop, capp, rfl, hp1, hp2⟩ := (H.sl 2 rfl).shape
  obtain ⟨aw, capw, ew, hw1, hw2, -⟩ := id (hk.reads H.drop.drop.drop)
  rw [List.length_map] at ew hw1
  subst ew
  have hmax : σ.pend.length ≤ 9223372036854775807 := by simp only [maxLen] at hp2; omega
  have hmaxw : keep.length ≤ 9223372036854775807 := by simp only [maxLen] at hw2; omega
  have HM : KeepAt w0 w ps r (.slice (some ⟨g, 0, none⟩) σ.kept.length cap) (.slice aop σ.pend.length capp) σ (keepAll σ.kept (selTo σ all keep 0)) := by
    have : selTo σ all keep 0 = [] := by unfold selTo; cases all <;> simp [marked]
    rw [this]
    exact H
  have HK := hid hk
  have OK := hid ok
  have hpos := ok.pos
  have hmost := ok.most
  clear H ok hp1 hp2 hw1 hw2 hk
  go_enter Tryd.func78, Tryd.ntmps78
  go_wp2
  go_loopw [6] (fun iv wr => ∃ k : Nat, k ≤ σ.pend.length ∧ iv = .int .i64 (k : Int) ∧ KeepAt w0 wr ps r (.slice (some ⟨g, 0, none⟩) σ.kept.length cap) (.slice aop σ.pend.length capp) σ (keepAll σ.kept (selTo σ all keep k))) (fun iv _ => σ.pend.length - (intOf iv).toNat)
  case atStart => exact ⟨0, Nat.zero_le _, rfl, HM⟩
  case round =>
    obtain ⟨k, hkl, rfl, hM⟩ := hrel
    clear HM
    have hd := St.obj hM 0 rfl
    have g0 := hd.cell 0
    have g1 := hd.cell 1
    have f1 := hd.frozen 1
    simp only [refCells, List.getElem?_cons_succ, List.getElem?_cons_zero] at g0 g1
    by_cases hlt : k < σ.pend.length
    · obtain ⟨q, hq⟩ : ∃ q, σ.pend[k]? = some q := ⟨σ.pend[k], List.getElem?_eq_getElem hlt⟩
      obtain ⟨gp, cp, curp, e1, -⟩ := (St.sl hM 2 rfl).get (by omega)
      simp only [Value.slice.injEq] at e1
      obtain ⟨rfl, -, rfl⟩ := e1
      have c0 : wr.cell? ⟨gp, k * 2, none⟩ = some (.int .i64 (q.1 : Int)) := sl_cells (St.sl hM 2 rfl) (piece_get (rpend_piece hq) 0 rfl)
      have c1 : wr.cell? ⟨gp, k * 2 + 1, none⟩ = some (strV q.2) := sl_cells (St.sl hM 2 rfl) (piece_get (rpend_piece hq) 1 rfl)
      have hq1 := (OK.out.pend q (List.mem_of_getElem? hq)).1
      have hqi : (q.1 : Int) ≤ 9223372036854775807 := by omega
      have hql : (q.1 : Int) < (σ.kept.length : Int) := by omega
      have fz := (St.sl hM 1 rfl).frozen q.1
      obtain ⟨u, hu⟩ : ∃ u, wr.cell? ⟨g, q.1, none⟩ = some u := ⟨_, sl_cells (St.sl hM 1 rfl) (List.getElem?_eq_getElem (by rw [List.length_map, keepAll_length]; exact hq1))⟩
      have hs := selTo_succ (all := all) (keep := keep) hq
      have HR := hid (HK.out.reads (St.drop (St.drop (St.drop hM))))
      have HMM := hid hM
      clear hM hd hq HK
      unfold strV at c1
      cases hb : (all || keep.getD k false)
      · rw [hb, if_neg (by simp), List.append_nil] at hs
        have HS := hid hs
        simp only [Bool.or_eq_false_iff] at hb
        obtain ⟨rfl, hb2⟩ := hb
        clear hs
        by_cases hkw : k < keep.length
        · have hb3 : keep[k]? = some false := by rw [List.getD_eq_getElem?_getD, List.getElem?_eq_getElem hkw] at hb2; rw [List.getElem?_eq_getElem hkw]; simpa using hb2
          obtain ⟨bw, offw, rfl, hcw⟩ : ∃ bw offw, aw = some ⟨bw, offw, none⟩ ∧ wr.cell? ⟨bw, offw + k, none⟩ = some (.bool false) := by
            obtain ⟨ao, cp', e, -, -, h⟩ := HR.out
            simp only [List.length_map, Value.slice.injEq, true_and] at e
            obtain ⟨rfl, -⟩ := e
            exact h k (.bool false) (by rw [List.getElem?_map, hb3]; rfl)
          have hkw' : (k : Int) < (keep.length : Int) := by omega
          clear hb2 hb3
          go_wp2
          go_roundw
          case rel => exact ⟨k + 1, by omega, by go_num, by rw [HS.out]; exact HMM.out⟩
          case measure => first | (simp [intOf]; done) | (simp [intOf]; omega)
        · have hkw' : ¬ (k : Int) < (keep.length : Int) := by omega
          clear hb2
          go_wp2
          go_roundw
          case rel => exact ⟨k + 1, by omega, by go_num, by rw [HS.out]; exact HMM.out⟩
          case measure => first | (simp [intOf]; done) | (simp [intOf]; omega)
      · rw [hb, if_pos rfl] at hs
        have HS := hid hs
        have HF : ∀ w', St w0 w' ((objP r (refCells (.slice (some ⟨g, 0, none⟩) σ.kept.length cap) (.slice (some ⟨gp, 0, none⟩) σ.pend.length capp) σ) 69 :: slP (.slice (some ⟨g, 0, none⟩) σ.kept.length cap) 9 1 σ.kept.length (((keepAll σ.kept (selTo σ all keep k)).map strV).set q.1 (strV q.2)) :: slP (.slice (some ⟨gp, 0, none⟩) σ.pend.length capp) 103 2 σ.pend.length (σ.pend.flatMap rpend) :: ps)) → KeepAt w0 w' ps r (.slice (some ⟨g, 0, none⟩) σ.kept.length cap) (.slice (some ⟨gp, 0, none⟩) σ.pend.length capp) σ (keepAll σ.kept (selTo σ all keep (k + 1))) := by
          intro w' h
          unfold KeepAt
          rw [HS.out, keepAll_snoc, List.map_set]
          exact h
        have HF := hid HF
        clear hs
        have hcase : all = true ∨ (all = false ∧ ∃ bw offw, aw = some ⟨bw, offw, none⟩ ∧ wr.cell? ⟨bw, offw + k, none⟩ = some (.bool true) ∧ (k : Int) < (keep.length : Int)) := by
          cases all
          · right
            simp only [Bool.false_or] at hb
            have hkw : k < keep.length := by
              by_cases h : k < keep.length
              · exact h
              · rw [List.getD_eq_getElem?_getD, List.getElem?_eq_none (by omega)] at hb; cases hb
            have hb3 : keep[k]? = some true := by rw [List.getD_eq_getElem?_getD, List.getElem?_eq_getElem hkw] at hb; rw [List.getElem?_eq_getElem hkw]; simpa using hb
            obtain ⟨ao, cp', e, -, -, h⟩ := HR.out
            simp only [List.length_map, Value.slice.injEq, true_and] at e
            obtain ⟨rfl, -⟩ := e
            obtain ⟨bw, offw, h1, h2⟩ := h k (.bool true) (by rw [List.getElem?_map, hb3]; rfl)
            exact ⟨rfl, bw, offw, h1, h2, by omega⟩
          · exact .inl rfl
        clear hb HR
        rcases hcase with rfl | ⟨rfl, bw, offw, rfl, hcw, hkw⟩
        all_goals
          go_upto_region 4 with (fail)
          refine wp_region_ord (by kernel_rfl) (fun W => W.cell? ⟨r, 0, none⟩ = some (.slice (some ⟨g, 0, none⟩) σ.kept.length cap) ∧ W.cell? ⟨r, 1, none⟩ = some (.slice (some ⟨gp, 0, none⟩) σ.pend.length capp) ∧ W.cell? ⟨gp, k * 2, none⟩ = some (.int .i64 (q.1 : Int)) ∧ W.cell? ⟨gp, k * 2 + 1, none⟩ = some (.string ⟨q.2.toArray⟩)) 21 [(0, true), (1, true), (2, true), (3, true), (4, true), (5, true), (6, true), (7, true), (8, true), (9, true), (10, true), (11, true), (12, true), (13, true), (14, true), (15, true), (16, true), (17, true), (18, true), (19, true), (20, true)] (by kernel_rfl) ?hq ⟨g0, g1, c0, c1⟩ ?_
          case hq => intro c a dd v w h; cases dd <;> exact h
          iterate 21 (refine wpOrd_read (v := _) rfl rfl (by intro w' hS; obtain ⟨s1, s2, s3, s4⟩ := id hS; clear hS; go_simp; rfl) ?_; (try simp only [Act.put, List.setIfInBounds_toArray, List.set_cons_succ, List.set_cons_zero, List.getElem_toArray, List.getElem_cons_succ, List.getElem_cons_zero]))
          refine wpOrd_end ?_
          simp only [List.drop_succ_cons, List.drop_zero]
          have HD := hid (St.drew HMM.out)
          have fz' : wr.drew.frozen? ⟨g, q.1, none⟩ = false := fz
          have hu' : wr.drew.cell? ⟨g, q.1, none⟩ = some u := hu
          generalize wr.drew = wd at *
          clear c0 c1 g0 g1 hu fz
          go_wp2
          go_roundw
          case rel => exact ⟨k + 1, by omega, by go_num, HF.out _ (St.sset HD.out 1 rfl q.1 hq1 (strV q.2))⟩
          case measure => first | (simp [intOf]; done) | (simp [intOf]; omega)
    · have hend : ¬ (k : Int) < (σ.pend.length : Int) := by omega
      have ek : k = σ.pend.length := by omega
      subst ek
      have HMM := hid hM
      clear hM hd HK
      go_wp2
      go_end0
      refine ⟨rfl, ref_close (Dk.keptBy_ok OK.out all keep) (kv := .slice (some ⟨g, 0, none⟩) σ.kept.length cap) (pv := .slice none 0 0) ?_⟩
      have H1 := St.set HMM.out 0 rfl 1 (.slice none 0 0)
      have H2 := (H1.pull 2 rfl).drop
      have H3 := (H2.nil 103 2).perm ((List.Perm.swap _ _ _).trans ((List.Perm.swap _ _ _).cons _))
      simp only [Dk.keptBy, keepAll_length]
      exact H3

end Go.Proofs.YtjaabhdgahljcaaDoor
