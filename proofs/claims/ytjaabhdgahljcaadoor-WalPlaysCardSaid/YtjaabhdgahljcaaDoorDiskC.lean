/- New and Read of a disk; the conditions stand in the theorems. -/
import Derived.Test.YtjaabhdgahljcaaDoorDiskB
namespace Go.Proofs.YtjaabhdgahljcaaDoor
open Go.RowKit

theorem info_block : ∃ i, Tryd.prog.info? 81 = some i ∧ i.zero = some (.agg (List.replicate 64 (byteV 0)).toArray) ∧ i.size = 64 ∧ i.bytes = 64 := info_of (by kernel_rfl)
theorem info_write : ∃ i, Tryd.prog.info? 83 = some i ∧ i.zero = some (.agg (Value.int .i64 0 :: List.replicate 64 (byteV 0)).toArray) ∧ i.size = 65 ∧ i.bytes = 72 := info_of (by kernel_rfl)
theorem size_block : (Tryd.prog.info? 81).map (·.size) = some 64 := by kernel_rfl
theorem size_write : (Tryd.prog.info? 83).map (·.size) = some 65 := by kernel_rfl
theorem zero_write : (Tryd.prog.info? 83).bind (·.zero) = some (.agg (Value.int .i64 0 :: List.replicate 64 (byteV 0)).toArray) := by kernel_rfl
theorem agg_block : IsAgg Tryd.prog 81 := ⟨_, Tryd.underlying81, rfl⟩
theorem agg_write : IsAgg Tryd.prog 83 := ⟨_, Tryd.underlying83, rfl⟩

/-- What New makes: a number that may be. -/
theorem new_ok (m : Nat) (w : World) (h1 : 1 ≤ m) (h2 : m ≤ 65536) :
    Calls Tryd.prog 27 #[.int .i64 (m : Int)] w fun e w' => ∃ d fp, e = .returned (.tuple #[.pointer (some ⟨d, 0, none⟩), .int .i64 0]) ∧ DiskAt w' d fp (Dk.new m) ∧ Pres [] w w' ∧ ∀ k ∈ fp, w.heap.size ≤ k := by
  obtain ⟨i, hi, hz, hs, hb⟩ := info_block
  have HI := And.intro hi (And.intro hz (And.intro hs hb))
  clear hi hz hs hb
  go_enter Tryd.func27, Tryd.ntmps27
  go_wp2_with (refine wpL_make rfl 85 (.tmp 10) (.tmp 10) rfl 81 i _ (byteV 0) Tryd.underlying85 HI.1 HI.2.1 (by rw [HI.2.2.1]; rfl) (by rw [HI.2.2.1]; omega) m rfl rfl (by rw [HI.2.2.2]; omega) (by omega) ?_; intro w1 A1 P1 S1)
  go_ret2
  have ok := Dk.new_ok (n := m) (by omega) (by omega)
  refine ⟨w.heap.size + 1, [w.heap.size + 1, w.heap.size], rfl, ⟨w.heap.size, .slice none 0 0, rfl, by omega, by simp [fpv], by simp [fpv], ?_, ?_, Sl.nil _ _ _, ok⟩, P1.alloc _, by simp⟩
  · have := At.new w1 (diskCells w.heap.size (.slice none 0 0) (Dk.new m)) 87
    rw [S1] at this
    simpa [diskCells, Dk.new] using this
  · have e : keptCells (Dk.new m).kept = List.replicate (m * i.size) (byteV 0) := by
      rw [HI.2.2.1]
      exact flat_replicate _ _ _
    rw [e]
    exact A1.alloc _

theorem new_ok' (n : Int) (w : World) (h1 : 1 ≤ n) (h2 : n ≤ 65536) :
    Calls Tryd.prog 27 #[.int .i64 n] w fun e w' => ∃ d fp, e = .returned (.tuple #[.pointer (some ⟨d, 0, none⟩), .int .i64 0]) ∧ DiskAt w' d fp (Dk.new n.toNat) ∧ Pres [] w w' ∧ ∀ k ∈ fp, w.heap.size ≤ k := by
  obtain ⟨m, rfl⟩ := Int.eq_ofNat_of_zero_le (show 0 ≤ n by omega)
  rw [Int.toNat_natCast]
  exact new_ok m w (by omega) (by omega)

/-- What New makes: a number that may not be. -/
theorem new_bad (n : Int) (w : World) (h : n < 1 ∨ 65536 < n) :
    Calls Tryd.prog 27 #[.int .i64 n] w fun e w' => e = .returned (.tuple #[.pointer none, .int .i64 2]) ∧ w = w' := by
  by_cases h1 : n < 1
  · clear h
    go_enter Tryd.func27, Tryd.ntmps27
    go_wp2
    go_ret2
    exact ⟨rfl, rfl⟩
  · have h2 : 65536 < n := by omega
    clear h
    go_enter Tryd.func27, Tryd.ntmps27
    go_wp2
    go_ret2
    exact ⟨rfl, rfl⟩

/-- The pending writes from place k on do not hit the sector. -/
def NoneFrom (σ : Dk) (i k : Nat) : Prop := ∀ j, k ≤ j → ∀ p, σ.pend[j]? = some p → p.1 ≠ i

theorem noneFrom_all (σ : Dk) (i : Nat) : NoneFrom σ i σ.pend.length := fun j hj p hp => by rw [List.getElem?_eq_none hj] at hp; cases hp

theorem look_none {σ : Dk} {i : Nat} (h : NoneFrom σ i 0) : σ.look i = σ.kept.getD i [] := by
  unfold Dk.look
  have key : ∀ (ps : List (Nat × List UInt8)) (acc : List UInt8), (∀ p ∈ ps, p.1 ≠ i) → ps.foldl (fun acc p => if p.1 = i then p.2 else acc) acc = acc := by
    intro ps
    induction ps with
    | nil => intro acc _; rfl
    | cons p ps ih => intro acc hp; simp only [List.foldl_cons]; rw [if_neg (hp p (by simp))]; exact ih _ (fun q hq => hp q (by simp [hq]))
  refine key _ _ fun p hp => ?_
  obtain ⟨j, hj⟩ := List.mem_iff_getElem?.1 hp
  exact h j (Nat.zero_le _) p hj

theorem look_last {σ : Dk} {i k : Nat} {p : Nat × List UInt8} (h : NoneFrom σ i (k + 1)) (hk : σ.pend[k]? = some p) (hp : p.1 = i) : σ.look i = p.2 := by
  unfold Dk.look
  have hlt : k < σ.pend.length := (List.getElem?_eq_some_iff.1 hk).1
  have e : σ.pend = σ.pend.take k ++ (p :: σ.pend.drop (k + 1)) := by
    have h1 : σ.pend[k] = p := (List.getElem?_eq_some_iff.1 hk).2
    rw [← h1, List.getElem_cons_drop, List.take_append_drop]
  have key : ∀ (ps : List (Nat × List UInt8)) (acc : List UInt8), (∀ p ∈ ps, p.1 ≠ i) → ps.foldl (fun acc p => if p.1 = i then p.2 else acc) acc = acc := by
    intro ps
    induction ps with
    | nil => intro acc _; rfl
    | cons p ps ih => intro acc hp; simp only [List.foldl_cons]; rw [if_neg (hp p (by simp))]; exact ih _ (fun q hq => hp q (by simp [hq]))
  rw [e, List.foldl_append, List.foldl_cons, if_pos hp]
  refine key _ _ fun q hq => ?_
  obtain ⟨j, hj⟩ := List.mem_iff_getElem?.1 hq
  rw [List.getElem?_drop] at hj
  exact h (k + 1 + j) (by omega) q hj

theorem kept_piece {σ : Dk} (ok : σ.Ok) {i : Nat} (hi : i < σ.kept.length) : ((keptCells σ.kept).drop (i * 64)).take 64 = (σ.kept.getD i []).map byteV := by
  rw [List.getD_eq_getElem?_getD, List.getElem?_eq_getElem hi]
  exact flat_piece ok.blocks hi

theorem pend_piece {σ : Dk} (ok : σ.Ok) {k : Nat} {q : Nat × List UInt8} (hq : σ.pend[k]? = some q) : ((pendCells σ.pend).drop (k * 65)).take 65 = writeCells q := by
  obtain ⟨hk, rfl⟩ := List.getElem?_eq_some_iff.1 hq
  exact flat_piece ok.writes hk

theorem write_text {q : Nat × List UInt8} (h : q.2.length = 64) : ((writeCells q).drop 1).take 64 = q.2.map byteV := by
  simp only [writeCells, List.drop_succ_cons, List.drop_zero]
  exact List.take_of_length_le (by simp [h])

theorem ret_si {a b : List UInt8} {x y : Int} (h : a = b) (h' : x = y) : Ending.returned (.tuple #[.string ⟨a.toArray⟩, .int .i64 x]) = .returned (.tuple #[.string ⟨b.toArray⟩, .int .i64 y]) := by rw [h, h']

theorem read_bad {w : World} {d : Nat} {fp : List Nat} {σ : Dk} (h : DiskAt w d fp σ) (i : Int) (hb : σ.down = true ∨ σ.has i = false) :
    Calls Tryd.prog 13 #[.pointer (some ⟨d, 0, none⟩), .int .i64 i] w fun e w' => e = .returned (.tuple #[.string ⟨(σ.read i).1.toArray⟩, .int .i64 (σ.read i).2]) ∧ w = w' := by
  have hu := fun W (hW : W = w) => hW ▸ disk_up h
  have hs := fun W (hW : W = w) => hW ▸ disk_is h i
  clear h
  cases hdn : σ.down
  · have hi : σ.has i = false := by simpa [hdn] using hb
    have e : σ.read i = ([], 2) := by simp [Dk.read, hdn, hi]
    have eu : σ.up = 0 := by simp [Dk.up, hdn]
    rw [e]
    rw [eu] at hu
    rw [hi] at hs
    clear hb hdn hi eu e
    go_enter Tryd.func13, Tryd.ntmps13
    go_wp2_with (first | (go_at_call 40; refine (hu _ rfl).mono ?_; rintro e w' ⟨rfl, rfl⟩) | (go_at_call 41; refine (hs _ rfl).mono ?_; rintro e w' ⟨rfl, rfl⟩))
    go_ret2
    exact ⟨rfl, rfl⟩
  · have e : σ.read i = ([], 10) := by simp [Dk.read, hdn]
    have eu : σ.up = 10 := by simp [Dk.up, hdn]
    rw [e]
    rw [eu] at hu
    clear hb hdn eu e
    go_enter Tryd.func13, Tryd.ntmps13
    go_wp2_with (go_at_call 40; refine (hu _ rfl).mono ?_; rintro e w' ⟨rfl, rfl⟩)
    go_ret2
    exact ⟨rfl, rfl⟩

set_option maxHeartbeats 800000 in
theorem read_good {w : World} {d : Nat} {fp : List Nat} {σ : Dk} (h : DiskAt w d fp σ) (i : Nat) (hdn : σ.down = false) (hi : σ.has i = true) :
    Calls Tryd.prog 13 #[.pointer (some ⟨d, 0, none⟩), .int .i64 (i : Int)] w fun e w' => e = .returned (.tuple #[.string ⟨(σ.look i).toArray⟩, .int .i64 0]) ∧ Pres [] w w' := by
  have hu := fun W (hW : W = w) => hW ▸ disk_up h
  have hs := fun W (hW : W = w) => hW ▸ disk_is h (i : Int)
  have eu : σ.up = 0 := by simp [Dk.up, hdn]
  rw [eu] at hu
  rw [hi] at hs
  have hlt := Dk.has_lt hi
  obtain ⟨kb, pv, -, -, -, -, hd, hkb, hpv, ok⟩ := h
  obtain ⟨ao, cap, epv, hc1, hc2⟩ := hpv.shape
  subst epv
  have h0 := hd.cell 0
  have h1 := hd.cell 1
  simp only [diskCells, List.getElem?_cons_succ, List.getElem?_cons_zero] at h0 h1
  have hmax : σ.pend.length ≤ 9223372036854775807 := by simp only [maxLen] at hc2; omega
  have HH := And.intro hd (And.intro hkb (And.intro hpv ok))
  clear hd hkb hpv ok hdn hi eu hc1 hc2
  go_enter Tryd.func13, Tryd.ntmps13
  go_wp2_with (first | (go_at_call 40; refine (hu _ rfl).mono ?_; rintro e w' ⟨rfl, rfl⟩) | (go_at_call 41; refine (hs _ rfl).mono ?_; rintro e w' ⟨rfl, rfl⟩))
  go_loopw [7] (fun v wr => ∃ k : Nat, k ≤ σ.pend.length ∧ v = .int .i64 ((k : Int) - 1) ∧ NoneFrom σ i k ∧ Pres [] w wr) (fun v _ => (intOf v + 1).toNat)
  case atStart => exact ⟨σ.pend.length, Nat.le_refl _, rfl, noneFrom_all σ i, Pres.refl _ _⟩
  case round =>
    obtain ⟨k, hk, rfl, hN, hP⟩ := hrel
    have g0 := hP.cell h0 (by simp)
    have g1 := hP.cell h1 (by simp)
    clear h0 h1 hu hs
    cases k with
    | zero =>
      have hend : ((0 : Nat) : Int) - 1 < 0 := by omega
      have hpiece := hid (kept_piece HH.2.2.2 (i := i) (by omega))
      rw [← look_none hN] at hpiece
      have A2 := HH.2.1.pres hP (by simp)
      have HP := hid hP
      clear hN hP
      go_wp2_with (refine wpL_bytes_string rfl 43 9 (.tmp 48) rfl 5 Tryd.underlying43 Tryd.underlying5 Tryd.underlying9 kb (i * 64) 64 64 rfl (σ.look i) (Dk.look_length HH.2.2.2 (by omega)) _ _ A2 hpiece.out ?_)
      go_ret2
      exact ⟨rfl, HP.out⟩
    | succ k =>
      have hend : ¬ (((k + 1 : Nat) : Int) - 1 < 0) := by omega
      rw [show (((k + 1 : Nat) : Int) - 1) = (k : Int) by omega] at *
      have hkl : k < σ.pend.length := by omega
      obtain ⟨g, cap', cur, e1, hg, -, -, hcl, htake⟩ := HH.2.2.1.get (by omega)
      have ok := HH.2.2.2
      simp only [Value.slice.injEq] at e1
      obtain ⟨rfl, -, rfl⟩ := e1
      obtain ⟨q, hq⟩ : ∃ q, σ.pend[k]? = some q := ⟨σ.pend[k], List.getElem?_eq_getElem hkl⟩
      have hpiece := hid (pend_piece ok hq)
      rw [← take_drop_take htake (by omega)] at hpiece
      have hq2 := ok.pend q (List.mem_of_getElem? hq)
      have A2 := hg.pres hP (by simp)
      have hfit : k * 65 + 65 ≤ cur.length := by
        have : (cur.take (σ.pend.length * 65)).length = σ.pend.length * 65 := by rw [htake]; exact HH.2.2.1.1
        rw [List.length_take] at this
        omega
      have HP := hid hP
      have HN := hid hN
      have HQ := hid hq
      have HT := hid htake
      clear hN hP hq htake hcl
      have hqi : (q.1 : Int) ≤ 9223372036854775807 := by have := hq2.1; have := ok.most; omega
      by_cases hqe : q.1 = i
      · have hqe' : ((q.1 : Int) == (i : Int)) = true := by simp [hqe]
        have HE := hid hqe
        have hl := hid (look_last HN.out HQ.out hqe)
        clear hqe
        go_wp2_with (first | (refine wpL_load rfl 83 (.tmp 33) rfl g (k * 65) 65 rfl cur 83 A2 agg_write size_write hfit ?_) | (refine wpL_alloc rfl 83 rfl (Value.int .i64 0 :: List.replicate 64 (byteV 0)) zero_write ?_; intro w2 A3 P3 S3) | (refine wpL_store rfl 83 (.tmp 8) (.tmp 34) rfl wr.heap.size 0 65 rfl _ rfl _ 83 A3 size_write (by rw [hpiece.out, length_writeCells, hq2.2]) (by simp) (by rw [hpiece.out]; exact writes_one q) ?_; intro w3 A4 P4 S4; rw [hpiece.out, splice_full _ _ (by rw [length_writeCells, hq2.2]; simp)] at A4; have c0 := A4.cell 0; simp only [writeCells, List.getElem?_cons_zero] at c0) | (refine wpL_bytes_string rfl 43 9 (.tmp 40) rfl 5 Tryd.underlying43 Tryd.underlying5 Tryd.underlying9 wr.heap.size 1 64 64 rfl q.2 hq2.2 _ _ A4 (write_text hq2.2) ?_))
        go_ret2
        exact ⟨ret_si hl.out.symm rfl, (HP.out.then P3).trans P4 (by intro x hx; simp at hx; subst hx; exact Or.inr HP.out.size)⟩
      · have hqe' : ((q.1 : Int) == (i : Int)) = false := by simp; omega
        have HE := hid hqe
        clear hqe
        go_wp2_with (first | (refine wpL_load rfl 83 (.tmp 33) rfl g (k * 65) 65 rfl cur 83 A2 agg_write size_write hfit ?_) | (refine wpL_alloc rfl 83 rfl (Value.int .i64 0 :: List.replicate 64 (byteV 0)) zero_write ?_; intro w2 A3 P3 S3) | (refine wpL_store rfl 83 (.tmp 8) (.tmp 34) rfl wr.heap.size 0 65 rfl _ rfl _ 83 A3 size_write (by rw [hpiece.out, length_writeCells, hq2.2]) (by simp) (by rw [hpiece.out]; exact writes_one q) ?_; intro w3 A4 P4 S4; rw [hpiece.out, splice_full _ _ (by rw [length_writeCells, hq2.2]; simp)] at A4; have c0 := A4.cell 0; simp only [writeCells, List.getElem?_cons_zero] at c0))
        go_roundw
        case rel =>
          refine ⟨k, by omega, rfl, ?_, (HP.out.then P3).trans P4 (by intro x hx; simp at hx; subst hx; exact Or.inr HP.out.size)⟩
          intro j hj p hp
          by_cases hjk : j = k
          · subst hjk; rw [HQ.out] at hp; cases hp; exact HE.out
          · exact HN.out j (by omega) p hp
        case measure => simp [intOf]

end Go.Proofs.YtjaabhdgahljcaaDoor
