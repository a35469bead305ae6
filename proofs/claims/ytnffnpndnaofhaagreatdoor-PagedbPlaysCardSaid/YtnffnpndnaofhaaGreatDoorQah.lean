/- Parts of the proof: New and Read of a disk; the conditions stand in the theorems. -/
import Derived.Test.YtnffnpndnaofhaaGreatDoorQag
import Derived.Test.YtnffnpndnaofhaaGreatDoorQad
import Derived.Deep.Cut

/- New and Read of a disk; the conditions stand in the theorems. -/
namespace Go.Proofs.YtnffnpndnaofhaaGreatDoor
open Go.RowKit

theorem info_block : ∃ i, Tryz.prog.info? 111 = some i ∧ i.zero = some (.agg (List.replicate 64 (byteV 0)).toArray) ∧ i.size = 64 ∧ i.bytes = 64 := info_of (by kernel_rfl)
theorem info_write : ∃ i, Tryz.prog.info? 113 = some i ∧ i.zero = some (.agg (Value.int .i64 0 :: List.replicate 64 (byteV 0)).toArray) ∧ i.size = 65 ∧ i.bytes = 72 := info_of (by kernel_rfl)
theorem size_block : (Tryz.prog.info? 111).map (·.size) = some 64 := by kernel_rfl
theorem size_write : (Tryz.prog.info? 113).map (·.size) = some 65 := by kernel_rfl
theorem zero_write : (Tryz.prog.info? 113).bind (·.zero) = some (.agg (Value.int .i64 0 :: List.replicate 64 (byteV 0)).toArray) := by kernel_rfl
theorem agg_block : IsAgg Tryz.prog 111 := ⟨_, Tryz.underlying111, rfl⟩
theorem agg_write : IsAgg Tryz.prog 113 := ⟨_, Tryz.underlying113, rfl⟩

/-- What New makes: a number that may be. -/
theorem new_ok (m : Nat) (w : World) (h1 : 1 ≤ m) (h2 : m ≤ 65536) :
    Calls Tryz.prog 9 #[.int .i64 (m : Int)] w fun e w' => ∃ d fp, e = .returned (.tuple #[.pointer (some ⟨d, 0, none⟩), .int .i64 0]) ∧ DiskAt w' d fp (Dk.new m) ∧ Pres [] w w' ∧ ∀ k ∈ fp, w.heap.size ≤ k := by
  obtain ⟨i, hi, hz, hs, hb⟩ := info_block
  have HI := And.intro hi (And.intro hz (And.intro hs hb))
  clear hi hz hs hb
  go_enter Tryz.func9, Tryz.ntmps9
  go_wp2_with (refine wpL_make rfl 85 (.tmp 10) (.tmp 10) rfl 111 i _ (byteV 0) Tryz.underlying85 HI.1 HI.2.1 (by rw [HI.2.2.1]; rfl) (by rw [HI.2.2.1]; omega) m rfl rfl (by rw [HI.2.2.2]; omega) (by omega) ?_; intro w1 A1 P1 S1)
  go_ret2
  have ok := Dk.new_ok (n := m) (by omega) (by omega)
  refine ⟨w.heap.size + 1, [w.heap.size + 1, w.heap.size], rfl, ⟨w.heap.size, .slice none 0 0, rfl, by omega, by simp [fpv], by simp [fpv], ?_, ?_, Sl.nil _ _ _, ok⟩, P1.alloc _, by simp⟩
  · have := At.new w1 (diskCells w.heap.size (.slice none 0 0) (Dk.new m)) 88
    rw [S1] at this
    simpa [diskCells, Dk.new] using this
  · have e : keptCells (Dk.new m).kept = List.replicate (m * i.size) (byteV 0) := by
      rw [HI.2.2.1]
      exact flat_replicate _ _ _
    rw [e]
    exact A1.alloc _

theorem new_ok' (n : Int) (w : World) (h1 : 1 ≤ n) (h2 : n ≤ 65536) :
    Calls Tryz.prog 9 #[.int .i64 n] w fun e w' => ∃ d fp, e = .returned (.tuple #[.pointer (some ⟨d, 0, none⟩), .int .i64 0]) ∧ DiskAt w' d fp (Dk.new n.toNat) ∧ Pres [] w w' ∧ ∀ k ∈ fp, w.heap.size ≤ k := by
  obtain ⟨m, rfl⟩ := Int.eq_ofNat_of_zero_le (show 0 ≤ n by omega)
  rw [Int.toNat_natCast]
  exact new_ok m w (by omega) (by omega)

/-- What New makes: a number that may not be. -/
theorem new_bad (n : Int) (w : World) (h : n < 1 ∨ 65536 < n) :
    Calls Tryz.prog 9 #[.int .i64 n] w fun e w' => e = .returned (.tuple #[.pointer none, .int .i64 2]) ∧ w = w' := by
  by_cases h1 : n < 1
  · clear h
    go_enter Tryz.func9, Tryz.ntmps9
    go_wp2
    go_ret2
    exact ⟨rfl, rfl⟩
  · have h2 : 65536 < n := by omega
    clear h
    go_enter Tryz.func9, Tryz.ntmps9
    go_wp2
    go_ret2
    exact ⟨rfl, rfl⟩

/-- The pending writes from place k on do not hit the sector. -/
def NoneFrom (σ : Dk) (i k : Nat) : Prop := ∀ j, k ≤ j → ∀ p, σ.pend[j]? = some p → p.1 ≠ i

theorem noneFrom_all (σ : Dk) (i : Nat) : NoneFrom σ i σ.pend.length := fun j hj p hp => by rw [List.getElem?_eq_none hj] at hp; cases hp

theorem look_none {σ : Dk} {i : Nat} (h : NoneFrom σ i 0) : σ.look i = σ.kept.getD i [] := by
  unfold Dk.look
  have key : ∀ (ps : List (Nat × List UInt8)) (acc : List UInt8), (∀ p ∈ ps, p.1 ≠ i) → ps.foldl (fun acc p => if p.1 = i then p.2 else acc) acc = acc := by
    intro ps
    induction ps with
    | nil => intro acc _; rfl
    | cons p ps ih => intro acc hp; simp only [List.foldl_cons]; rw [if_neg (hp p (by simp))]; exact ih _ (fun q hq => hp q (by simp [hq]))
  refine key _ _ fun p hp => ?_
  obtain ⟨j, hj⟩ := List.mem_iff_getElem?.1 hp
  exact h j (Nat.zero_le _) p hj

theorem look_last {σ : Dk} {i k : Nat} {p : Nat × List UInt8} (h : NoneFrom σ i (k + 1)) (hk : σ.pend[k]? = some p) (hp : p.1 = i) : σ.look i = p.2 := by
  unfold Dk.look
  have hlt : k < σ.pend.length := (List.getElem?_eq_some_iff.1 hk).1
  have e : σ.pend = σ.pend.take k ++ (p :: σ.pend.drop (k + 1)) := by
    have h1 : σ.pend[k] = p := (List.getElem?_eq_some_iff.1 hk).2
    rw [← h1, List.getElem_cons_drop, List.take_append_drop]
  have key : ∀ (ps : List (Nat × List UInt8)) (acc : List UInt8), (∀ p ∈ ps, p.1 ≠ i) → ps.foldl (fun acc p => if p.1 = i then p.2 else acc) acc = acc := by
    intro ps
    induction ps with
    | nil => intro acc _; rfl
    | cons p ps ih => intro acc hp; simp only [List.foldl_cons]; rw [if_neg (hp p (by simp))]; exact ih _ (fun q hq => hp q (by simp [hq]))
  rw [e, List.foldl_append, List.foldl_cons, if_pos hp]
  refine key _ _ fun q hq => ?_
  obtain ⟨j, hj⟩ := List.mem_iff_getElem?.1 hq
  rw [List.getElem?_drop] at hj
  exact h (k + 1 + j) (by omega) q hj

theorem kept_piece {σ : Dk} (ok : σ.Ok) {i : Nat} (hi : i < σ.kept.length) : ((keptCells σ.kept).drop (i * 64)).take 64 = (σ.kept.getD i []).map byteV := by
  rw [List.getD_eq_getElem?_getD, List.getElem?_eq_getElem hi]
  exact flat_piece ok.blocks hi

theorem pend_piece {σ : Dk} (ok : σ.Ok) {k : Nat} {q : Nat × List UInt8} (hq : σ.pend[k]? = some q) : ((pendCells σ.pend).drop (k * 65)).take 65 = writeCells q := by
  obtain ⟨hk, rfl⟩ := List.getElem?_eq_some_iff.1 hq
  exact flat_piece ok.writes hk

theorem write_text {q : Nat × List UInt8} (h : q.2.length = 64) : ((writeCells q).drop 1).take 64 = q.2.map byteV := by
  simp only [writeCells, List.drop_succ_cons, List.drop_zero]
  exact List.take_of_length_le (by simp [h])

theorem ret_si {a b : List UInt8} {x y : Int} (h : a = b) (h' : x = y) : Ending.returned (.tuple #[.string ⟨a.toArray⟩, .int .i64 x]) = .returned (.tuple #[.string ⟨b.toArray⟩, .int .i64 y]) := by rw [h, h']

theorem read_bad {w : World} {d : Nat} {fp : List Nat} {σ : Dk} (h : DiskAt w d fp σ) (i : Int) (hb : σ.down = true ∨ σ.has i = false) :
    Calls Tryz.prog 75 #[.pointer (some ⟨d, 0, none⟩), .int .i64 i] w fun e w' => e = .returned (.tuple #[.string ⟨(σ.read i).1.toArray⟩, .int .i64 (σ.read i).2]) ∧ w = w' := by
  have hu := fun W (hW : W = w) => hW ▸ disk_up h
  have hs := fun W (hW : W = w) => hW ▸ disk_is h i
  clear h
  cases hdn : σ.down
  · have hi : σ.has i = false := by simpa [hdn] using hb
    have e : σ.read i = ([], 2) := by simp [Dk.read, hdn, hi]
    have eu : σ.up = 0 := by simp [Dk.up, hdn]
    rw [e]
    rw [eu] at hu
    rw [hi] at hs
    clear hb hdn hi eu e
    go_enter Tryz.func75, Tryz.ntmps75
    go_wp2_with (first | (go_at_call 40; refine (hu _ rfl).mono ?_; rintro e w' ⟨rfl, rfl⟩) | (go_at_call 101; refine (hs _ rfl).mono ?_; rintro e w' ⟨rfl, rfl⟩))
    go_ret2
    exact ⟨rfl, rfl⟩
  · have e : σ.read i = ([], 10) := by simp [Dk.read, hdn]
    have eu : σ.up = 10 := by simp [Dk.up, hdn]
    rw [e]
    rw [eu] at hu
    clear hb hdn eu e
    go_enter Tryz.func75, Tryz.ntmps75
    go_wp2_with (go_at_call 40; refine (hu _ rfl).mono ?_; rintro e w' ⟨rfl, rfl⟩)
    go_ret2
    exact ⟨rfl, rfl⟩

set_option maxHeartbeats 800000 in
theorem read_good {w : World} {d : Nat} {fp : List Nat} {σ : Dk} (h : DiskAt w d fp σ) (i : Nat) (hdn : σ.down = false) (hi : σ.has i = true) :
    Calls Tryz.prog 75 #[.pointer (some ⟨d, 0, none⟩), .int .i64 (i : Int)] w fun e w' => e = .returned (.tuple #[.string ⟨(σ.look i).toArray⟩, .int .i64 0]) ∧ Pres [] w w' := by
  have hu := fun W (hW : W = w) => hW ▸ disk_up h
  have hs := fun W (hW : W = w) => hW ▸ disk_is h (i : Int)
  have eu : σ.up = 0 := by simp [Dk.up, hdn]
  rw [eu] at hu
  rw [hi] at hs
  have hlt := Dk.has_lt hi
  obtain ⟨kb, pv, -, -, -, -, hd, hkb, hpv, ok⟩ := h
  obtain ⟨ao, cap, epv, hc1, hc2⟩ := hpv.shape
  subst epv
  have h0 := hd.cell 0
  have h1 := hd.cell 1
  simp only [diskCells, List.getElem?_cons_succ, List.getElem?_cons_zero] at h0 h1
  have hmax : σ.pend.length ≤ 9223372036854775807 := by simp only [maxLen] at hc2; omega
  have HH := And.intro hd (And.intro hkb (And.intro hpv ok))
  clear hd hkb hpv ok hdn hi eu hc1 hc2
  go_enter Tryz.func75, Tryz.ntmps75
  go_wp2_with (first | (go_at_call 40; refine (hu _ rfl).mono ?_; rintro e w' ⟨rfl, rfl⟩) | (go_at_call 101; refine (hs _ rfl).mono ?_; rintro e w' ⟨rfl, rfl⟩))
  go_loopw [7] (fun v wr => ∃ k : Nat, k ≤ σ.pend.length ∧ v = .int .i64 ((k : Int) - 1) ∧ NoneFrom σ i k ∧ Pres [] w wr) (fun v _ => (intOf v + 1).toNat)
  case atStart => exact ⟨σ.pend.length, Nat.le_refl _, rfl, noneFrom_all σ i, Pres.refl _ _⟩
  case round =>
    obtain ⟨k, hk, rfl, hN, hP⟩ := hrel
    have g0 := hP.cell h0 (by simp)
    have g1 := hP.cell h1 (by simp)
    clear h0 h1 hu hs
    cases k with
    | zero =>
      have hend : ((0 : Nat) : Int) - 1 < 0 := by omega
      have hpiece := hid (kept_piece HH.2.2.2 (i := i) (by omega))
      rw [← look_none hN] at hpiece
      have A2 := HH.2.1.pres hP (by simp)
      have HP := hid hP
      clear hN hP
      go_wp2_with (refine wpL_bytes_string rfl 122 9 (.tmp 48) rfl 5 Tryz.underlying122 Tryz.underlying5 Tryz.underlying9 kb (i * 64) 64 64 rfl (σ.look i) (Dk.look_length HH.2.2.2 (by omega)) _ _ A2 hpiece.out ?_)
      go_ret2
      exact ⟨rfl, HP.out⟩
    | succ k =>
      have hend : ¬ (((k + 1 : Nat) : Int) - 1 < 0) := by omega
      rw [show (((k + 1 : Nat) : Int) - 1) = (k : Int) by omega] at *
      have hkl : k < σ.pend.length := by omega
      obtain ⟨g, cap', cur, e1, hg, -, -, hcl, htake⟩ := HH.2.2.1.get (by omega)
      have ok := HH.2.2.2
      simp only [Value.slice.injEq] at e1
      obtain ⟨rfl, -, rfl⟩ := e1
      obtain ⟨q, hq⟩ : ∃ q, σ.pend[k]? = some q := ⟨σ.pend[k], List.getElem?_eq_getElem hkl⟩
      have hpiece := hid (pend_piece ok hq)
      rw [← take_drop_take htake (by omega)] at hpiece
      have hq2 := ok.pend q (List.mem_of_getElem? hq)
      have A2 := hg.pres hP (by simp)
      have hfit : k * 65 + 65 ≤ cur.length := by
        have : (cur.take (σ.pend.length * 65)).length = σ.pend.length * 65 := by rw [htake]; exact HH.2.2.1.1
        rw [List.length_take] at this
        omega
      have HP := hid hP
      have HN := hid hN
      have HQ := hid hq
      have HT := hid htake
      clear hN hP hq htake hcl
      have hqi : (q.1 : Int) ≤ 9223372036854775807 := by have := hq2.1; have := ok.most; omega
      by_cases hqe : q.1 = i
      · have hqe' : ((q.1 : Int) == (i : Int)) = true := by simp [hqe]
        have HE := hid hqe
        have hl := hid (look_last HN.out HQ.out hqe)
        clear hqe
        go_wp2_with (first | (refine wpL_load rfl 113 (.tmp 33) rfl g (k * 65) 65 rfl cur 113 A2 agg_write size_write hfit ?_) | (refine wpL_alloc rfl 113 rfl (Value.int .i64 0 :: List.replicate 64 (byteV 0)) zero_write ?_; intro w2 A3 P3 S3) | (refine wpL_store rfl 113 (.tmp 8) (.tmp 34) rfl wr.heap.size 0 65 rfl _ rfl _ 113 A3 size_write (by rw [hpiece.out, length_writeCells, hq2.2]) (by simp) (by rw [hpiece.out]; exact writes_one q) ?_; intro w3 A4 P4 S4; rw [hpiece.out, splice_full _ _ (by rw [length_writeCells, hq2.2]; simp)] at A4; have c0 := A4.cell 0; simp only [writeCells, List.getElem?_cons_zero] at c0) | (refine wpL_bytes_string rfl 122 9 (.tmp 40) rfl 5 Tryz.underlying122 Tryz.underlying5 Tryz.underlying9 wr.heap.size 1 64 64 rfl q.2 hq2.2 _ _ A4 (write_text hq2.2) ?_))
        go_ret2
        exact ⟨ret_si hl.out.symm rfl, (HP.out.then P3).trans P4 (by intro x hx; simp at hx; subst hx; exact Or.inr HP.out.size)⟩
      · have hqe' : ((q.1 : Int) == (i : Int)) = false := by simp; omega
        have HE := hid hqe
        clear hqe
        go_wp2_with (first | (refine wpL_load rfl 113 (.tmp 33) rfl g (k * 65) 65 rfl cur 113 A2 agg_write size_write hfit ?_) | (refine wpL_alloc rfl 113 rfl (Value.int .i64 0 :: List.replicate 64 (byteV 0)) zero_write ?_; intro w2 A3 P3 S3) | (refine wpL_store rfl 113 (.tmp 8) (.tmp 34) rfl wr.heap.size 0 65 rfl _ rfl _ 113 A3 size_write (by rw [hpiece.out, length_writeCells, hq2.2]) (by simp) (by rw [hpiece.out]; exact writes_one q) ?_; intro w3 A4 P4 S4; rw [hpiece.out, splice_full _ _ (by rw [length_writeCells, hq2.2]; simp)] at A4; have c0 := A4.cell 0; simp only [writeCells, List.getElem?_cons_zero] at c0))
        go_roundw
        case rel =>
          refine ⟨k, by omega, rfl, ?_, (HP.out.then P3).trans P4 (by intro x hx; simp at hx; subst hx; exact Or.inr HP.out.size)⟩
          intro j hj p hp
          by_cases hjk : j = k
          · subst hjk; rw [HQ.out] at hp; cases hp; exact HE.out
          · exact HN.out j (by omega) p hp
        case measure => simp [intOf]

end Go.Proofs.YtnffnpndnaofhaaGreatDoor

/- Read in one contract, and Write; the conditions stand in the theorems. -/
namespace Go.Proofs.YtnffnpndnaofhaaGreatDoor
open Go.RowKit

/-- Read, whatever the place. -/
theorem disk_read {w : World} {d : Nat} {fp : List Nat} {σ : Dk} (h : DiskAt w d fp σ) (i : Int) :
    Calls Tryz.prog 75 #[.pointer (some ⟨d, 0, none⟩), .int .i64 i] w fun e w' => e = .returned (.tuple #[.string ⟨(σ.read i).1.toArray⟩, .int .i64 (σ.read i).2]) ∧ Pres [] w w' := by
  by_cases hb : σ.down = true ∨ σ.has i = false
  · exact (read_bad h i hb).mono fun e w' ⟨h1, h2⟩ => ⟨h1, h2 ▸ Pres.refl _ _⟩
  · have hdn : σ.down = false := by cases h1 : σ.down <;> simp_all
    have hi : σ.has i = true := by cases h1 : σ.has i <;> simp_all
    obtain ⟨n, rfl⟩ := Int.eq_ofNat_of_zero_le (Dk.has_lt hi).1
    have e : σ.read (n : Int) = (σ.look n, 0) := by simp [Dk.read, hdn, hi]
    rw [e]
    exact read_good h n hdn hi

theorem agg_cells (l : List Value) : (Value.agg l.toArray).cells = l.toArray := rfl

theorem build_write (i : Int) (w : World) : (Instr.build 113 #[(0, .int .i64 i)]).run Tryz.prog w = .ok (.agg (Value.int .i64 i :: List.replicate 64 (byteV 0)).toArray) w := by kernel_rfl

theorem zero_one (i : Int) : ∀ v ∈ (Value.int .i64 i :: List.replicate 64 (byteV 0)), v.oneCell' = true := by
  intro v hv
  simp only [List.mem_cons, List.mem_replicate] at hv
  rcases hv with rfl | ⟨_, rfl⟩ <;> rfl

theorem splice_pad (i : Nat) (s : ByteArray) (h : s.data.toList.length ≤ 64) : splice (Value.int .i64 (i : Int) :: List.replicate 64 (byteV 0)) 1 ((s.data.toList.take 64).map byteV) = writeCells (i, pad s.data.toList) := by
  rw [List.take_of_length_le h]
  simp only [splice, writeCells, pad, List.take_succ_cons, List.take_zero, List.map_append, List.map_replicate, List.length_map, List.singleton_append]
  rw [show 1 + s.data.toList.length = s.data.toList.length + 1 by omega, List.drop_succ_cons, List.drop_replicate]

theorem write_bad {w : World} {d : Nat} {fp : List Nat} {σ : Dk} (h : DiskAt w d fp σ) (i : Int) (s : ByteArray) (hb : σ.down = true ∨ σ.has i = false ∨ 64 < s.data.toList.length) :
    Calls Tryz.prog 111 #[.pointer (some ⟨d, 0, none⟩), .int .i64 i, .string s] w fun e w' => e = .returned (.int .i64 (σ.write i s.data.toList).1) ∧ w = w' := by
  have hu := fun W (hW : W = w) => hW ▸ disk_up h
  have hs := fun W (hW : W = w) => hW ▸ disk_is h i
  clear h
  cases hdn : σ.down
  · have eu : σ.up = 0 := by simp [Dk.up, hdn]
    rw [eu] at hu
    cases hi : σ.has i
    · have e : σ.write i s.data.toList = (2, σ) := by simp [Dk.write, hdn, hi]
      rw [e]
      rw [hi] at hs
      clear hb hdn hi eu e
      go_enter Tryz.func111, Tryz.ntmps111
      go_wp2_with (first | (go_at_call 40; refine (hu _ rfl).mono ?_; rintro e w' ⟨rfl, rfl⟩) | (go_at_call 101; refine (hs _ rfl).mono ?_; rintro e w' ⟨rfl, rfl⟩))
      go_ret
      exact ⟨rfl, rfl⟩
    · have hl : 64 < s.data.toList.length := by simpa [hdn, hi] using hb
      have e : σ.write i s.data.toList = (3, σ) := by unfold Dk.write; rw [if_neg (by simp [hdn]), if_pos hi, if_pos hl]
      rw [e]
      rw [hi] at hs
      have hl2 : (64 : Int) < (s.size : Int) := by
        have : s.data.toList.length = s.size := by simp
        omega
      clear hb hdn hi eu e hl
      go_enter Tryz.func111, Tryz.ntmps111
      go_wp2_with (first | (go_at_call 40; refine (hu _ rfl).mono ?_; rintro e w' ⟨rfl, rfl⟩) | (go_at_call 101; refine (hs _ rfl).mono ?_; rintro e w' ⟨rfl, rfl⟩))
      go_ret
      exact ⟨rfl, rfl⟩
  · have e : σ.write i s.data.toList = (10, σ) := by simp [Dk.write, hdn]
    have eu : σ.up = 10 := by simp [Dk.up, hdn]
    rw [e]
    rw [eu] at hu
    clear hb hdn eu e
    go_enter Tryz.func111, Tryz.ntmps111
    go_wp2_with (go_at_call 40; refine (hu _ rfl).mono ?_; rintro e w' ⟨rfl, rfl⟩)
    go_ret
    exact ⟨rfl, rfl⟩

theorem write_goes {w : World} {d : Nat} {fp : List Nat} {σ : Dk} (h : DiskAt w d fp σ) (i : Nat) (s : ByteArray) (hdn : σ.down = false) (hi : σ.has i = true) (hl : s.size ≤ 64) (hg : σ.does.1 ≠ 0) :
    Calls Tryz.prog 111 #[.pointer (some ⟨d, 0, none⟩), .int .i64 (i : Int), .string s] w fun e w' => e = .returned (.int .i64 10) ∧ DiskStep w d fp σ.does.2 w' := by
  have hu := fun W (hW : W = w) => hW ▸ disk_up h
  have hs := fun W (hW : W = w) => hW ▸ disk_is h (i : Int)
  have hd := fun W (hW : W = w) => hW ▸ disk_does h
  have eu : σ.up = 0 := by simp [Dk.up, hdn]
  have ed : σ.does.1 = 10 := by unfold Dk.does at hg ⊢; split at hg <;> simp_all
  rw [eu] at hu
  rw [hi] at hs
  rw [ed] at hd
  clear h hdn hi eu hg ed
  go_enter Tryz.func111, Tryz.ntmps111
  go_wp2_with (first | (go_at_call 40; refine (hu _ rfl).mono ?_; rintro e w' ⟨rfl, rfl⟩) | (go_at_call 101; refine (hs _ rfl).mono ?_; rintro e w' ⟨rfl, rfl⟩) | (go_at_call 112; refine (hd _ rfl).mono ?_; rintro e w1 ⟨rfl, D1⟩))
  go_ret
  exact ⟨rfl, D1⟩

set_option maxRecDepth 20000 in
set_option maxHeartbeats 800000 in
theorem write_good {w : World} {d : Nat} {fp : List Nat} {σ : Dk} (h : DiskAt w d fp σ) (i : Nat) (s : ByteArray) (hdn : σ.down = false) (hi : σ.has i = true) (hl : s.size ≤ 64) (hg : σ.does.1 = 0) (hroom : σ.pend.length ≤ 1000000000) :
    Calls Tryz.prog 111 #[.pointer (some ⟨d, 0, none⟩), .int .i64 (i : Int), .string s] w fun e w' => e = .returned (.int .i64 0) ∧ DiskStep w d fp (σ.does.2.put i s.data.toList) w' := by
  have hu := fun W (hW : W = w) => hW ▸ disk_up h
  have hs := fun W (hW : W = w) => hW ▸ disk_is h (i : Int)
  have hd := fun W (hW : W = w) => hW ▸ disk_does h
  have eu : σ.up = 0 := by simp [Dk.up, hdn]
  have hlt := Dk.has_lt hi
  rw [eu] at hu
  rw [hi] at hs
  rw [hg] at hd
  clear h hdn hi eu hg
  go_enter Tryz.func111, Tryz.ntmps111
  go_upto_region 11 with (first | (go_at_call 40; refine (hu _ rfl).mono ?_; rintro e w' ⟨rfl, rfl⟩) | (go_at_call 101; refine (hs _ rfl).mono ?_; rintro e w' ⟨rfl, rfl⟩) | (go_at_call 112; refine (hd _ rfl).mono ?_; rintro e w1 ⟨rfl, D1⟩))
  clear hu hs hd
  obtain ⟨fp1, hD, P1, F1⟩ := D1
  have K1 := Dk.does_kept σ
  generalize hτ : σ.does.2 = τ at *
  have Hτ := hid hτ
  clear hτ
  obtain ⟨kb, pv, rfl, n1, n2, n3, A1, A2, A3, ok⟩ := hD
  have B0 : σ.pend.length = τ.pend.length := by rw [K1.2]
  have HL := hid A3
  have hpl := length_pad (s := s.data.toList) (by simpa using hl)
  have hl3 : s.data.toList.length ≤ 64 := by simpa using hl
  have hwl : (writeCells (i, pad s.data.toList)).length = 65 := by rw [length_writeCells, hpl]
  have N1 := A1.lt
  have N2 := A2.lt
  have N3 := A3.lt
  have HH := And.intro A1 (And.intro A2 (And.intro A3 (And.intro ok (And.intro K1 (And.intro B0 (And.intro n1 (And.intro n2 (And.intro n3 (And.intro P1 F1)))))))))
  clear A2 A3 ok K1 B0 HL n3 P1 F1 N2 N3
  go_upto_region 13 with (first | ((with_reducible refine at_build ?_); refine wpL_build rfl 113 [(0, .tmp 29)] rfl _ (by exact build_write i _) ?_) | ((with_reducible refine at_alloc ?_); refine wpL_alloc rfl 113 rfl (Value.int .i64 0 :: List.replicate 64 (byteV 0)) zero_write ?_; intro w2 B1 P2 S2) | ((with_reducible refine at_store ?_); refine wpL_store rfl 113 (.tmp 9) (.tmp 30) rfl w1.heap.size 0 65 rfl _ rfl _ 113 B1 size_write (by simp) (by simp) (zero_one _) ?_; intro w3 B2 P3 S3; rw [splice_full _ _ (by simp)] at B2) | ((with_reducible refine at_copy ?_); refine wpL_copy_string rfl (.tmp 32) (.tmp 33) 122 9 rfl 5 Tryz.underlying122 (by kernel_rfl) w1.heap.size 1 64 64 rfl s rfl _ _ B2 (by simp) ?_; intro w4 B3 P4 S4; rw [splice_pad i s hl3] at B3))
  have q1 : w1.cell? ⟨d, 1, none⟩ = some pv := by rw [A1.cell]; rfl
  have D1 : d ≠ w1.heap.size := by omega
  have q2 : w2.cell? ⟨d, 1, none⟩ = some pv := P2.cell q1 (by simp)
  have q3 : w3.cell? ⟨d, 1, none⟩ = some pv := P3.cell q2 (by simpa using D1)
  have q4 : w4.cell? ⟨d, 1, none⟩ = some pv := P4.cell q3 (by simpa using D1)
  refine wp_region_ord (by kernel_rfl) (fun W => W.cell? ⟨d, 1, none⟩ = some pv ∧ At W w1.heap.size (writeCells (i, pad s.data.toList)) 113) 8
    [(0, true), (1, true), (2, true), (3, true), (4, true), (5, true), (6, false), (7, false)] (by kernel_rfl) ?hq ⟨q4, B3.drew⟩ ?_
  case hq => intro c a dd v w h; cases dd <;> exact h
  iterate 5 (refine wpOrd_read (v := _) rfl rfl (by intro w' hS; have hs1 := hS.1; clear hS; go_simp; rfl) ?_; (try simp only [Act.put, List.setIfInBounds_toArray, List.set_cons_succ, List.set_cons_zero, List.getElem_toArray, List.getElem_cons_succ, List.getElem_cons_zero]))
  refine wpOrd_read (v := _) rfl rfl (by intro w' hS; exact run_load_agg (n := 65) rfl rfl hS.2 agg_write size_write (by omega)) ?_
  rw [List.drop_zero, List.take_of_length_le (by omega)]
  (try simp only [Act.put, List.setIfInBounds_toArray, List.set_cons_succ, List.set_cons_zero, List.getElem_toArray, List.getElem_cons_succ, List.getElem_cons_zero])
  have C1 : w4.drew.heap.size = w4.heap.size := rfl
  refine wpOrd_do rfl rfl (fun K hK => ?_)
  refine wp_value (run_slit_one (n := 65) (v := .agg (writeCells (i, pad s.data.toList)).toArray) rfl rfl Tryz.underlying86 size_write zero_write (by simp [agg_cells]) (by omega) (by omega) (by simp [agg_cells, hwl])) (hK _ _ ⟨⟨?_, ?_⟩, ?_⟩)
  · rw [World.cell?_alloc_lt _ _ _ (show d < w4.heap.size by omega)]; exact q4
  · exact B3.drew.alloc _
  clear hK K
  (try simp only [Act.put, List.setIfInBounds_toArray, List.set_cons_succ, List.set_cons_zero, List.getElem_toArray, List.getElem_cons_succ, List.getElem_cons_zero])
  have B4 := At.new w4.drew (writeCells (i, pad s.data.toList)) 113
  rw [C1] at B4 ⊢
  have P5 : Pres [] w4 (w4.drew.alloc (.cells (writeCells (i, pad s.data.toList)).toArray 113)) := ((Pres.refl _ _).drew).alloc _
  have q5 := P5.cell q4 (by simp)
  have S5 : (w4.drew.alloc (.cells (writeCells (i, pad s.data.toList)).toArray 113)).heap.size = w4.heap.size + 1 := by simp
  simp only [agg_cells]
  generalize w4.drew.alloc (.cells (writeCells (i, pad s.data.toList)).toArray 113) = w5 at *
  have PA : Pres [] w1 w5 := (((P2.trans P3 (by simp)).trans P4 (by simp)).trans P5 (by simp))
  have B5 : Sl w5 113 65 pv τ.pend.length (pendCells τ.pend) := HH.2.2.1.pres PA (by simp)
  have A5 : At w5 d (diskCells kb pv τ) 88 := A1.pres PA (by simp)
  obtain ⟨iw, hi1, hi2, hi3, hi4⟩ := info_write
  have F5 : ∀ k ∈ fpv pv, k < w1.heap.size := HH.2.2.1.lt
  have G1 : w4.heap.size = w1.heap.size + 1 := by omega
  refine wpOrd_do rfl rfl (fun K hK => ?_)
  refine wp_append (.tmp 39) (.tmp 41) 86 rfl 113 iw _ 65 Tryz.underlying86 hi1 hi2 hi3 (by simp [agg_cells]) pv τ.pend.length (pendCells τ.pend) rfl B5 ⟨w4.heap.size, 0, none⟩ 1 1
    (writeCells (i, pad s.data.toList)) rfl (by omega) (fun j u hu => by rw [addr_add, Nat.zero_add, B4.cell]; exact hu) (writes_one _) (by have := HH.2.2.2.2.2.1; simp only [maxLen]; omega) (by have := HH.2.2.2.2.2.1; rw [hi4]; omega) (fun v' w6 X1 X2 X3 => hK _ _ ⟨⟨?_, ?_⟩, ?_⟩)
  · exact X2.cell q5 n2
  · exact (B3.pres P5 (by simp)).pres X2 (fun hm => by have := F5 _ hm; omega)
  clear hK K
  refine wpOrd_end ?_
  obtain ⟨g, cap, cur, rfl, X4, X5, X6, X7, X8⟩ := X1.get (by omega)
  have A6 : At w6 d (diskCells kb pv τ) 88 := A5.pres X2 n2
  have f1 := A6.frozen 1
  have c1 : w6.cell? ⟨d, 1, none⟩ = some pv := A6.cell 1
  have hgd : d ≠ g := fun e => by
    rcases X3 g (by simp [fpv]) with h1 | h1
    · exact n2 (e ▸ h1)
    · omega
  have hgk : kb ≠ g := fun e => by
    rcases X3 g (by simp [fpv]) with h1 | h1
    · exact HH.2.2.2.2.2.2.2.2.1 (e ▸ h1)
    · have := HH.2.1.lt; omega
  have PB : Pres (fpv pv) w1 w6 := PA.of_none.trans X2 (fun x hx => .inl hx)
  have okp : (τ.put i s.data.toList).Ok := Dk.put_ok HH.2.2.2.1 (by have := HH.2.2.2.2.1.1; rw [this]; omega) hl3
  have XS : Sl w6 113 65 (.slice (some ⟨g, 0, none⟩) (τ.pend.length + 1) cap) (τ.pend.length + 1) (pendCells τ.pend ++ writeCells (i, pad s.data.toList)) := X1
  have HZ := And.intro A6 (And.intro hgd (And.intro hgk (And.intro PB (And.intro okp (And.intro XS (And.intro X3 PA.size))))))
  clear X1 X2 X3 X4 X5 X6 X7 X8 A6 hgd hgk PB okp XS A5 B5 B4 PA P5 S5 q5 q4 q3 q2 q1 F5 G1 C1 B1 B2 B3 P2 P3 P4 S2 S3 S4 A1 hi1 hi2 hi3 hi4
  simp only [List.drop_succ_cons, List.drop_zero]
  go_wp2
  go_ret
  refine ⟨rfl, ?_⟩
  rw [Hτ.out]
  obtain ⟨Z1, Z2, Z3, Z4, Z5, Z6, Z7, Z8⟩ := HZ
  obtain ⟨h1, h2, h3, h4, h5, h6, h7, h8, h9, h10, h11⟩ := HH
  have PC : Pres (d :: fpv pv) w1 (w6.setCell ⟨d, 1, none⟩ (.slice (some ⟨g, 0, none⟩) (τ.pend.length + 1) cap)) := (Z4.wider (by simp_all)).setCell (by simp) _
  refine ⟨d :: kb :: [g], ⟨kb, .slice (some ⟨g, 0, none⟩) (τ.pend.length + 1) cap, rfl, h7, by simpa [fpv] using Z2, by simpa [fpv] using Z3, ?_, ?_, ?_, Z5⟩, ?_, ?_⟩
  · have := Z1.setCell 1 (.slice (some ⟨g, 0, none⟩) (τ.pend.length + 1) cap)
    exact this
  · exact h2.pres PC (by simp [Ne.symm h7, h9])
  · have := Z6.pres (Pres.setCell (Pres.refl [d] w6) (p := ⟨d, 1, none⟩) (by simp) (.slice (some ⟨g, 0, none⟩) (τ.pend.length + 1) cap)) (by simp [fpv, Ne.symm Z2])
    simpa [Dk.put, pendCells] using this
  · exact h10.trans PC (by intro x hx; exact h11 x (by simp at hx ⊢; rcases hx with rfl | hx <;> simp_all))
  · intro k hk
    simp only [List.mem_cons, List.not_mem_nil, or_false] at hk
    rcases hk with rfl | rfl | rfl
    · exact h11 _ (by simp)
    · exact h11 _ (by simp)
    · rcases Z7 k (by simp [fpv]) with e | e
      · exact h11 _ (by simp [e])
      · right; have := h10.size; have := h1.lt; omega

/-- Write, whatever comes in. -/
theorem disk_write {w : World} {d : Nat} {fp : List Nat} {σ : Dk} (h : DiskAt w d fp σ) (i : Int) (s : ByteArray) (hroom : σ.pend.length ≤ 1000000000) :
    Calls Tryz.prog 111 #[.pointer (some ⟨d, 0, none⟩), .int .i64 i, .string s] w fun e w' => e = .returned (.int .i64 (σ.write i s.data.toList).1) ∧ DiskStep w d fp (σ.write i s.data.toList).2 w' := by
  by_cases hb : σ.down = true ∨ σ.has i = false ∨ 64 < s.data.toList.length
  · have e2 : (σ.write i s.data.toList).2 = σ := by
      unfold Dk.write
      split
      · rfl
      split
      · split
        · rfl
        · rename_i a b c; rcases hb with h1 | h1 | h1
          · exact absurd h1 a
          · rw [b] at h1; cases h1
          · exact absurd h1 c
      · rfl
    rw [e2]
    exact (write_bad h i s hb).mono fun e w' ⟨h1, h2⟩ => ⟨h1, h2 ▸ DiskStep.refl h⟩
  · have hdn : σ.down = false := by cases h1 : σ.down <;> simp_all
    have hi : σ.has i = true := by cases h1 : σ.has i <;> simp_all
    have hl : ¬ 64 < s.data.toList.length := fun h1 => hb (.inr (.inr h1))
    have hl2 : s.size ≤ 64 := by have : s.data.toList.length = s.size := by simp
                                 omega
    obtain ⟨n, rfl⟩ := Int.eq_ofNat_of_zero_le (Dk.has_lt hi).1
    by_cases hg : σ.does.1 = 0
    · have e : σ.write (n : Int) s.data.toList = (0, σ.does.2.put n s.data.toList) := by
        unfold Dk.write
        rw [if_neg (by simp [hdn]), if_pos hi, if_neg hl, if_pos hg, Int.toNat_natCast]
      rw [e]
      exact write_good h n s hdn hi hl2 hg hroom
    · have e : σ.write (n : Int) s.data.toList = (10, σ.does.2) := by
        unfold Dk.write
        rw [if_neg (by simp [hdn]), if_pos hi, if_neg hl, if_neg hg]
      rw [e]
      exact write_goes h n s hdn hi hl2 hg

end Go.Proofs.YtnffnpndnaofhaaGreatDoor
