/- Read in one contract, and Write; the conditions stand in the theorems. -/
import Derived.Test.YtjaabhdgahljcaaDoorDiskC
import Derived.Test.YtjaabhdgahljcaaDoorOrder
import Derived.Deep.Cut
namespace Go.Proofs.YtjaabhdgahljcaaDoor
open Go.RowKit

/-- Read, whatever the place. -/
theorem disk_read {w : World} {d : Nat} {fp : List Nat} {σ : Dk} (h : DiskAt w d fp σ) (i : Int) :
    Calls Tryd.prog 13 #[.pointer (some ⟨d, 0, none⟩), .int .i64 i] w fun e w' => e = .returned (.tuple #[.string ⟨(σ.read i).1.toArray⟩, .int .i64 (σ.read i).2]) ∧ Pres [] w w' := by
  by_cases hb : σ.down = true ∨ σ.has i = false
  · exact (read_bad h i hb).mono fun e w' ⟨h1, h2⟩ => ⟨h1, h2 ▸ Pres.refl _ _⟩
  · have hdn : σ.down = false := by cases h1 : σ.down <;> simp_all
    have hi : σ.has i = true := by cases h1 : σ.has i <;> simp_all
    obtain ⟨n, rfl⟩ := Int.eq_ofNat_of_zero_le (Dk.has_lt hi).1
    have e : σ.read (n : Int) = (σ.look n, 0) := by simp [Dk.read, hdn, hi]
    rw [e]
    exact read_good h n hdn hi

theorem agg_cells (l : List Value) : (Value.agg l.toArray).cells = l.toArray := rfl

theorem build_write (i : Int) (w : World) : (Instr.build 83 #[(0, .int .i64 i)]).run Tryd.prog w = .ok (.agg (Value.int .i64 i :: List.replicate 64 (byteV 0)).toArray) w := by kernel_rfl

theorem zero_one (i : Int) : ∀ v ∈ (Value.int .i64 i :: List.replicate 64 (byteV 0)), v.oneCell' = true := by
  intro v hv
  simp only [List.mem_cons, List.mem_replicate] at hv
  rcases hv with rfl | ⟨_, rfl⟩ <;> rfl

theorem splice_pad (i : Nat) (s : ByteArray) (h : s.data.toList.length ≤ 64) : splice (Value.int .i64 (i : Int) :: List.replicate 64 (byteV 0)) 1 ((s.data.toList.take 64).map byteV) = writeCells (i, pad s.data.toList) := by
  rw [List.take_of_length_le h]
  simp only [splice, writeCells, pad, List.take_succ_cons, List.take_zero, List.map_append, List.map_replicate, List.length_map, List.singleton_append]
  rw [show 1 + s.data.toList.length = s.data.toList.length + 1 by omega, List.drop_succ_cons, List.drop_replicate]

theorem write_bad {w : World} {d : Nat} {fp : List Nat} {σ : Dk} (h : DiskAt w d fp σ) (i : Int) (s : ByteArray) (hb : σ.down = true ∨ σ.has i = false ∨ 64 < s.data.toList.length) :
    Calls Tryd.prog 10 #[.pointer (some ⟨d, 0, none⟩), .int .i64 i, .string s] w fun e w' => e = .returned (.int .i64 (σ.write i s.data.toList).1) ∧ w = w' := by
  have hu := fun W (hW : W = w) => hW ▸ disk_up h
  have hs := fun W (hW : W = w) => hW ▸ disk_is h i
  clear h
  cases hdn : σ.down
  · have eu : σ.up = 0 := by simp [Dk.up, hdn]
    rw [eu] at hu
    cases hi : σ.has i
    · have e : σ.write i s.data.toList = (2, σ) := by simp [Dk.write, hdn, hi]
      rw [e]
      rw [hi] at hs
      clear hb hdn hi eu e
      go_enter Tryd.func10, Tryd.ntmps10
      go_wp2_with (first | (go_at_call 40; refine (hu _ rfl).mono ?_; rintro e w' ⟨rfl, rfl⟩) | (go_at_call 41; refine (hs _ rfl).mono ?_; rintro e w' ⟨rfl, rfl⟩))
      go_ret
      exact ⟨rfl, rfl⟩
    · have hl : 64 < s.data.toList.length := by simpa [hdn, hi] using hb
      have e : σ.write i s.data.toList = (3, σ) := by unfold Dk.write; rw [if_neg (by simp [hdn]), if_pos hi, if_pos hl]
      rw [e]
      rw [hi] at hs
      have hl2 : (64 : Int) < (s.size : Int) := by
        have : s.data.toList.length = s.size := by simp
        omega
      clear hb hdn hi eu e hl
      go_enter Tryd.func10, Tryd.ntmps10
      go_wp2_with (first | (go_at_call 40; refine (hu _ rfl).mono ?_; rintro e w' ⟨rfl, rfl⟩) | (go_at_call 41; refine (hs _ rfl).mono ?_; rintro e w' ⟨rfl, rfl⟩))
      go_ret
      exact ⟨rfl, rfl⟩
  · have e : σ.write i s.data.toList = (10, σ) := by simp [Dk.write, hdn]
    have eu : σ.up = 10 := by simp [Dk.up, hdn]
    rw [e]
    rw [eu] at hu
    clear hb hdn eu e
    go_enter Tryd.func10, Tryd.ntmps10
    go_wp2_with (go_at_call 40; refine (hu _ rfl).mono ?_; rintro e w' ⟨rfl, rfl⟩)
    go_ret
    exact ⟨rfl, rfl⟩

theorem write_goes {w : World} {d : Nat} {fp : List Nat} {σ : Dk} (h : DiskAt w d fp σ) (i : Nat) (s : ByteArray) (hdn : σ.down = false) (hi : σ.has i = true) (hl : s.size ≤ 64) (hg : σ.does.1 ≠ 0) :
    Calls Tryd.prog 10 #[.pointer (some ⟨d, 0, none⟩), .int .i64 (i : Int), .string s] w fun e w' => e = .returned (.int .i64 10) ∧ DiskStep w d fp σ.does.2 w' := by
  have hu := fun W (hW : W = w) => hW ▸ disk_up h
  have hs := fun W (hW : W = w) => hW ▸ disk_is h (i : Int)
  have hd := fun W (hW : W = w) => hW ▸ disk_does h
  have eu : σ.up = 0 := by simp [Dk.up, hdn]
  have ed : σ.does.1 = 10 := by unfold Dk.does at hg ⊢; split at hg <;> simp_all
  rw [eu] at hu
  rw [hi] at hs
  rw [ed] at hd
  clear h hdn hi eu hg ed
  go_enter Tryd.func10, Tryd.ntmps10
  go_wp2_with (first | (go_at_call 40; refine (hu _ rfl).mono ?_; rintro e w' ⟨rfl, rfl⟩) | (go_at_call 41; refine (hs _ rfl).mono ?_; rintro e w' ⟨rfl, rfl⟩) | (go_at_call 42; refine (hd _ rfl).mono ?_; rintro e w1 ⟨rfl, D1⟩))
  go_ret
  exact ⟨rfl, D1⟩

set_option maxRecDepth 20000 in
set_option maxHeartbeats 800000 in
theorem write_good {w : World} {d : Nat} {fp : List Nat} {σ : Dk} (h : DiskAt w d fp σ) (i : Nat) (s : ByteArray) (hdn : σ.down = false) (hi : σ.has i = true) (hl : s.size ≤ 64) (hg : σ.does.1 = 0) (hroom : σ.pend.length ≤ 1000000000) :
    Calls Tryd.prog 10 #[.pointer (some ⟨d, 0, none⟩), .int .i64 (i : Int), .string s] w fun e w' => e = .returned (.int .i64 0) ∧ DiskStep w d fp (σ.does.2.put i s.data.toList) w' := by
  have hu := fun W (hW : W = w) => hW ▸ disk_up h
  have hs := fun W (hW : W = w) => hW ▸ disk_is h (i : Int)
  have hd := fun W (hW : W = w) => hW ▸ disk_does h
  have eu : σ.up = 0 := by simp [Dk.up, hdn]
  have hlt := Dk.has_lt hi
  rw [eu] at hu
  rw [hi] at hs
  rw [hg] at hd
  clear h hdn hi eu hg
  go_enter Tryd.func10, Tryd.ntmps10
  go_upto_region 11 with (first | (go_at_call 40; refine (hu _ rfl).mono ?_; rintro e w' ⟨rfl, rfl⟩) | (go_at_call 41; refine (hs _ rfl).mono ?_; rintro e w' ⟨rfl, rfl⟩) | (go_at_call 42; refine (hd _ rfl).mono ?_; rintro e w1 ⟨rfl, D1⟩))
  clear hu hs hd
  obtain ⟨fp1, hD, P1, F1⟩ := D1
  have K1 := Dk.does_kept σ
  generalize hτ : σ.does.2 = τ at *
  have Hτ := hid hτ
  clear hτ
  obtain ⟨kb, pv, rfl, n1, n2, n3, A1, A2, A3, ok⟩ := hD
  have B0 : σ.pend.length = τ.pend.length := by rw [K1.2]
  have HL := hid A3
  have hpl := length_pad (s := s.data.toList) (by simpa using hl)
  have hl3 : s.data.toList.length ≤ 64 := by simpa using hl
  have hwl : (writeCells (i, pad s.data.toList)).length = 65 := by rw [length_writeCells, hpl]
  have N1 := A1.lt
  have N2 := A2.lt
  have N3 := A3.lt
  have HH := And.intro A1 (And.intro A2 (And.intro A3 (And.intro ok (And.intro K1 (And.intro B0 (And.intro n1 (And.intro n2 (And.intro n3 (And.intro P1 F1)))))))))
  clear A2 A3 ok K1 B0 HL n3 P1 F1 N2 N3
  go_upto_region 13 with (first | ((with_reducible refine at_build ?_); refine wpL_build rfl 83 [(0, .tmp 29)] rfl _ (by exact build_write i _) ?_) | ((with_reducible refine at_alloc ?_); refine wpL_alloc rfl 83 rfl (Value.int .i64 0 :: List.replicate 64 (byteV 0)) zero_write ?_; intro w2 B1 P2 S2) | ((with_reducible refine at_store ?_); refine wpL_store rfl 83 (.tmp 9) (.tmp 30) rfl w1.heap.size 0 65 rfl _ rfl _ 83 B1 size_write (by simp) (by simp) (zero_one _) ?_; intro w3 B2 P3 S3; rw [splice_full _ _ (by simp)] at B2) | ((with_reducible refine at_copy ?_); refine wpL_copy_string rfl (.tmp 32) (.tmp 33) 43 9 rfl 5 Tryd.underlying43 (by kernel_rfl) w1.heap.size 1 64 64 rfl s rfl _ _ B2 (by simp) ?_; intro w4 B3 P4 S4; rw [splice_pad i s hl3] at B3))
  have q1 : w1.cell? ⟨d, 1, none⟩ = some pv := by rw [A1.cell]; rfl
  have D1 : d ≠ w1.heap.size := by omega
  have q2 : w2.cell? ⟨d, 1, none⟩ = some pv := P2.cell q1 (by simp)
  have q3 : w3.cell? ⟨d, 1, none⟩ = some pv := P3.cell q2 (by simpa using D1)
  have q4 : w4.cell? ⟨d, 1, none⟩ = some pv := P4.cell q3 (by simpa using D1)
  refine wp_region_ord (by kernel_rfl) (fun W => W.cell? ⟨d, 1, none⟩ = some pv ∧ At W w1.heap.size (writeCells (i, pad s.data.toList)) 83) 8
    [(0, true), (1, true), (2, true), (3, true), (4, true), (5, true), (6, false), (7, false)] (by kernel_rfl) ?hq ⟨q4, B3.drew⟩ ?_
  case hq => intro c a dd v w h; cases dd <;> exact h
  iterate 5 (refine wpOrd_read (v := _) rfl rfl (by intro w' hS; have hs1 := hS.1; clear hS; go_simp; rfl) ?_; (try simp only [Act.put, List.setIfInBounds_toArray, List.set_cons_succ, List.set_cons_zero, List.getElem_toArray, List.getElem_cons_succ, List.getElem_cons_zero]))
  refine wpOrd_read (v := _) rfl rfl (by intro w' hS; exact run_load_agg (n := 65) rfl rfl hS.2 agg_write size_write (by omega)) ?_
  rw [List.drop_zero, List.take_of_length_le (by omega)]
  (try simp only [Act.put, List.setIfInBounds_toArray, List.set_cons_succ, List.set_cons_zero, List.getElem_toArray, List.getElem_cons_succ, List.getElem_cons_zero])
  have C1 : w4.drew.heap.size = w4.heap.size := rfl
  refine wpOrd_do rfl rfl (fun K hK => ?_)
  refine wp_value (run_slit_one (n := 65) (v := .agg (writeCells (i, pad s.data.toList)).toArray) rfl rfl Tryd.underlying84 size_write zero_write (by simp [agg_cells]) (by omega) (by omega) (by simp [agg_cells, hwl])) (hK _ _ ⟨⟨?_, ?_⟩, ?_⟩)
  · rw [World.cell?_alloc_lt _ _ _ (show d < w4.heap.size by omega)]; exact q4
  · exact B3.drew.alloc _
  clear hK K
  (try simp only [Act.put, List.setIfInBounds_toArray, List.set_cons_succ, List.set_cons_zero, List.getElem_toArray, List.getElem_cons_succ, List.getElem_cons_zero])
  have B4 := At.new w4.drew (writeCells (i, pad s.data.toList)) 83
  rw [C1] at B4 ⊢
  have P5 : Pres [] w4 (w4.drew.alloc (.cells (writeCells (i, pad s.data.toList)).toArray 83)) := ((Pres.refl _ _).drew).alloc _
  have q5 := P5.cell q4 (by simp)
  have S5 : (w4.drew.alloc (.cells (writeCells (i, pad s.data.toList)).toArray 83)).heap.size = w4.heap.size + 1 := by simp
  simp only [agg_cells]
  generalize w4.drew.alloc (.cells (writeCells (i, pad s.data.toList)).toArray 83) = w5 at *
  have PA : Pres [] w1 w5 := (((P2.trans P3 (by simp)).trans P4 (by simp)).trans P5 (by simp))
  have B5 : Sl w5 83 65 pv τ.pend.length (pendCells τ.pend) := HH.2.2.1.pres PA (by simp)
  have A5 : At w5 d (diskCells kb pv τ) 87 := A1.pres PA (by simp)
  obtain ⟨iw, hi1, hi2, hi3, hi4⟩ := info_write
  have F5 : ∀ k ∈ fpv pv, k < w1.heap.size := HH.2.2.1.lt
  have G1 : w4.heap.size = w1.heap.size + 1 := by omega
  refine wpOrd_do rfl rfl (fun K hK => ?_)
  refine wp_append (.tmp 39) (.tmp 41) 84 rfl 83 iw _ 65 Tryd.underlying84 hi1 hi2 hi3 (by simp [agg_cells]) pv τ.pend.length (pendCells τ.pend) rfl B5 ⟨w4.heap.size, 0, none⟩ 1 1
    (writeCells (i, pad s.data.toList)) rfl (by omega) (fun j u hu => by rw [addr_add, Nat.zero_add, B4.cell]; exact hu) (writes_one _) (by have := HH.2.2.2.2.2.1; simp only [maxLen]; omega) (by have := HH.2.2.2.2.2.1; rw [hi4]; omega) (fun v' w6 X1 X2 X3 => hK _ _ ⟨⟨?_, ?_⟩, ?_⟩)
  · exact X2.cell q5 n2
  · exact (B3.pres P5 (by simp)).pres X2 (fun hm => by have := F5 _ hm; omega)
  clear hK K
  refine wpOrd_end ?_
  obtain ⟨g, cap, cur, rfl, X4, X5, X6, X7, X8⟩ := X1.get (by omega)
  have A6 : At w6 d (diskCells kb pv τ) 87 := A5.pres X2 n2
  have f1 := A6.frozen 1
  have c1 : w6.cell? ⟨d, 1, none⟩ = some pv := A6.cell 1
  have hgd : d ≠ g := fun e => by
    rcases X3 g (by simp [fpv]) with h1 | h1
    · exact n2 (e ▸ h1)
    · omega
  have hgk : kb ≠ g := fun e => by
    rcases X3 g (by simp [fpv]) with h1 | h1
    · exact HH.2.2.2.2.2.2.2.2.1 (e ▸ h1)
    · have := HH.2.1.lt; omega
  have PB : Pres (fpv pv) w1 w6 := PA.of_none.trans X2 (fun x hx => .inl hx)
  have okp : (τ.put i s.data.toList).Ok := Dk.put_ok HH.2.2.2.1 (by have := HH.2.2.2.2.1.1; rw [this]; omega) hl3
  have XS : Sl w6 83 65 (.slice (some ⟨g, 0, none⟩) (τ.pend.length + 1) cap) (τ.pend.length + 1) (pendCells τ.pend ++ writeCells (i, pad s.data.toList)) := X1
  have HZ := And.intro A6 (And.intro hgd (And.intro hgk (And.intro PB (And.intro okp (And.intro XS (And.intro X3 PA.size))))))
  clear X1 X2 X3 X4 X5 X6 X7 X8 A6 hgd hgk PB okp XS A5 B5 B4 PA P5 S5 q5 q4 q3 q2 q1 F5 G1 C1 B1 B2 B3 P2 P3 P4 S2 S3 S4 A1 hi1 hi2 hi3 hi4
  simp only [List.drop_succ_cons, List.drop_zero]
  go_wp2
  go_ret
  refine ⟨rfl, ?_⟩
  rw [Hτ.out]
  obtain ⟨Z1, Z2, Z3, Z4, Z5, Z6, Z7, Z8⟩ := HZ
  obtain ⟨h1, h2, h3, h4, h5, h6, h7, h8, h9, h10, h11⟩ := HH
  have PC : Pres (d :: fpv pv) w1 (w6.setCell ⟨d, 1, none⟩ (.slice (some ⟨g, 0, none⟩) (τ.pend.length + 1) cap)) := (Z4.wider (by simp_all)).setCell (by simp) _
  refine ⟨d :: kb :: [g], ⟨kb, .slice (some ⟨g, 0, none⟩) (τ.pend.length + 1) cap, rfl, h7, by simpa [fpv] using Z2, by simpa [fpv] using Z3, ?_, ?_, ?_, Z5⟩, ?_, ?_⟩
  · have := Z1.setCell 1 (.slice (some ⟨g, 0, none⟩) (τ.pend.length + 1) cap)
    exact this
  · exact h2.pres PC (by simp [Ne.symm h7, h9])
  · have := Z6.pres (Pres.setCell (Pres.refl [d] w6) (p := ⟨d, 1, none⟩) (by simp) (.slice (some ⟨g, 0, none⟩) (τ.pend.length + 1) cap)) (by simp [fpv, Ne.symm Z2])
    simpa [Dk.put, pendCells] using this
  · exact h10.trans PC (by intro x hx; exact h11 x (by simp at hx ⊢; rcases hx with rfl | hx <;> simp_all))
  · intro k hk
    simp only [List.mem_cons, List.not_mem_nil, or_false] at hk
    rcases hk with rfl | rfl | rfl
    · exact h11 _ (by simp)
    · exact h11 _ (by simp)
    · rcases Z7 k (by simp [fpv]) with e | e
      · exact h11 _ (by simp [e])
      · right; have := h10.size; have := h1.lt; omega

/-- Write, whatever comes in. -/
theorem disk_write {w : World} {d : Nat} {fp : List Nat} {σ : Dk} (h : DiskAt w d fp σ) (i : Int) (s : ByteArray) (hroom : σ.pend.length ≤ 1000000000) :
    Calls Tryd.prog 10 #[.pointer (some ⟨d, 0, none⟩), .int .i64 i, .string s] w fun e w' => e = .returned (.int .i64 (σ.write i s.data.toList).1) ∧ DiskStep w d fp (σ.write i s.data.toList).2 w' := by
  by_cases hb : σ.down = true ∨ σ.has i = false ∨ 64 < s.data.toList.length
  · have e2 : (σ.write i s.data.toList).2 = σ := by
      unfold Dk.write
      split
      · rfl
      split
      · split
        · rfl
        · rename_i a b c; rcases hb with h1 | h1 | h1
          · exact absurd h1 a
          · rw [b] at h1; cases h1
          · exact absurd h1 c
      · rfl
    rw [e2]
    exact (write_bad h i s hb).mono fun e w' ⟨h1, h2⟩ => ⟨h1, h2 ▸ DiskStep.refl h⟩
  · have hdn : σ.down = false := by cases h1 : σ.down <;> simp_all
    have hi : σ.has i = true := by cases h1 : σ.has i <;> simp_all
    have hl : ¬ 64 < s.data.toList.length := fun h1 => hb (.inr (.inr h1))
    have hl2 : s.size ≤ 64 := by have : s.data.toList.length = s.size := by simp
                                 omega
    obtain ⟨n, rfl⟩ := Int.eq_ofNat_of_zero_le (Dk.has_lt hi).1
    by_cases hg : σ.does.1 = 0
    · have e : σ.write (n : Int) s.data.toList = (0, σ.does.2.put n s.data.toList) := by
        unfold Dk.write
        rw [if_neg (by simp [hdn]), if_pos hi, if_neg hl, if_pos hg, Int.toNat_natCast]
      rw [e]
      exact write_good h n s hdn hi hl2 hg hroom
    · have e : σ.write (n : Int) s.data.toList = (10, σ.does.2) := by
        unfold Dk.write
        rw [if_neg (by simp [hdn]), if_pos hi, if_neg hl, if_neg hg]
      rw [e]
      exact write_goes h n s hdn hi hl2 hg

end Go.Proofs.YtjaabhdgahljcaaDoor
