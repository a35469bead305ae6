/- SectorNobody: the walk: disks that New did not make have nothing, and do nothing; whatever comes in. -/
import Derived.Test.YtanjlfppppghpaaSecBegin
import Derived.Test.YtanjlfppppghpaaSt
namespace Go.Proofs.Ytanjlfppppghpaa
open Go.RowKit

/-- Nil, or a disk of noughts. -/
def Nob (w : World) (v : Value) : Prop := v = .pointer none ∨ ∃ d, v = .pointer (some ⟨d, 0, none⟩) ∧ At w d [.slice none 0 0, .slice none 0 0, .bool false, .bool false, .int .i64 0, .int .i64 0] 59

theorem nob_none {w : World} {v : Value} (h : Nob w v) :
    Calls Try.prog 30 #[v] w fun e w' => e = .returned (.bool true) ∧ w = w' := by
  rcases h with rfl | ⟨d, rfl, hd⟩
  · go_enter Try.func30, Try.ntmps30
    go_wp2
    go_ret
    exact ⟨rfl, rfl⟩
  · have h0 := hd.cell 0
    simp only [List.getElem?_cons_zero] at h0
    go_enter Try.func30, Try.ntmps30
    go_wp2
    go_ret
    exact ⟨rfl, rfl⟩

theorem nob_up {w : World} {v : Value} (h : Nob w v) :
    Calls Try.prog 27 #[v] w fun e w' => e = .returned (.int .i64 1) ∧ w = w' := by
  have hn := fun W (hW : W = w) => hW ▸ nob_none h
  clear h
  go_enter Try.func27, Try.ntmps27
  go_wp2_with (go_at_call 30; refine (hn _ rfl).mono ?_; rintro e w' ⟨rfl, rfl⟩)
  go_ret
  exact ⟨rfl, rfl⟩

theorem nob_Flush {w : World} {v : Value} (h : Nob w v) (x y : Value) :
    Calls Try.prog 16 #[v] w fun e w' => e = .returned (.int .i64 1) ∧ w = w' := by
  have hn := fun W (hW : W = w) => hW ▸ nob_up h
  clear h
  go_enter Try.func16, Try.ntmps16
  go_wp2_with (go_at_call 27; refine (hn _ rfl).mono ?_; rintro e w' ⟨rfl, rfl⟩)
  go_ret
  exact ⟨rfl, rfl⟩


theorem nob_Off {w : World} {v : Value} (h : Nob w v) (x y : Value) :
    Calls Try.prog 11 #[v] w fun e w' => e = .returned (.int .i64 1) ∧ w = w' := by
  have hn := fun W (hW : W = w) => hW ▸ nob_up h
  clear h
  go_enter Try.func11, Try.ntmps11
  go_wp2_with (go_at_call 27; refine (hn _ rfl).mono ?_; rintro e w' ⟨rfl, rfl⟩)
  go_ret
  exact ⟨rfl, rfl⟩


theorem nob_Arm {w : World} {v : Value} (h : Nob w v) (x y : Value) :
    Calls Try.prog 19 #[v, x] w fun e w' => e = .returned (.int .i64 1) ∧ w = w' := by
  have hn := fun W (hW : W = w) => hW ▸ nob_up h
  clear h
  go_enter Try.func19, Try.ntmps19
  go_wp2_with (go_at_call 27; refine (hn _ rfl).mono ?_; rintro e w' ⟨rfl, rfl⟩)
  go_ret
  exact ⟨rfl, rfl⟩


theorem nob_Write {w : World} {v : Value} (h : Nob w v) (x y : Value) :
    Calls Try.prog 10 #[v, x, y] w fun e w' => e = .returned (.int .i64 1) ∧ w = w' := by
  have hn := fun W (hW : W = w) => hW ▸ nob_up h
  clear h
  go_enter Try.func10, Try.ntmps10
  go_wp2_with (go_at_call 27; refine (hn _ rfl).mono ?_; rintro e w' ⟨rfl, rfl⟩)
  go_ret
  exact ⟨rfl, rfl⟩


theorem nob_Read {w : World} {v : Value} (h : Nob w v) (x y : Value) :
    Calls Try.prog 25 #[v, x] w fun e w' => e = .returned (.tuple #[.string ⟨#[]⟩, .int .i64 1]) ∧ w = w' := by
  have hn := fun W (hW : W = w) => hW ▸ nob_up h
  clear h
  go_enter Try.func25, Try.ntmps25
  go_wp2_with (go_at_call 27; refine (hn _ rfl).mono ?_; rintro e w' ⟨rfl, rfl⟩)
  go_ret2
  exact ⟨rfl, rfl⟩


theorem nob_On {w : World} {v : Value} (h : Nob w v) (x y : Value) :
    Calls Try.prog 12 #[v, x] w fun e w' => e = .returned (.int .i64 1) ∧ w = w' := by
  have hn := fun W (hW : W = w) => hW ▸ nob_none h
  clear h
  go_enter Try.func12, Try.ntmps12
  go_wp2_with (go_at_call 30; refine (hn _ rfl).mono ?_; rintro e w' ⟨rfl, rfl⟩)
  go_ret
  exact ⟨rfl, rfl⟩


theorem nob_Size {w : World} {v : Value} (h : Nob w v) (x y : Value) :
    Calls Try.prog 24 #[v] w fun e w' => e = .returned (.int .i64 0) ∧ w = w' := by
  have hn := fun W (hW : W = w) => hW ▸ nob_none h
  clear h
  go_enter Try.func24, Try.ntmps24
  go_wp2_with (go_at_call 30; refine (hn _ rfl).mono ?_; rintro e w' ⟨rfl, rfl⟩)
  go_ret
  exact ⟨rfl, rfl⟩


theorem nob_Pending {w : World} {v : Value} (h : Nob w v) (x y : Value) :
    Calls Try.prog 17 #[v] w fun e w' => e = .returned (.int .i64 0) ∧ w = w' := by
  have hn := fun W (hW : W = w) => hW ▸ nob_none h
  clear h
  go_enter Try.func17, Try.ntmps17
  go_wp2_with (go_at_call 30; refine (hn _ rfl).mono ?_; rintro e w' ⟨rfl, rfl⟩)
  go_ret
  exact ⟨rfl, rfl⟩


theorem nob_Down {w : World} {v : Value} (h : Nob w v) (x y : Value) :
    Calls Try.prog 18 #[v] w fun e w' => e = .returned (.bool true) ∧ w = w' := by
  have hn := fun W (hW : W = w) => hW ▸ nob_none h
  clear h
  go_enter Try.func18, Try.ntmps18
  go_wp2_with (go_at_call 30; refine (hn _ rfl).mono ?_; rintro e w' ⟨rfl, rfl⟩)
  go_ret
  exact ⟨rfl, rfl⟩


theorem nob_Done {w : World} {v : Value} (h : Nob w v) (x y : Value) :
    Calls Try.prog 21 #[v] w fun e w' => e = .returned (.int .i64 0) ∧ w = w' := by
  have hn := fun W (hW : W = w) => hW ▸ nob_none h
  clear h
  go_enter Try.func21, Try.ntmps21
  go_wp2_with (go_at_call 30; refine (hn _ rfl).mono ?_; rintro e w' ⟨rfl, rfl⟩)
  go_ret
  exact ⟨rfl, rfl⟩


/-- What holds at the head of each round. -/
structure NobMid (w wr : World) (x0 x1 x2 x3 : Value) (a b c : Nat) : Prop where
  args : At wr a [x0, x1, x2, x3] 39
  n0 : Nob wr (.pointer none)
  n1 : Nob wr (.pointer (some ⟨b, 0, none⟩))
  l : At wr c [.pointer none, .pointer (some ⟨b, 0, none⟩), .pointer none] 24
  pres : Pres [] w wr

set_option maxHeartbeats 1000000 in
set_option maxRecDepth 100000 in
theorem nobody_walk (w : World) (x0 x1 x2 x3 : Value) :
    Calls Try.prog 7 #[.agg #[x0, x1, x2, x3]] w fun e w' => e = .returned (.bool true) ∧ Pres [] w w' := by
  go_enter Try.func7, Try.ntmps7
  go_wp2_with fail
  refine (new_bad 0 _ (by omega)).mono ?_
  rintro e w1 ⟨rfl, rfl⟩
  go_wp2_with fail
  have A1 := At.new w [x0, x1, x2, x3] 39
  have A2 := At.new (w.alloc (.cells #[x0, x1, x2, x3] 39)) [.slice none 0 0, .slice none 0 0, .bool false, .bool false, .int .i64 0, .int .i64 0] 59
  have A3 := At.new ((w.alloc (.cells #[x0, x1, x2, x3] 39)).alloc (.cells #[.slice none 0 0, .slice none 0 0, .bool false, .bool false, .int .i64 0, .int .i64 0] 59)) [.pointer none, .pointer (some ⟨w.heap.size + 1, 0, none⟩), .pointer none] 24
  simp only [World.size_alloc] at A2 A3
  have HM := NobMid.mk (w := w) ((A1.alloc _).alloc _) (.inl rfl) (.inr ⟨_, rfl, A2.alloc _⟩) A3 ((((Pres.refl [] w).alloc _).alloc _).alloc _)
  generalize w.heap.size = a at *
  generalize a + 1 + 1 = c at *
  generalize a + 1 = b at *
  clear A1 A2 A3
  go_loopw [18] (fun iv wr => ∃ k : Nat, k ≤ 3 ∧ iv = .int .i64 (k : Int) ∧ NobMid w wr x0 x1 x2 x3 a b c) (fun iv _ => 3 - (intOf iv).toNat)
  case atStart => exact ⟨0, by omega, rfl, HM⟩
  case round =>
    obtain ⟨k, hk, rfl, hM⟩ := hrel
    clear HM
    have g1 := hM.args.cell 1
    have g2 := hM.args.cell 2
    have g3 := hM.args.cell 3
    simp only [List.getElem?_cons_succ, List.getElem?_cons_zero] at g1 g2 g3
    by_cases hlt : k < 3
    · obtain ⟨v, hv, hN⟩ : ∃ v, wr.cell? ⟨c, k, none⟩ = some v ∧ Nob wr v := by
        obtain rfl | rfl | rfl : k = 0 ∨ k = 1 ∨ k = 2 := by omega
        · exact ⟨_, hM.l.cell 0, hM.n0⟩
        · exact ⟨_, hM.l.cell 1, hM.n1⟩
        · exact ⟨_, hM.l.cell 2, hM.n0⟩
      have hlt' : (k : Int) < 3 := by omega
      have HX := hid hM
      clear hM
      have hN := fun W (hW : W = wr) => hW ▸ hN
      go_wp2_with (first
        | (go_at_call 25; refine (nob_Read (hN _ rfl) _ x0).mono ?_; rintro e w' ⟨rfl, rfl⟩)
        | (go_at_call 10; refine (nob_Write (hN _ rfl) _ _).mono ?_; rintro e w' ⟨rfl, rfl⟩)
        | (go_at_call 16; refine (nob_Flush (hN _ rfl) x0 x0).mono ?_; rintro e w' ⟨rfl, rfl⟩)
        | (go_at_call 19; refine (nob_Arm (hN _ rfl) _ x0).mono ?_; rintro e w' ⟨rfl, rfl⟩)
        | (go_at_call 11; refine (nob_Off (hN _ rfl) x0 x0).mono ?_; rintro e w' ⟨rfl, rfl⟩)
        | (go_at_call 12; refine (nob_On (hN _ rfl) _ x0).mono ?_; rintro e w' ⟨rfl, rfl⟩)
        | (go_at_call 24; refine (nob_Size (hN _ rfl) x0 x0).mono ?_; rintro e w' ⟨rfl, rfl⟩)
        | (go_at_call 17; refine (nob_Pending (hN _ rfl) x0 x0).mono ?_; rintro e w' ⟨rfl, rfl⟩)
        | (go_at_call 18; refine (nob_Down (hN _ rfl) x0 x0).mono ?_; rintro e w' ⟨rfl, rfl⟩)
        | (go_at_call 21; refine (nob_Done (hN _ rfl) x0 x0).mono ?_; rintro e w' ⟨rfl, rfl⟩))
      go_roundw
      case rel => exact ⟨k + 1, by omega, by go_num, HX.out⟩
      case measure => simp [intOf]; omega
    · have hlt' : ¬ (k : Int) < 3 := by omega
      have HX := hid hM.pres
      clear hM
      go_wp2_with (go_at_call 14; refine (works_ok _).mono ?_; rintro e wZ ⟨rfl, QZ⟩)
      go_ret
      exact ⟨rfl, HX.out.then QZ⟩

end Go.Proofs.Ytanjlfppppghpaa
