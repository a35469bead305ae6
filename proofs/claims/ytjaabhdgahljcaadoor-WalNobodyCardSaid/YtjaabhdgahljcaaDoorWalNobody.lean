/- WalNobody: the walk: logs that Open did not make have no records, and take none; there is none on no disk; whatever text comes in. -/
import Derived.Test.YtjaabhdgahljcaaDoorWalWorks
namespace Go.Proofs.YtjaabhdgahljcaaDoor
open Go.RowKit
set_option maxRecDepth 100000

/-- Nil, or a log of noughts. -/
def NobL (w : World) (v : Value) : Prop := v = .pointer none ∨ ∃ d, v = .pointer (some ⟨d, 0, none⟩) ∧ At w d [.pointer none, .int .i64 0, .int .i64 0, .int .i64 0, .slice none 0 0, .slice none 0 0, .slice none 0 0, .bool false] 45

theorem nobl_none {w : World} {v : Value} (h : NobL w v) :
    Calls Tryd.prog 49 #[v] w fun e w' => e = .returned (.bool true) ∧ w = w' := by
  rcases h with rfl | ⟨d, rfl, hd⟩
  · go_enter Tryd.func49, Tryd.ntmps49
    go_wp2
    go_ret
    exact ⟨rfl, rfl⟩
  · have h0 := hd.cell 0
    simp only [List.getElem?_cons_zero] at h0
    go_enter Tryd.func49, Tryd.ntmps49
    go_wp2
    go_ret
    exact ⟨rfl, rfl⟩

theorem nobl_up {w : World} {v : Value} (h : NobL w v) :
    Calls Tryd.prog 43 #[v] w fun e w' => e = .returned (.int .i64 1) ∧ w = w' := by
  have hn := fun W (hW : W = w) => hW ▸ nobl_none h
  clear h
  go_enter Tryd.func43, Tryd.ntmps43
  go_wp2_with (go_at_call 49; refine (hn _ rfl).mono ?_; rintro e w' ⟨rfl, rfl⟩)
  go_ret
  exact ⟨rfl, rfl⟩

theorem nobl_Add {w : World} {v : Value} (h : NobL w v) (x y : Value) :
    Calls Tryd.prog 11 #[v, x] w fun e w' => e = .returned (.int .i64 1) ∧ w = w' := by
  have hn := fun W (hW : W = w) => hW ▸ nobl_up h
  clear h
  go_enter Tryd.func11, Tryd.ntmps11
  go_wp2_with (go_at_call 43; refine (hn _ rfl).mono ?_; rintro e w' ⟨rfl, rfl⟩)
  go_ret
  exact ⟨rfl, rfl⟩


theorem nobl_Sync {w : World} {v : Value} (h : NobL w v) (x y : Value) :
    Calls Tryd.prog 12 #[v] w fun e w' => e = .returned (.int .i64 1) ∧ w = w' := by
  have hn := fun W (hW : W = w) => hW ▸ nobl_up h
  clear h
  go_enter Tryd.func12, Tryd.ntmps12
  go_wp2_with (go_at_call 43; refine (hn _ rfl).mono ?_; rintro e w' ⟨rfl, rfl⟩)
  go_ret
  exact ⟨rfl, rfl⟩


theorem nobl_Reset {w : World} {v : Value} (h : NobL w v) (x y : Value) :
    Calls Tryd.prog 18 #[v] w fun e w' => e = .returned (.int .i64 1) ∧ w = w' := by
  have hn := fun W (hW : W = w) => hW ▸ nobl_up h
  clear h
  go_enter Tryd.func18, Tryd.ntmps18
  go_wp2_with (go_at_call 43; refine (hn _ rfl).mono ?_; rintro e w' ⟨rfl, rfl⟩)
  go_ret
  exact ⟨rfl, rfl⟩


theorem nobl_Drop {w : World} {v : Value} (h : NobL w v) (x y : Value) :
    Calls Tryd.prog 17 #[v] w fun e w' => e = .returned (.tuple #[]) ∧ w = w' := by
  have hn := fun W (hW : W = w) => hW ▸ nobl_none h
  clear h
  go_enter Tryd.func17, Tryd.ntmps17
  go_wp2_with (go_at_call 49; refine (hn _ rfl).mono ?_; rintro e w' ⟨rfl, rfl⟩)
  go_end0
  exact ⟨rfl, rfl⟩


theorem nobl_Records {w : World} {v : Value} (h : NobL w v) (x y : Value) :
    Calls Tryd.prog 15 #[v] w fun e w' => e = .returned (.slice none 0 0) ∧ w = w' := by
  have hn := fun W (hW : W = w) => hW ▸ nobl_none h
  clear h
  go_enter Tryd.func15, Tryd.ntmps15
  go_wp2_with (go_at_call 49; refine (hn _ rfl).mono ?_; rintro e w' ⟨rfl, rfl⟩)
  go_ret
  exact ⟨rfl, rfl⟩


theorem nobl_Waiting {w : World} {v : Value} (h : NobL w v) (x y : Value) :
    Calls Tryd.prog 19 #[v] w fun e w' => e = .returned (.int .i64 0) ∧ w = w' := by
  have hn := fun W (hW : W = w) => hW ▸ nobl_none h
  clear h
  go_enter Tryd.func19, Tryd.ntmps19
  go_wp2_with (go_at_call 49; refine (hn _ rfl).mono ?_; rintro e w' ⟨rfl, rfl⟩)
  go_ret
  exact ⟨rfl, rfl⟩


theorem nobl_Epoch {w : World} {v : Value} (h : NobL w v) (x y : Value) :
    Calls Tryd.prog 20 #[v] w fun e w' => e = .returned (.int .i64 0) ∧ w = w' := by
  have hn := fun W (hW : W = w) => hW ▸ nobl_none h
  clear h
  go_enter Tryd.func20, Tryd.ntmps20
  go_wp2_with (go_at_call 49; refine (hn _ rfl).mono ?_; rintro e w' ⟨rfl, rfl⟩)
  go_ret
  exact ⟨rfl, rfl⟩


theorem nobl_Room {w : World} {v : Value} (h : NobL w v) (x y : Value) :
    Calls Tryd.prog 21 #[v] w fun e w' => e = .returned (.int .i64 0) ∧ w = w' := by
  have hn := fun W (hW : W = w) => hW ▸ nobl_none h
  clear h
  go_enter Tryd.func21, Tryd.ntmps21
  go_wp2_with (go_at_call 49; refine (hn _ rfl).mono ?_; rintro e w' ⟨rfl, rfl⟩)
  go_ret
  exact ⟨rfl, rfl⟩


theorem nild_none {w : World} :
    Calls Tryd.prog 51 #[.pointer none] w fun e w' => e = .returned (.bool true) ∧ w = w' := by
  go_enter Tryd.func51, Tryd.ntmps51
  go_wp2
  go_ret
  exact ⟨rfl, rfl⟩

theorem nild_size {w : World} :
    Calls Tryd.prog 35 #[.pointer none] w fun e w' => e = .returned (.int .i64 0) ∧ w = w' := by
  go_enter Tryd.func35, Tryd.ntmps35
  go_wp2_with (go_at_call 51; refine nild_none.mono ?_; rintro e w' ⟨rfl, rfl⟩)
  go_ret
  exact ⟨rfl, rfl⟩

theorem open_nil {w : World} (a b : Int) :
    Calls Tryd.prog 9 #[.pointer none, .int .i64 a, .int .i64 b] w fun e w' => e = .returned (.tuple #[.pointer none, .int .i64 1]) ∧ w = w' := by
  go_enter Tryd.func9, Tryd.ntmps9
  go_wp2_with (go_at_call 35; refine nild_size.mono ?_; rintro e w' ⟨rfl, rfl⟩)
  go_ret2
  exact ⟨rfl, rfl⟩

/-- What holds at the head of each round. -/
structure NobLMid (w wr : World) (b c : Nat) : Prop where
  n0 : NobL wr (.pointer none)
  n1 : NobL wr (.pointer (some ⟨b, 0, none⟩))
  l : At wr c [.pointer none, .pointer (some ⟨b, 0, none⟩), .pointer none] 24
  pres : Pres [] w wr

set_option maxHeartbeats 1000000 in
theorem wal_nobody_walk (w : World) (hh : HalfAt w) (x : Value) :
    Calls Tryd.prog 4 #[x] w fun e w' => e = .returned (.bool true) ∧ Pres [] w w' := by
  go_enter Tryd.func4, Tryd.ntmps4
  go_wp2_with fail
  refine (open_nil 0 4).mono ?_
  rintro e w1 ⟨rfl, rfl⟩
  go_wp2_with fail
  have A2 := At.new w [.pointer none, .int .i64 0, .int .i64 0, .int .i64 0, .slice none 0 0, .slice none 0 0, .slice none 0 0, .bool false] 45
  have A3 := At.new (w.alloc (.cells #[.pointer none, .int .i64 0, .int .i64 0, .int .i64 0, .slice none 0 0, .slice none 0 0, .slice none 0 0, .bool false] 45)) [.pointer none, .pointer (some ⟨w.heap.size, 0, none⟩), .pointer none] 24
  simp only [World.size_alloc] at A2 A3
  have HM := NobLMid.mk (w := w) (.inl rfl) (.inr ⟨_, rfl, A2.alloc _⟩) A3 (((Pres.refl [] w).alloc _).alloc _)
  generalize w.heap.size = b at *
  generalize b + 1 = c at *
  clear A2 A3
  go_loopw [16] (fun iv wr => ∃ k : Nat, k ≤ 3 ∧ iv = .int .i64 (k : Int) ∧ NobLMid w wr b c) (fun iv _ => 3 - (intOf iv).toNat)
  case atStart => exact ⟨0, by omega, rfl, HM⟩
  case round =>
    obtain ⟨k, hk, rfl, hM⟩ := hrel
    clear HM
    by_cases hlt : k < 3
    · obtain ⟨v, hv, hN⟩ : ∃ v, wr.cell? ⟨c, k, none⟩ = some v ∧ NobL wr v := by
        obtain rfl | rfl | rfl : k = 0 ∨ k = 1 ∨ k = 2 := by omega
        · exact ⟨_, hM.l.cell 0, hM.n0⟩
        · exact ⟨_, hM.l.cell 1, hM.n1⟩
        · exact ⟨_, hM.l.cell 2, hM.n0⟩
      have hlt' : (k : Int) < 3 := by omega
      have HX := hid hM
      clear hM
      have hN := fun W (hW : W = wr) => hW ▸ hN
      go_wp2_with (first
        | (go_at_call 17; refine (nobl_Drop (hN _ rfl) x x).mono ?_; rintro e w' ⟨rfl, rfl⟩)
        | (go_at_call 11; refine (nobl_Add (hN _ rfl) _ x).mono ?_; rintro e w' ⟨rfl, rfl⟩)
        | (go_at_call 12; refine (nobl_Sync (hN _ rfl) x x).mono ?_; rintro e w' ⟨rfl, rfl⟩)
        | (go_at_call 18; refine (nobl_Reset (hN _ rfl) x x).mono ?_; rintro e w' ⟨rfl, rfl⟩)
        | (go_at_call 15; refine (nobl_Records (hN _ rfl) x x).mono ?_; rintro e w' ⟨rfl, rfl⟩)
        | (go_at_call 19; refine (nobl_Waiting (hN _ rfl) x x).mono ?_; rintro e w' ⟨rfl, rfl⟩)
        | (go_at_call 20; refine (nobl_Epoch (hN _ rfl) x x).mono ?_; rintro e w' ⟨rfl, rfl⟩)
        | (go_at_call 21; refine (nobl_Room (hN _ rfl) x x).mono ?_; rintro e w' ⟨rfl, rfl⟩))
      go_roundw
      case rel => exact ⟨k + 1, by omega, by go_num, HX.out⟩
      case measure => simp [intOf]; omega
    · have hlt' : ¬ (k : Int) < 3 := by omega
      have HX := hid hM.pres
      clear hM
      go_wp2_with (go_at_call 16; refine (wal_works _ (hh.pres HX.out)).mono ?_; rintro e wZ ⟨rfl, QZ⟩)
      go_ret
      exact ⟨rfl, HX.out.then QZ⟩

end Go.Proofs.YtjaabhdgahljcaaDoor
