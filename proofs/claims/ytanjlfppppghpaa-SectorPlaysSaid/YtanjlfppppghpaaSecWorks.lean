/- The chapter's example (works): it returns true; no condition. -/
import Derived.Test.YtanjlfppppghpaaDiskF
namespace Go.Proofs.Ytanjlfppppghpaa
open Go.RowKit

/-- A disk that is wholly in new memory: nothing that was there in w0 has changed. -/
def Own (w0 w : World) (d : Nat) (fp : List Nat) (σ : Dk) : Prop := DiskAt w d fp σ ∧ Pres [] w0 w ∧ ∀ k ∈ fp, w0.heap.size ≤ k

theorem Own.step {w0 w w' : World} {d : Nat} {fp : List Nat} {σ σ' : Dk} (h : Own w0 w d fp σ) (s : DiskStep w d fp σ' w') : ∃ fp', Own w0 w' d fp' σ' := by
  obtain ⟨fp', h1, h2, h3⟩ := s
  refine ⟨fp', h1, h.2.1.trans h2 (fun x hx => .inr (h.2.2 x hx)), fun k hk => ?_⟩
  rcases h3 k hk with h4 | h4
  · exact h.2.2 k h4
  · have := h.2.1.size; omega

theorem Own.step' {w0 w w' : World} {d : Nat} {fp : List Nat} {σ σ' : Dk} (h : Own w0 w d fp σ) (s : DiskStep w d fp σ' w') :
    ∃ fp', Own w0 w' d fp' σ' ∧ Pres fp w w' ∧ (∀ b, b ∉ fp → b < w.heap.size → b ∉ fp') := by
  obtain ⟨fp', h1, h2, h3⟩ := s
  refine ⟨fp', ⟨h1, h.2.1.trans h2 (fun x hx => .inr (h.2.2 x hx)), fun k hk => ?_⟩, h2, fun b hb hlt hm => ?_⟩
  · rcases h3 k hk with h4 | h4
    · exact h.2.2 k h4
    · have := h.2.1.size; omega
  · rcases h3 b hm with h4 | h4
    · exact hb h4
    · omega

theorem Own.other {w0 w w' : World} {d : Nat} {fp : List Nat} {σ : Dk} (h : Own w0 w d fp σ) {b : Nat} (hp : Pres [b] w w') (hb : b ∉ fp) (h0 : w0.heap.size ≤ b) : Own w0 w' d fp σ :=
  ⟨h.1.pres hp (fun k hk hm => by simp at hm; subst hm; exact hb hk), h.2.1.trans hp (by simpa using h0), h.2.2⟩

theorem Own.quiet {w0 w w' : World} {d : Nat} {fp : List Nat} {σ : Dk} (h : Own w0 w d fp σ) (hp : Pres [] w w') : Own w0 w' d fp σ :=
  ⟨h.1.pres hp (by simp), h.2.1.then hp, h.2.2⟩

set_option maxRecDepth 100000 in
set_option maxHeartbeats 1000000 in
theorem works_ok (w : World) : Calls Try.prog 14 #[] w fun e w' => e = .returned (.bool true) ∧ Pres [] w w' := by
  go_enter Try.func14, Try.ntmps14
  go_wp2_with fail
  refine (new_ok' 2 _ (by omega) (by omega)).mono ?_
  rintro e w1 ⟨d, fp, rfl, D0, P0, F0⟩
  have H0 : Own w w1 d fp (Dk.new 2) := ⟨D0, P0, F0⟩
  clear D0 P0 F0
  go_wp2_with fail
  refine (disk_write H0.1 _ _ (by decide)).mono ?_
  rintro e w2 ⟨rfl, S⟩
  obtain ⟨fp2, H1⟩ := H0.step S
  clear H0 S
  go_wp2_with fail
  refine (disk_flush H1.1).mono ?_
  rintro e w3 ⟨rfl, S⟩
  obtain ⟨fp3, H2⟩ := H1.step S
  clear H1 S
  go_wp2_with fail
  refine (disk_write H2.1 _ _ (by decide)).mono ?_
  rintro e w4 ⟨rfl, S⟩
  obtain ⟨fp4, H3⟩ := H2.step S
  clear H2 S
  go_wp2_with fail
  refine (disk_write H3.1 _ _ (by decide)).mono ?_
  rintro e w5 ⟨rfl, S⟩
  obtain ⟨fp5, H4⟩ := H3.step S
  clear H3 S
  go_wp2_with fail
  refine (disk_off H4.1).mono ?_
  rintro e w6 ⟨rfl, S⟩
  obtain ⟨fp6, H5⟩ := H4.step S
  clear H4 S
  go_wp2_with fail
  have R0 := At.new w6 [.bool false, .bool true] 4
  have H6 := H5.quiet ((Pres.refl [] w6).alloc (.cells #[.bool false, .bool true] 4))
  have F6 : ∀ k ∈ fp6, k < w6.heap.size := H5.1.lt
  refine (disk_on (keep := [false, true]) H6.1 (by exact At.reads R0 rfl (by omega) (by simp [maxLen])) (fun _ k hk hm => by simp [fpv] at hk; have := F6 k hm; omega)).mono ?_
  rintro e w7 ⟨rfl, S⟩
  obtain ⟨fp7, H7⟩ := H6.step S
  clear H5 H6 S R0 F6
  go_wp2_with fail
  have R := disk_read H7.1 0
  have e0 : ((((((((Dk.new 2).write 0 [97]).2.flush).2.write 0 [98]).2.write 1 [99]).2.off).2.on [false, true]).2).read 0 = (97 :: List.replicate 63 0, 0) := by decide +kernel
  rw [e0] at R
  refine R.mono ?_
  rintro e w8 ⟨rfl, Q⟩
  have H8 := H7.quiet Q
  clear H7 Q R e0
  go_wp2_with fail
  have R := disk_read H8.1 1
  have e0 : ((((((((Dk.new 2).write 0 [97]).2.flush).2.write 0 [98]).2.write 1 [99]).2.off).2.on [false, true]).2).read 1 = (99 :: List.replicate 63 0, 0) := by decide +kernel
  rw [e0] at R
  refine R.mono ?_
  rintro e w9 ⟨rfl, Q⟩
  have H9 := H8.quiet Q
  clear H8 Q R e0
  have z0 : ((((((((Dk.new 2).write 0 [97]).2.flush).2.write 0 [98]).2.write 1 [99]).2.off).2.on [false, true]).1 == 0) = true := by decide +kernel
  have HP := hid H9.2.1
  clear H9
  go_wp2
  go_ret
  exact ⟨by kernel_rfl, HP.out⟩

end Go.Proofs.Ytanjlfppppghpaa
