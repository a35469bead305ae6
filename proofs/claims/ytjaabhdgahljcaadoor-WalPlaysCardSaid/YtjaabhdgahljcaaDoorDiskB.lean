/- The methods of a disk that write its own cells alone: each comes to what Dk says; all conditions stand in DiskAt. -/
import Derived.Test.YtjaabhdgahljcaaDoorDiskA
namespace Go.Proofs.YtjaabhdgahljcaaDoor
open Go.RowKit

theorem DiskAt.mk' {w : World} {d kb : Nat} {pv : Value} {σ : Dk} (h1 : d ≠ kb) (h2 : d ∉ fpv pv) (h3 : kb ∉ fpv pv) (hd : At w d (diskCells kb pv σ) 87) (hk : At w kb (keptCells σ.kept) 81)
    (hs : Sl w 83 65 pv σ.pend.length (pendCells σ.pend)) (ok : σ.Ok) : DiskAt w d (d :: kb :: fpv pv) σ := ⟨kb, pv, rfl, h1, h2, h3, hd, hk, hs, ok⟩

/-- The struct's own block is written: cells of another σ with the same slices. -/
theorem DiskAt.own {w w' : World} {d kb : Nat} {pv : Value} {σ τ : Dk} (h1 : d ≠ kb) (h2 : d ∉ fpv pv) (h3 : kb ∉ fpv pv) (hk : At w kb (keptCells σ.kept) 81)
    (hs : Sl w 83 65 pv σ.pend.length (pendCells σ.pend)) (hp : Pres [d] w w') (hd : At w' d (diskCells kb pv τ) 87) (ek : τ.kept = σ.kept) (ep : τ.pend = σ.pend) (ok : τ.Ok) :
    DiskStep w d (d :: kb :: fpv pv) τ w' :=
  ⟨_, DiskAt.mk' h1 h2 h3 hd (by rw [ek]; exact hk.pres hp (by simpa using Ne.symm h1)) (by rw [ep]; exact hs.pres hp (by intro k hk hm; simp at hm; subst hm; exact h2 hk)) ok,
    hp.wider (by simp), fun _ hm => .inl hm⟩

theorem disk_size {w : World} {d : Nat} {fp : List Nat} {σ : Dk} (h : DiskAt w d fp σ) :
    Calls Tryd.prog 35 #[.pointer (some ⟨d, 0, none⟩)] w fun e w' => e = .returned (.int .i64 (σ.kept.length : Int)) ∧ w = w' := by
  have hn := fun W (hW : W = w) => hW ▸ disk_none h
  obtain ⟨kb, pv, -, -, -, -, hd, -, -, ok⟩ := h
  have h0 := hd.cell 0
  simp only [diskCells, List.getElem?_cons_zero] at h0
  clear ok hd
  go_enter Tryd.func35, Tryd.ntmps35
  go_wp2_with (go_at_call 51; refine (hn _ rfl).mono ?_; rintro e w' ⟨rfl, rfl⟩)
  go_ret
  exact ⟨rfl, rfl⟩

theorem disk_pending {w : World} {d : Nat} {fp : List Nat} {σ : Dk} (h : DiskAt w d fp σ) :
    Calls Tryd.prog 33 #[.pointer (some ⟨d, 0, none⟩)] w fun e w' => e = .returned (.int .i64 (σ.pend.length : Int)) ∧ w = w' := by
  have hn := fun W (hW : W = w) => hW ▸ disk_none h
  obtain ⟨kb, pv, -, -, -, -, hd, -, hs, ok⟩ := h
  obtain ⟨ao, cap, rfl, -, -⟩ := hs.shape
  have h1 := hd.cell 1
  simp only [diskCells, List.getElem?_cons_succ, List.getElem?_cons_zero] at h1
  clear ok hd hs
  go_enter Tryd.func33, Tryd.ntmps33
  go_wp2_with (go_at_call 51; refine (hn _ rfl).mono ?_; rintro e w' ⟨rfl, rfl⟩)
  go_ret
  exact ⟨rfl, rfl⟩

theorem disk_down {w : World} {d : Nat} {fp : List Nat} {σ : Dk} (h : DiskAt w d fp σ) :
    Calls Tryd.prog 26 #[.pointer (some ⟨d, 0, none⟩)] w fun e w' => e = .returned (.bool σ.down) ∧ w = w' := by
  have hn := fun W (hW : W = w) => hW ▸ disk_none h
  obtain ⟨kb, pv, -, -, -, -, hd, -, -, ok⟩ := h
  have h2 := hd.cell 2
  simp only [diskCells, List.getElem?_cons_succ, List.getElem?_cons_zero] at h2
  clear ok hd
  go_enter Tryd.func26, Tryd.ntmps26
  go_wp2_with (go_at_call 51; refine (hn _ rfl).mono ?_; rintro e w' ⟨rfl, rfl⟩)
  go_ret
  exact ⟨rfl, rfl⟩

theorem disk_done {w : World} {d : Nat} {fp : List Nat} {σ : Dk} (h : DiskAt w d fp σ) :
    Calls Tryd.prog 32 #[.pointer (some ⟨d, 0, none⟩)] w fun e w' => e = .returned (.int .i64 σ.done) ∧ w = w' := by
  have hn := fun W (hW : W = w) => hW ▸ disk_none h
  obtain ⟨kb, pv, -, -, -, -, hd, -, -, ok⟩ := h
  have h5 := hd.cell 5
  simp only [diskCells, List.getElem?_cons_succ, List.getElem?_cons_zero] at h5
  clear ok hd
  go_enter Tryd.func32, Tryd.ntmps32
  go_wp2_with (go_at_call 51; refine (hn _ rfl).mono ?_; rintro e w' ⟨rfl, rfl⟩)
  go_ret
  exact ⟨rfl, rfl⟩

theorem disk_does {w : World} {d : Nat} {fp : List Nat} {σ : Dk} (h : DiskAt w d fp σ) :
    Calls Tryd.prog 42 #[.pointer (some ⟨d, 0, none⟩)] w fun e w' => e = .returned (.int .i64 σ.does.1) ∧ DiskStep w d fp σ.does.2 w' := by
  obtain ⟨kb, pv, rfl, n1, n2, n3, hd, hkb, hs, ok⟩ := h
  have h2 := hd.cell 2
  have h3 := hd.cell 3
  have h4 := hd.cell 4
  have h5 := hd.cell 5
  simp only [diskCells, List.getElem?_cons_succ, List.getElem?_cons_zero] at h2 h3 h4 h5
  have f2 := hd.frozen 2
  have f4 := hd.frozen 4
  have f5 := hd.frozen 5
  have b0 := ok.left0
  have b1 := ok.left1
  have hok := Dk.does_ok ok
  have H : (∀ τ, σ.does.2 = τ → τ.Ok) := fun τ e => e ▸ hok
  have HH := And.intro ok (And.intro H hd)
  clear ok H hok
  by_cases ha : σ.armed = true
  · by_cases hl : σ.left = 0
    · have e : σ.does = (10, { σ with down := true }) := by simp [Dk.does, ha, hl]
      rw [e]
      have hl' : (σ.left == 0) = true := by simpa using hl
      rw [ha] at h3
      clear hl
      go_enter Tryd.func42, Tryd.ntmps42
      go_wp2
      go_ret
      refine ⟨rfl, DiskAt.own n1 n2 n3 hkb hs ((Pres.refl _ _).setCell (by simp) _) ?_ rfl rfl (HH.2.1 _ (by rw [e]))⟩
      exact HH.2.2.setCell 2 _
    · have e : σ.does = (0, { σ with left := σ.left - 1, done := wrap64 (σ.done + 1) }) := by simp [Dk.does, ha, hl]
      rw [e]
      have hl' : (σ.left == 0) = false := by simpa using hl
      have hl2 : 1 ≤ σ.left := by omega
      rw [ha] at h3
      clear hl
      go_enter Tryd.func42, Tryd.ntmps42
      go_wp2
      go_ret
      refine ⟨rfl, DiskAt.own n1 n2 n3 hkb hs (((Pres.refl _ _).setCell (by simp) _).setCell (by simp) _) ?_ rfl rfl (HH.2.1 _ (by rw [e]))⟩
      exact (HH.2.2.setCell 4 _).setCell 5 _
  · have ha' : σ.armed = false := by simpa using ha
    have e : σ.does = (0, { σ with left := σ.left, done := wrap64 (σ.done + 1) }) := by simp [Dk.does, ha']
    rw [e]
    rw [ha'] at h3
    go_enter Tryd.func42, Tryd.ntmps42
    go_wp2
    go_ret
    refine ⟨rfl, DiskAt.own n1 n2 n3 hkb hs ((Pres.refl _ _).setCell (by simp) _) ?_ rfl rfl (HH.2.1 _ (by rw [e]))⟩
    exact HH.2.2.setCell 5 _

theorem disk_off {w : World} {d : Nat} {fp : List Nat} {σ : Dk} (h : DiskAt w d fp σ) :
    Calls Tryd.prog 23 #[.pointer (some ⟨d, 0, none⟩)] w fun e w' => e = .returned (.int .i64 σ.off.1) ∧ DiskStep w d fp σ.off.2 w' := by
  have hn := fun W (hW : W = w) => hW ▸ disk_up h
  have h' := h
  obtain ⟨kb, pv, rfl, n1, n2, n3, hd, hkb, hs, ok⟩ := h
  have h2 := hd.cell 2
  simp only [diskCells, List.getElem?_cons_succ, List.getElem?_cons_zero] at h2
  have f2 := hd.frozen 2
  have hok := Dk.off_ok ok
  cases hdn : σ.down
  · have e : σ.off = (0, { σ with down := true }) := by simp [Dk.off, hdn]
    have eu : σ.up = 0 := by simp [Dk.up, hdn]
    rw [e] at hok ⊢
    rw [eu] at hn
    have HH := And.intro hd hok
    clear hd ok hok h'
    go_enter Tryd.func23, Tryd.ntmps23
    go_wp2_with (go_at_call 40; refine (hn _ rfl).mono ?_; rintro e w' ⟨rfl, rfl⟩)
    go_ret
    exact ⟨rfl, DiskAt.own n1 n2 n3 hkb hs ((Pres.refl _ _).setCell (by simp) _) (HH.1.setCell 2 _) rfl rfl HH.2⟩
  · have e : σ.off = (10, σ) := by simp [Dk.off, hdn]
    have eu : σ.up = 10 := by simp [Dk.up, hdn]
    rw [e]
    rw [eu] at hn
    have HH := And.intro h' h'
    clear hd ok hok h'
    go_enter Tryd.func23, Tryd.ntmps23
    go_wp2_with (go_at_call 40; refine (hn _ rfl).mono ?_; rintro e w' ⟨rfl, rfl⟩)
    go_ret
    exact ⟨rfl, DiskStep.refl HH.1⟩

theorem disk_arm {w : World} {d : Nat} {fp : List Nat} {σ : Dk} (h : DiskAt w d fp σ) (n : Int) (hb : n ≤ 9223372036854775807) :
    Calls Tryd.prog 25 #[.pointer (some ⟨d, 0, none⟩), .int .i64 n] w fun e w' => e = .returned (.int .i64 (σ.arm n).1) ∧ DiskStep w d fp (σ.arm n).2 w' := by
  have hn := fun W (hW : W = w) => hW ▸ disk_up h
  have h' := h
  obtain ⟨kb, pv, rfl, n1, n2, n3, hd, hkb, hs, ok⟩ := h
  have h3 := hd.cell 3
  have h4 := hd.cell 4
  simp only [diskCells, List.getElem?_cons_succ, List.getElem?_cons_zero] at h3 h4
  have f3 := hd.frozen 3
  have f4 := hd.frozen 4
  have hok := Dk.arm_ok ok hb
  clear hb
  cases hdn : σ.down
  · have eu : σ.up = 0 := by simp [Dk.up, hdn]
    rw [eu] at hn
    by_cases h0 : 0 ≤ n
    · have e : σ.arm n = (0, { σ with armed := true, left := n }) := by simp [Dk.arm, hdn, h0]; omega
      rw [e] at hok ⊢
      have HH := And.intro hd hok
      clear hd ok hok h' hdn e
      go_enter Tryd.func25, Tryd.ntmps25
      go_wp2_with (go_at_call 40; refine (hn _ rfl).mono ?_; rintro e w' ⟨rfl, rfl⟩)
      go_ret
      exact ⟨rfl, DiskAt.own n1 n2 n3 hkb hs (((Pres.refl _ _).setCell (by simp) _).setCell (by simp) _) ((HH.1.setCell 3 _).setCell 4 _) rfl rfl HH.2⟩
    · have e : σ.arm n = (0, { σ with armed := false, left := 0 }) := by simp [Dk.arm, hdn]; omega
      have hd0 : decide (0 ≤ n) = false := by simpa using h0
      rw [e] at hok ⊢
      have HH := And.intro hd hok
      clear hd ok hok h' hdn e
      go_enter Tryd.func25, Tryd.ntmps25
      go_wp2_with (go_at_call 40; refine (hn _ rfl).mono ?_; rintro e w' ⟨rfl, rfl⟩)
      go_ret
      exact ⟨rfl, DiskAt.own n1 n2 n3 hkb hs (((Pres.refl _ _).setCell (by simp) _).setCell (by simp) _) ((HH.1.setCell 3 _).setCell 4 _) rfl rfl HH.2⟩
  · have e : σ.arm n = (10, σ) := by simp [Dk.arm, hdn]
    have eu : σ.up = 10 := by simp [Dk.up, hdn]
    rw [e]
    rw [eu] at hn
    have HH := And.intro h' h'
    clear hd ok hok h'
    go_enter Tryd.func25, Tryd.ntmps25
    go_wp2_with (go_at_call 40; refine (hn _ rfl).mono ?_; rintro e w' ⟨rfl, rfl⟩)
    go_ret
    exact ⟨rfl, DiskStep.refl HH.1⟩

end Go.Proofs.YtjaabhdgahljcaaDoor
