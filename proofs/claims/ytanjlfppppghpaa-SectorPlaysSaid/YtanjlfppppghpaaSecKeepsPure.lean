/- SectorKeeps, the plain part: what begin's calls make of a disk of six sectors. No Go. -/
import Derived.Test.YtanjlfppppghpaaActArgs
import Derived.Test.YtanjlfppppghpaaDisk
namespace Go.Proofs.Ytanjlfppppghpaa
open Go.RowKit

/-- A place as the statement folds it into six. -/
def sec6 (p : Int) : Int := p.tmod 6 % 6
def cutS (s : ByteArray) : List UInt8 := s.data.toList.take 64

theorem cutS_le (s : ByteArray) : (cutS s).length ≤ 64 := by simp [cutS]; omega

theorem tmod6 (p : Int) : -5 ≤ p.tmod 6 ∧ p.tmod 6 ≤ 5 := by
  have h1 := Int.tmod_lt_of_pos p (show (0 : Int) < 6 by omega)
  have h2 : -6 < p.tmod 6 := by
    have := Int.lt_tmod_of_pos p (show (0 : Int) < 6 by omega)
    omega
  omega

theorem sec6_range (p : Int) : 0 ≤ sec6 p ∧ sec6 p < 6 := by unfold sec6; omega

def actDk (σ : Dk) (a : ActD) : Dk := if a.kind = 2 then σ.flush.2 else (σ.write (sec6 a.pos) (cutS a.s)).2

def beginDk (l : List ActD) : Nat → Dk
  | 0 => Dk.new 6
  | k + 1 => match l[k]? with
    | none => beginDk l k
    | some a => actDk (beginDk l k) a

/-- A disk of six sectors with power, not armed. -/
structure Six (σ : Dk) : Prop where
  down : σ.down = false
  armed : σ.armed = false
  len : σ.kept.length = 6

theorem Six.does {σ : Dk} (h : Six σ) : σ.does.1 = 0 ∧ Six σ.does.2 ∧ σ.does.2.pend = σ.pend ∧ σ.does.2.kept = σ.kept := by
  have e : σ.does = (0, { σ with done := wrap64 (σ.done + 1) }) := by simp [Dk.does, h.armed]
  rw [e]
  exact ⟨rfl, ⟨h.down, h.armed, h.len⟩, rfl, rfl⟩

theorem Six.has {σ : Dk} (h : Six σ) {i : Int} (h0 : 0 ≤ i) (h1 : i < 6) : σ.has i = true := by simp [Dk.has, h.len]; omega

theorem Six.write {σ : Dk} (h : Six σ) {i : Int} (h0 : 0 ≤ i) (h1 : i < 6) {s : List UInt8} (hs : s.length ≤ 64) :
    (σ.write i s).1 = 0 ∧ Six (σ.write i s).2 ∧ (σ.write i s).2.pend = σ.pend ++ [(i.toNat, pad s)] ∧ (σ.write i s).2.kept = σ.kept := by
  obtain ⟨d1, d2, d3, d4⟩ := h.does
  have e : σ.write i s = (0, σ.does.2.put i.toNat s) := by
    unfold Dk.write
    rw [if_neg (by simp [h.down]), if_pos (h.has h0 h1), if_neg (by omega), if_pos d1]
  rw [e]
  exact ⟨rfl, ⟨d2.down, d2.armed, d2.len⟩, by simp [Dk.put, d3], d4⟩

theorem Six.flush {σ : Dk} (h : Six σ) : σ.flush.1 = 0 ∧ Six σ.flush.2 ∧ σ.flush.2.pend = [] := by
  obtain ⟨d1, d2, d3, d4⟩ := h.does
  have e : σ.flush = (0, σ.does.2.settle) := by
    unfold Dk.flush
    rw [if_neg (by simp [h.down]), if_pos d1]
  rw [e]
  exact ⟨rfl, ⟨d2.down, d2.armed, by simp [Dk.settle, keepAll_length, d2.len]⟩, rfl⟩

theorem Six.act {σ : Dk} (h : Six σ) (a : ActD) : Six (actDk σ a) ∧ (actDk σ a).pend.length ≤ σ.pend.length + 1 := by
  unfold actDk
  split
  · exact ⟨h.flush.2.1, by rw [h.flush.2.2]; simp⟩
  · have hr := sec6_range a.pos
    have hw := h.write hr.1 hr.2 (cutS_le a.s)
    exact ⟨hw.2.1, by rw [hw.2.2.1]; simp⟩

theorem beginDk_six (l : List ActD) (k : Nat) : Six (beginDk l k) ∧ (beginDk l k).pend.length ≤ k := by
  induction k with
  | zero => exact ⟨⟨rfl, rfl, by simp [beginDk, Dk.new]⟩, by simp [beginDk, Dk.new]⟩
  | succ k ih =>
    unfold beginDk
    split
    · exact ⟨ih.1, by omega⟩
    · rename_i a _
      have := ih.1.act a
      exact ⟨this.1, by omega⟩

/-- Writes alone, from a disk on. -/
def moreDk (σ : Dk) (l : List ActD) : Nat → Dk
  | 0 => σ
  | k + 1 => match l[k]? with
    | none => moreDk σ l k
    | some a => ((moreDk σ l k).write (sec6 a.pos) (cutS a.s)).2

/-- Which sectors they hit. -/
def touchL (l : List ActD) : Nat → List Bool
  | 0 => List.replicate 6 false
  | k + 1 => match l[k]? with
    | none => touchL l k
    | some a => (touchL l k).set (sec6 a.pos).toNat true

theorem touchL_length (l : List ActD) (k : Nat) : (touchL l k).length = 6 := by
  induction k with
  | zero => simp [touchL]
  | succ k ih => unfold touchL; split <;> simp [ih]

theorem moreDk_inv {σ : Dk} (h : Six σ) (hp : σ.pend = []) (l : List ActD) (k : Nat) :
    Six (moreDk σ l k) ∧ (moreDk σ l k).pend.length ≤ k ∧ (moreDk σ l k).kept = σ.kept ∧ ∀ p ∈ (moreDk σ l k).pend, (touchL l k)[p.1]? = some true := by
  induction k with
  | zero => exact ⟨h, by simp [moreDk, hp], rfl, by simp [moreDk, hp]⟩
  | succ k ih =>
    obtain ⟨h1, h2, h3, h4⟩ := ih
    unfold moreDk touchL
    cases ha : l[k]? with
    | none => exact ⟨h1, by simp only []; omega, h3, h4⟩
    | some a =>
      have hr := sec6_range a.pos
      have hw := h1.write hr.1 hr.2 (cutS_le a.s)
      refine ⟨hw.2.1, by simp only []; rw [hw.2.2.1]; simp; omega, by simp only []; rw [hw.2.2.2]; exact h3, ?_⟩
      intro p hp
      simp only [] at hp ⊢
      rw [hw.2.2.1] at hp
      rcases List.mem_append.1 hp with hp | hp
      · by_cases e : (sec6 a.pos).toNat = p.1
        · rw [e, List.getElem?_set_self (by rw [touchL_length]; have := h4 p hp; have := (List.getElem?_eq_some_iff.1 this).1; rwa [touchL_length] at this)]
        · rw [List.getElem?_set_ne e]; exact h4 p hp
      · simp at hp
        subst hp
        simp only []
        rw [List.getElem?_set_self (by rw [touchL_length]; omega)]

theorem keepAll_other {i : Nat} : ∀ (ps : List (Nat × List UInt8)) (K : List (List UInt8)), (∀ p ∈ ps, p.1 ≠ i) → (keepAll K ps).getD i [] = K.getD i []
  | [], K, _ => rfl
  | p :: ps, K, h => by
    have ih := keepAll_other ps (K.set p.1 p.2) (fun q hq => h q (by simp [hq]))
    simp only [keepAll, List.foldl_cons] at ih ⊢
    rw [ih]
    have hne := h p (by simp)
    simp [List.getD_eq_getElem?_getD, List.getElem?_set_ne hne]

/-- The disk behind Off and On. -/
def keepsEnd (σ : Dk) (l : List ActD) (keep : List Bool) (k : Nat) : Dk := ((moreDk σ l k).off.2.on keep).2

theorem keepsEnd_eq {σ : Dk} (h : Six σ) (hp : σ.pend = []) (l : List ActD) (keep : List Bool) (k : Nat) :
    (moreDk σ l k).off.1 = 0 ∧ ((moreDk σ l k).off.2.on keep).1 = 0 ∧ (keepsEnd σ l keep k).pend = [] ∧ (keepsEnd σ l keep k).down = false ∧ (keepsEnd σ l keep k).kept.length = 6 ∧
    ∀ i, (touchL l k).getD i false = false → (keepsEnd σ l keep k).kept.getD i [] = σ.kept.getD i [] := by
  obtain ⟨h1, h2, h3, h4⟩ := moreDk_inv h hp l k
  have e1 : (moreDk σ l k).off = (0, { moreDk σ l k with down := true }) := by simp [Dk.off, h1.down]
  have e2 : ((moreDk σ l k).off.2.on keep) = (0, { moreDk σ l k with kept := keepAll (moreDk σ l k).kept (marked keep 0 (moreDk σ l k).pend), pend := [], down := false, armed := false, left := 0 }) := by
    rw [e1]; simp [Dk.on]
  refine ⟨by rw [e1], by rw [e2], by rw [keepsEnd, e2], by rw [keepsEnd, e2], by rw [keepsEnd, e2]; simp only []; rw [keepAll_length]; exact h1.len, fun i hi => ?_⟩
  rw [keepsEnd, e2]
  simp only []
  rw [keepAll_other, h3]
  intro p hp e
  have := h4 p (marked_sub _ _ _ _ hp)
  rw [e] at this
  rw [List.getD_eq_getElem?_getD, this] at hi
  cases hi

theorem read_kept {σ : Dk} (hd : σ.down = false) (hp : σ.pend = []) (hl : σ.kept.length = 6) {i : Nat} (hi : i < 6) : (σ.read (i : Int)).1 = σ.kept.getD i [] := by
  have hhas : σ.has (i : Int) = true := by simp [Dk.has, hl]; omega
  simp [Dk.read, hd, hhas, Dk.look, hp]

end Go.Proofs.Ytanjlfppppghpaa
