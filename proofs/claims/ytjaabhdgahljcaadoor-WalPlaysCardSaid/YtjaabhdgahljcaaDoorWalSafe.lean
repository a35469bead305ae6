/- Whether a disk has what a log's data say, byte by byte; it is kept by a sync, by a reset, and by any part of the writes that wait. Plain Lean, no Go. -/
import Derived.Test.YtjaabhdgahljcaaDoorWalPure
namespace Go.Proofs.YtjaabhdgahljcaaDoor

/-- What sector i has behind the writes ps. -/
def lookP (K : List (List UInt8)) (ps : List (Nat × List UInt8)) (i : Nat) : List UInt8 := ps.foldl (fun acc p => if p.1 = i then p.2 else acc) (K.getD i [])

theorem look_eq (σ : Dk) (i : Nat) : σ.look i = lookP σ.kept σ.pend i := rfl
theorem look_nil {σ : Dk} (h : σ.pend = []) (i : Nat) : σ.look i = σ.kept.getD i [] := by rw [look_eq, h]; rfl

theorem foldl_look (i : Nat) : ∀ (ps : List (Nat × List UInt8)) (v : List UInt8) (P : List UInt8 → Prop), P v → (∀ p ∈ ps, p.1 = i → P p.2) → P (ps.foldl (fun acc p => if p.1 = i then p.2 else acc) v)
  | [], v, P, h, _ => h
  | p :: ps, v, P, h, hp => by
    simp only [List.foldl_cons]
    refine foldl_look i ps _ P ?_ (fun q hq => hp q (by simp [hq]))
    split
    · rename_i e; exact hp p (by simp) e
    · exact h

theorem keepAll_look : ∀ (ps : List (Nat × List UInt8)) (K : List (List UInt8)) (i : Nat), (∀ p ∈ ps, p.1 < K.length) → (keepAll K ps).getD i [] = lookP K ps i
  | [], K, i, _ => rfl
  | p :: ps, K, i, h => by
    have h1 := h p (by simp)
    have h2 := keepAll_look ps (K.set p.1 p.2) i (fun q hq => by rw [List.length_set]; exact h q (by simp [hq]))
    simp only [keepAll, lookP, List.foldl_cons] at h2 ⊢
    rw [h2]
    congr 1
    by_cases e : p.1 = i
    · subst e
      simp [List.getD_eq_getElem?_getD, h1]
    · rw [if_neg e]
      simp [List.getD_eq_getElem?_getD, List.getElem?_set_ne e]

/-! ## What fits -/

def byteAt (img : Nat → List UInt8) (base p : Nat) : Option UInt8 := (img (base + 1 + p / 64))[p % 64]?

def Data (img : Nat → List UInt8) (base : Nat) (bytes : List UInt8) : Prop := ∀ p, p < bytes.length → byteAt img base p = bytes[p]?

structure Fits (img : Nat → List UInt8) (l : Lg) : Prop where
  head : (l.epoch = 0 ∧ l.bytes = [] ∧ img l.base = List.replicate 64 0) ∨ img l.base = headB l.epoch l.bytes.length
  data : Data img l.base l.bytes

theorem flat_get {img : Nat → List UInt8} {a : Nat} : ∀ {c : Nat}, (∀ i, i < c → (img (a + i)).length = 64) → ((List.range c).flatMap fun i => img (a + i)).length = 64 * c ∧ ∀ p, p < 64 * c → ((List.range c).flatMap fun i => img (a + i))[p]? = (img (a + p / 64))[p % 64]?
  | 0, _ => ⟨by simp, fun p hp => by omega⟩
  | c + 1, h => by
    obtain ⟨h1, h2⟩ := flat_get (c := c) (fun i hi => h i (by omega))
    have e : ((List.range (c + 1)).flatMap fun i => img (a + i)) = ((List.range c).flatMap fun i => img (a + i)) ++ img (a + c) := by simp [List.range_succ]
    rw [e]
    refine ⟨by rw [List.length_append, h1, h c (by omega)]; omega, fun p hp => ?_⟩
    by_cases hlt : p < 64 * c
    · rw [List.getElem?_append_left (by omega)]
      exact h2 p hlt
    · rw [List.getElem?_append_right (by omega), h1, show p / 64 = c by omega, show p - 64 * c = p % 64 by omega]

theorem Data.take {img : Nat → List UInt8} {base c : Nat} {bytes : List UInt8} (h : Data img base bytes) (hl : ∀ i, i < c → (img (base + 1 + i)).length = 64) (hb : bytes.length ≤ 64 * c) :
    ((List.range c).flatMap fun i => img (base + 1 + i)).take bytes.length = bytes := by
  obtain ⟨h1, h2⟩ := flat_get (a := base + 1) hl
  apply List.ext_getElem?
  intro p
  rw [List.getElem?_take]
  split
  · rename_i hp
    rw [h2 p (by omega)]
    exact h p hp
  · rename_i hp
    rw [List.getElem?_eq_none (by omega)]

theorem headB_ne (e n : Nat) : headB e n ≠ List.replicate 64 0 := by
  intro h
  have := congrArg List.head? h
  simp [headB, headTop, List.replicate_succ] at this

theorem headB_epoch (e n : Nat) (h : e < 2 ^ 64) : valLE (((headB e n).drop 4).take 8) = e := by
  have : ((headB e n).drop 4).take 8 = numLE e 8 := by
    unfold headB headTop
    simp only [List.append_assoc]
    rw [List.drop_left' (by rfl)]
    exact List.take_left' (length_numLE _ _)
  rw [this, valLE_numLE]
  exact Nat.mod_eq_of_lt (by omega)

theorem headB_length (e n : Nat) (h : n < 2 ^ 32) : valLE (((headB e n).drop 12).take 4) = n := by
  have : ((headB e n).drop 12).take 4 = numLE n 4 := by
    unfold headB headTop
    simp only [List.append_assoc]
    rw [show (12 : Nat) = 4 + 8 from rfl, ← List.drop_drop, List.drop_left' (by rfl), List.drop_left' (length_numLE _ _)]
    exact List.take_left' (length_numLE _ _)
  rw [this, valLE_numLE]
  exact Nat.mod_eq_of_lt (by omega)

theorem frames_nil {l : List (List UInt8)} (h : frames l = []) : l = [] := by
  cases l with
  | nil => rfl
  | cons r l =>
    have := congrArg List.length h
    simp [frames, length_frameB] at this

/-- A log, with nothing that waits. -/
def Lg.still (l : Lg) : Lg := { l with waiting := [] }

theorem openLg_fits {σ : Dk} {l : Lg} (ok : σ.Ok) (lo : l.Ok) (hl : l.lost = false) (hd : σ.down = false) (hb : l.base + l.n ≤ σ.kept.length) (hlen : ∀ i, i < σ.kept.length → (σ.look i).length = 64) (F : Fits σ.look l) : openLg σ l.base l.n = (0, some l.still) := by
  have h2 := lo.two
  have hm := lo.most
  have hf := lo.fits
  unfold openLg
  rw [hd]
  simp only [Bool.false_eq_true, if_false]
  rw [if_neg (by omega)]
  simp only [Int.toNat_natCast]
  rcases F.head with ⟨e0, eb, hz⟩ | hh
  · rw [if_pos hz]
    have hr : l.recs = [] := frames_nil (by rw [← lo.form, eb])
    cases l
    simp only at *
    subst e0 eb hr hl
    rfl
  · have hn := headB_ne l.epoch l.bytes.length
    rw [hh, if_neg hn, headB_epoch _ _ (by have := lo.epoch; omega), headB_length _ _ (by omega)]
    rw [if_neg (by
      intro h
      rcases h with h | h | h
      · have := lo.epoch; omega
      · omega
      · exact h rfl)]
    have ht : (sectorsB σ (l.base + 1) (l.n - 1)).take l.bytes.length = l.bytes := F.data.take (fun i hi => hlen _ (by omega)) (by omega)
    rw [ht]
    have hs : splitB l.bytes = some l.recs := by rw [lo.form]; exact splitB_frames lo.recs
    rw [hs]
    cases l
    simp only at *
    subst hl
    rfl

/-! ## One step of the disk -/

theorem does_run {σ : Dk} : (σ.does.1 = 0 ∧ σ.does.2.down = σ.down ∧ σ.does.2.armed = σ.armed ∧ σ.does.2.kept = σ.kept ∧ σ.does.2.pend = σ.pend) ∨ (σ.armed = true ∧ σ.does.1 = 10 ∧ σ.does.2.down = true ∧ σ.does.2.kept = σ.kept ∧ σ.does.2.pend = σ.pend) := by
  unfold Dk.does
  split
  · rename_i h
    simp only [Bool.and_eq_true] at h
    exact .inr ⟨h.1, rfl, rfl, rfl, rfl⟩
  · exact .inl ⟨rfl, rfl, rfl, rfl, rfl⟩

theorem write_run {σ : Dk} (hd : σ.down = false) {i : Nat} (hi : i < σ.kept.length) {s : List UInt8} (hs : s.length ≤ 64) :
    ((σ.write (i : Int) s).1 = 0 ∧ (σ.write (i : Int) s).2.down = false ∧ (σ.write (i : Int) s).2.armed = σ.armed ∧ (σ.write (i : Int) s).2.kept = σ.kept ∧ (σ.write (i : Int) s).2.pend = σ.pend ++ [(i, pad s)]) ∨
    (σ.armed = true ∧ (σ.write (i : Int) s).1 = 10 ∧ (σ.write (i : Int) s).2.down = true ∧ (σ.write (i : Int) s).2.kept = σ.kept ∧ (σ.write (i : Int) s).2.pend = σ.pend) := by
  have hh : σ.has (i : Int) = true := by simp [Dk.has]; omega
  unfold Dk.write
  rw [hd, hh, if_neg (by simp), if_pos rfl, if_neg (by omega)]
  rcases does_run (σ := σ) with ⟨h1, h2, h3, h4, h5⟩ | ⟨h0, h1, h2, h3, h4⟩
  · rw [if_pos h1]
    refine .inl ⟨rfl, ?_, ?_, ?_, ?_⟩
    · simp only [Dk.put]; rw [h2, hd]
    · simpa only [Dk.put] using h3
    · simpa only [Dk.put] using h4
    · simp only [Dk.put]; rw [h5, Int.toNat_natCast]
  · rw [if_neg (by omega)]
    exact .inr ⟨h0, rfl, h2, h3, h4⟩

theorem flush_run {σ : Dk} (hd : σ.down = false) :
    (σ.flush.1 = 0 ∧ σ.flush.2.down = false ∧ σ.flush.2.armed = σ.armed ∧ σ.flush.2.kept = keepAll σ.kept σ.pend ∧ σ.flush.2.pend = []) ∨
    (σ.armed = true ∧ σ.flush.1 = 10 ∧ σ.flush.2.down = true ∧ σ.flush.2.kept = σ.kept ∧ σ.flush.2.pend = σ.pend) := by
  unfold Dk.flush
  rw [hd, if_neg (by simp)]
  rcases does_run (σ := σ) with ⟨h1, h2, h3, h4, h5⟩ | ⟨h0, h1, h2, h3, h4⟩
  · rw [if_pos h1]
    refine .inl ⟨rfl, ?_, ?_, ?_, rfl⟩
    · simp only [Dk.settle]; rw [h2, hd]
    · simpa only [Dk.settle] using h3
    · simp only [Dk.settle]; rw [h4, h5]
  · rw [if_neg (by omega)]
    exact .inr ⟨h0, rfl, h2, h3, h4⟩

/-! ## The sectors of a sync -/

def chunk (base : Nat) (all : List UInt8) (j : Nat) : Nat × List UInt8 := (base + 1 + j, pad ((all.drop (64 * j)).take 64))

def chunks (base : Nat) (all : List UInt8) (k m : Nat) : List (Nat × List UInt8) := (List.range' k (m - k)).map (chunk base all)

theorem chunks_self (base : Nat) (all : List UInt8) (k : Nat) : chunks base all k k = [] := by simp [chunks]

theorem chunks_cons (base : Nat) (all : List UInt8) {k m : Nat} (h : k < m) : chunks base all k m = chunk base all k :: chunks base all (k + 1) m := by
  unfold chunks
  rw [show m - k = (m - (k + 1)) + 1 by omega, List.range'_succ]
  rfl

theorem mem_chunks {base : Nat} {all : List UInt8} {k m : Nat} {p : Nat × List UInt8} (h : p ∈ chunks base all k m) : ∃ j, k ≤ j ∧ j < m ∧ p = chunk base all j := by
  unfold chunks at h
  obtain ⟨j, hj, rfl⟩ := List.mem_map.1 h
  rw [List.mem_range'_1] at hj
  exact ⟨j, hj.1, by omega, rfl⟩

theorem lookP_chunks {base : Nat} {all : List UInt8} {m j : Nat} : ∀ (n k : Nat) (K : List (List UInt8)), m - k = n → k ≤ j → j < m → lookP K (chunks base all k m) (base + 1 + j) = pad ((all.drop (64 * j)).take 64) := by
  intro n k K _ hkj hjm
  have hmem : chunk base all j ∈ chunks base all k m := List.mem_map.2 ⟨j, by rw [List.mem_range'_1]; omega, rfl⟩
  have hall : ∀ p ∈ chunks base all k m, p.1 = base + 1 + j → p.2 = pad ((all.drop (64 * j)).take 64) := by
    intro p hp e
    obtain ⟨i, -, -, rfl⟩ := mem_chunks hp
    simp only [chunk] at e ⊢
    obtain rfl : i = j := by omega
    rfl
  generalize chunks base all k m = ps at hmem hall
  unfold lookP
  generalize K.getD (base + 1 + j) [] = v
  induction ps generalizing v with
  | nil => cases hmem
  | cons p ps ih =>
    simp only [List.foldl_cons]
    rcases List.mem_cons.1 hmem with rfl | h
    · rw [if_pos (show (chunk base all j).fst = base + 1 + j from rfl)]
      exact foldl_look _ ps _ (fun x => x = _) rfl (fun q hq e => hall q (by simp [hq]) e)
    · exact ih h (fun q hq => hall q (by simp [hq])) _

theorem layN_run {base : Nat} {all : List UInt8} : ∀ (f k : Nat) (σ : Dk), σ.down = false → (∀ j, 64 * j < all.length → base + 1 + j < σ.kept.length) → all.length / 64 + 1 ≤ f + k →
    ∃ m, k ≤ m ∧ (∀ j, k ≤ j → j < m → 64 * j < all.length) ∧ (layN base all f k σ).2.kept = σ.kept ∧ (layN base all f k σ).2.pend = σ.pend ++ chunks base all k m ∧
      (((layN base all f k σ).1 = 0 ∧ (layN base all f k σ).2.down = false ∧ (layN base all f k σ).2.armed = σ.armed ∧ all.length ≤ 64 * m) ∨ (σ.armed = true ∧ (layN base all f k σ).1 = 10 ∧ (layN base all f k σ).2.down = true))
  | 0, k, σ, hd, _, hf => ⟨k, Nat.le_refl _, fun j h1 h2 => by omega, rfl, by simp [layN, chunks_self], .inl ⟨rfl, hd, rfl, by omega⟩⟩
  | f + 1, k, σ, hd, hr, hf => by
    unfold layN
    by_cases hlt : 64 * k < all.length
    · rw [if_pos hlt]
      have hw := write_run (σ := σ) hd (i := base + 1 + k) (hr k hlt) (s := (all.drop (64 * k)).take 64) (by rw [List.length_take]; omega)
      generalize σ.write ((base + 1 + k : Nat) : Int) ((all.drop (64 * k)).take 64) = q at *
      rcases hw with ⟨h1, h2, h3, h4, h5⟩ | ⟨h0, h1, h2, h3, h4⟩
      · rw [if_pos h1]
        obtain ⟨m, m1, m2, m3, m4, m5⟩ := layN_run f (k + 1) q.2 h2 (fun j hj => by rw [h4]; exact hr j hj) (by omega)
        refine ⟨m, by omega, fun j a b => ?_, by rw [m3, h4], ?_, ?_⟩
        · by_cases e : j = k
          · rw [e]; exact hlt
          · exact m2 j (by omega) b
        · rw [m4, h5, chunks_cons base all (show k < m by omega), List.append_assoc]
          rfl
        · rw [h3] at m5
          exact m5
      · rw [if_neg (by omega)]
        exact ⟨k, Nat.le_refl _, fun j a b => by omega, h3, by rw [h4, chunks_self, List.append_nil], .inr ⟨h0, h1, h2⟩⟩
    · rw [if_neg hlt]
      exact ⟨k, Nat.le_refl _, fun j a b => by omega, rfl, by simp [chunks_self], .inl ⟨rfl, hd, rfl, by omega⟩⟩

end Go.Proofs.YtjaabhdgahljcaaDoor
