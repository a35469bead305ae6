/- A disk of sectors as data (Dk), what each method makes of it, and how it lies in memory (DiskAt). Plain Lean and memory; no walk. -/
import Derived.Test.YtjaabhdgahljcaaDoorBase
namespace Go.Proofs.YtjaabhdgahljcaaDoor
open Go.RowKit

/-! ## Lists whose pieces have one length -/

theorem flat_length {α : Type} {f : α → List Value} {sz : Nat} : ∀ {l : List α}, (∀ x ∈ l, (f x).length = sz) → (l.flatMap f).length = l.length * sz
  | [], _ => by simp
  | x :: l, h => by
    have h1 := h x (by simp)
    have h2 := flat_length (l := l) (fun y hy => h y (by simp [hy]))
    rw [List.flatMap_cons, List.length_append, h1, h2, List.length_cons, Nat.add_mul]; omega

theorem flat_piece {α : Type} {f : α → List Value} {sz : Nat} : ∀ {l : List α} {i : Nat}, (∀ x ∈ l, (f x).length = sz) → ∀ (hi : i < l.length), ((l.flatMap f).drop (i * sz)).take sz = f l[i]
  | [], i, _, hi => by simp at hi
  | x :: l, 0, h, _ => by
    have h1 := h x (by simp)
    simp only [Nat.zero_mul, List.drop_zero, List.flatMap_cons, List.getElem_cons_zero]
    rw [← h1]; exact List.take_left
  | x :: l, i + 1, h, hi => by
    have h1 := h x (by simp)
    rw [List.flatMap_cons, show (i + 1) * sz = (f x).length + i * sz by rw [h1, Nat.add_mul]; omega, List.drop_append, List.drop_eq_nil_of_le (by omega), List.nil_append, Nat.add_sub_cancel_left]
    rw [flat_piece (l := l) (fun y hy => h y (by simp [hy])) (by simpa using hi)]
    simp

theorem flat_splice {α : Type} {f : α → List Value} {sz : Nat} : ∀ {l : List α} {i : Nat} {y : α}, (∀ x ∈ l, (f x).length = sz) → (f y).length = sz → i < l.length → splice (l.flatMap f) (i * sz) (f y) = (l.set i y).flatMap f
  | [], i, _, _, _, hi => by simp at hi
  | x :: l, 0, y, h, hy, _ => by
    have h1 := h x (by simp)
    simp only [splice, Nat.zero_mul, List.take_zero, List.nil_append, Nat.zero_add, List.flatMap_cons, List.set_cons_zero]
    rw [hy, ← h1, List.drop_left]
  | x :: l, i + 1, y, h, hy, hi => by
    have h1 := h x (by simp)
    have ih := flat_splice (l := l) (i := i) (y := y) (fun z hz => h z (by simp [hz])) hy (by simpa using hi)
    rw [List.flatMap_cons, List.set_cons_succ, List.flatMap_cons, ← ih]
    unfold splice
    rw [show (i + 1) * sz = (f x).length + i * sz by rw [h1, Nat.add_mul]; omega, List.take_append, List.take_of_length_le (by omega), Nat.add_sub_cancel_left,
      List.append_assoc, show (f x).length + i * sz + (f y).length = (f x).length + (i * sz + (f y).length) by omega, List.drop_append, List.drop_eq_nil_of_le (by omega), List.nil_append, Nat.add_sub_cancel_left]

theorem splice_mid {α : Type} (A B C D : List α) (h : B.length = D.length) : splice (A ++ (B ++ C)) A.length D = A ++ (D ++ C) := by
  unfold splice
  rw [List.take_left, ← h, List.drop_append, List.drop_eq_nil_of_le (by omega), Nat.add_sub_cancel_left, List.nil_append, List.drop_left]

theorem flat_replicate (n m : Nat) (b : UInt8) : (List.replicate n (List.replicate m b)).flatMap (fun l => l.map byteV) = List.replicate (n * m) (byteV b) := by
  induction n with
  | zero => simp
  | succ n ih => rw [List.replicate_succ, List.flatMap_cons, ih, List.map_replicate, List.replicate_append_replicate, Nat.add_mul, Nat.one_mul, Nat.add_comm]

theorem splice_full {α : Type} (L D : List α) (h : L.length = D.length) : splice L 0 D = D := by
  simp [splice, h]

/-! ## A disk as data -/

structure Dk where
  kept : List (List UInt8)
  pend : List (Nat × List UInt8)
  down : Bool
  armed : Bool
  left : Int
  done : Int

/-- A text with noughts behind, up to a sector. -/
def pad (s : List UInt8) : List UInt8 := s ++ List.replicate (64 - s.length) 0

theorem length_pad {s : List UInt8} (h : s.length ≤ 64) : (pad s).length = 64 := by simp [pad]; omega

structure Dk.Ok (σ : Dk) : Prop where
  pos : 0 < σ.kept.length
  most : σ.kept.length ≤ 65536
  full : ∀ b ∈ σ.kept, b.length = 64
  pend : ∀ p ∈ σ.pend, p.1 < σ.kept.length ∧ p.2.length = 64
  left0 : 0 ≤ σ.left
  left1 : σ.left ≤ 9223372036854775807

def Dk.new (n : Nat) : Dk := { kept := List.replicate n (List.replicate 64 0), pend := [], down := false, armed := false, left := 0, done := 0 }

theorem Dk.new_ok {n : Nat} (h0 : 0 < n) (h1 : n ≤ 65536) : (Dk.new n).Ok :=
  ⟨by simpa [Dk.new], by simpa [Dk.new], by simp [Dk.new], by simp [Dk.new], by simp [Dk.new], by simp [Dk.new]⟩

def Dk.has (σ : Dk) (i : Int) : Bool := decide (0 ≤ i) && decide (i < (σ.kept.length : Int))

/-- What a sector has: its last pending write, or what was kept. -/
def Dk.look (σ : Dk) (i : Nat) : List UInt8 := σ.pend.foldl (fun acc p => if p.1 = i then p.2 else acc) (σ.kept.getD i [])

/-- An error of up: 10 without power. -/
def Dk.up (σ : Dk) : Int := if σ.down then 10 else 0

/-- Read: the text, the error. -/
def Dk.read (σ : Dk) (i : Int) : List UInt8 × Int := if σ.down then ([], 10) else if σ.has i then (σ.look i.toNat, 0) else ([], 2)

/-- Counting a write or a flush. -/
def Dk.does (σ : Dk) : Int × Dk :=
  if σ.armed && σ.left == 0 then (10, { σ with down := true })
  else (0, { σ with left := if σ.armed then σ.left - 1 else σ.left, done := wrap64 (σ.done + 1) })

def Dk.put (σ : Dk) (i : Nat) (s : List UInt8) : Dk := { σ with pend := σ.pend ++ [(i, pad s)] }

def Dk.write (σ : Dk) (i : Int) (s : List UInt8) : Int × Dk :=
  if σ.down then (10, σ) else if σ.has i then (if s.length > 64 then (3, σ) else if σ.does.1 = 0 then (0, σ.does.2.put i.toNat s) else (10, σ.does.2)) else (2, σ)

def keepAll (kept : List (List UInt8)) (pend : List (Nat × List UInt8)) : List (List UInt8) := pend.foldl (fun k p => k.set p.1 p.2) kept

def Dk.settle (σ : Dk) : Dk := { σ with kept := keepAll σ.kept σ.pend, pend := [] }

def Dk.flush (σ : Dk) : Int × Dk := if σ.down then (10, σ) else if σ.does.1 = 0 then (0, σ.does.2.settle) else (10, σ.does.2)

def Dk.arm (σ : Dk) (n : Int) : Int × Dk := if σ.down then (10, σ) else (0, { σ with armed := decide (0 ≤ n), left := max n 0 })

def Dk.off (σ : Dk) : Int × Dk := if σ.down then (10, σ) else (0, { σ with down := true })

/-- Those of the pending writes that 'keep' marks, from place i on. -/
def marked (keep : List Bool) : Nat → List (Nat × List UInt8) → List (Nat × List UInt8)
  | _, [] => []
  | i, p :: ps => if keep.getD i false then p :: marked keep (i + 1) ps else marked keep (i + 1) ps

def Dk.on (σ : Dk) (keep : List Bool) : Int × Dk :=
  if σ.down then (0, { σ with kept := keepAll σ.kept (marked keep 0 σ.pend), pend := [], down := false, armed := false, left := 0 }) else (9, σ)

theorem keepAll_length (pend : List (Nat × List UInt8)) : ∀ kept, (keepAll kept pend).length = kept.length := by
  induction pend with
  | nil => intro kept; rfl
  | cons p ps ih => intro kept; simp only [keepAll, List.foldl_cons]; have := ih (kept.set p.1 p.2); simp only [keepAll] at this; rw [this]; simp

theorem keepAll_full (pend : List (Nat × List UInt8)) : ∀ kept, (∀ b ∈ kept, b.length = 64) → (∀ p ∈ pend, p.2.length = 64) → ∀ b ∈ keepAll kept pend, b.length = 64 := by
  induction pend with
  | nil => intro kept h _; exact h
  | cons p ps ih =>
    intro kept h hp
    simp only [keepAll, List.foldl_cons]
    exact ih (kept.set p.1 p.2) (fun b hb => by
      rcases List.mem_or_eq_of_mem_set hb with h1 | h1
      · exact h b h1
      · rw [h1]; exact hp p (by simp)) (fun q hq => hp q (by simp [hq]))

theorem keepAll_snoc (kept : List (List UInt8)) (ps : List (Nat × List UInt8)) (p : Nat × List UInt8) : keepAll kept (ps ++ [p]) = (keepAll kept ps).set p.1 p.2 := by simp [keepAll]

theorem marked_sub (keep : List Bool) : ∀ (ps : List (Nat × List UInt8)) (i : Nat) (p : Nat × List UInt8), p ∈ marked keep i ps → p ∈ ps
  | [], _, _, h => by simp [marked] at h
  | q :: ps, i, p, h => by
    unfold marked at h
    split at h
    · rcases List.mem_cons.1 h with h1 | h1
      · simp [h1]
      · exact List.mem_cons_of_mem _ (marked_sub keep ps (i + 1) p h1)
    · exact List.mem_cons_of_mem _ (marked_sub keep ps (i + 1) p h)

theorem marked_snoc (keep : List Bool) : ∀ (ps : List (Nat × List UInt8)) (i : Nat) (p : Nat × List UInt8), marked keep i (ps ++ [p]) = marked keep i ps ++ (if keep.getD (i + ps.length) false then [p] else [])
  | [], i, p => by simp [marked]
  | q :: ps, i, p => by
    have ih := marked_snoc keep ps (i + 1) p
    rw [show i + 1 + ps.length = i + (q :: ps).length by simp; omega] at ih
    simp only [List.cons_append, marked, ih]
    split <;> simp

theorem Dk.does_ok {σ : Dk} (h : σ.Ok) : σ.does.2.Ok := by
  unfold Dk.does
  split
  · exact ⟨h.pos, h.most, h.full, h.pend, h.left0, h.left1⟩
  · rename_i hc
    have h0 := h.left0
    have h1 := h.left1
    refine ⟨h.pos, h.most, h.full, h.pend, ?_, ?_⟩ <;> simp only [] <;> split <;> simp_all <;> omega

theorem Dk.does_kept (σ : Dk) : σ.does.2.kept = σ.kept ∧ σ.does.2.pend = σ.pend := by unfold Dk.does; split <;> exact ⟨rfl, rfl⟩

theorem Dk.has_lt {σ : Dk} {i : Int} (h : σ.has i = true) : 0 ≤ i ∧ i < (σ.kept.length : Int) := by simpa [Dk.has] using h

theorem Dk.put_ok {σ : Dk} (h : σ.Ok) {i : Nat} (hi : i < σ.kept.length) {s : List UInt8} (hs : s.length ≤ 64) : (σ.put i s).Ok :=
  ⟨h.pos, h.most, h.full, by
    intro p hp
    simp only [Dk.put, List.mem_append, List.mem_singleton] at hp
    rcases hp with hp | rfl
    · exact h.pend p hp
    · exact ⟨hi, length_pad hs⟩, h.left0, h.left1⟩

theorem Dk.write_ok {σ : Dk} (h : σ.Ok) (i : Int) (s : List UInt8) : (σ.write i s).2.Ok := by
  unfold Dk.write
  split
  · exact h
  split
  · rename_i hi
    obtain ⟨h0, h1⟩ := Dk.has_lt hi
    split
    · exact h
    split
    · exact Dk.put_ok (Dk.does_ok h) (by rw [(Dk.does_kept σ).1]; omega) (by omega)
    · exact Dk.does_ok h
  · exact h

theorem Dk.settle_ok {σ : Dk} (h : σ.Ok) : σ.settle.Ok :=
  ⟨by simpa [Dk.settle, keepAll_length] using h.pos, by simpa [Dk.settle, keepAll_length] using h.most, keepAll_full _ _ h.full (fun p hp => (h.pend p hp).2), by simp [Dk.settle], h.left0, h.left1⟩

theorem Dk.flush_ok {σ : Dk} (h : σ.Ok) : σ.flush.2.Ok := by
  unfold Dk.flush
  split
  · exact h
  split
  · exact Dk.settle_ok (Dk.does_ok h)
  · exact Dk.does_ok h

theorem Dk.arm_ok {σ : Dk} (h : σ.Ok) {n : Int} (hn : n ≤ 9223372036854775807) : (σ.arm n).2.Ok := by
  unfold Dk.arm
  split
  · exact h
  · exact ⟨h.pos, h.most, h.full, h.pend, by simp only []; omega, by simp only []; omega⟩

theorem Dk.off_ok {σ : Dk} (h : σ.Ok) : σ.off.2.Ok := by
  unfold Dk.off
  split
  · exact h
  · exact ⟨h.pos, h.most, h.full, h.pend, h.left0, h.left1⟩

theorem Dk.on_ok {σ : Dk} (h : σ.Ok) (keep : List Bool) : (σ.on keep).2.Ok := by
  unfold Dk.on
  split
  · exact ⟨by simpa [keepAll_length] using h.pos, by simpa [keepAll_length] using h.most,
      keepAll_full _ _ h.full (fun p hp => (h.pend p (marked_sub keep _ _ _ hp)).2), by simp, by simp, by simp⟩
  · exact h

theorem Dk.look_length {σ : Dk} (h : σ.Ok) {i : Nat} (hi : i < σ.kept.length) : (σ.look i).length = 64 := by
  unfold Dk.look
  have key : ∀ (ps : List (Nat × List UInt8)) (acc : List UInt8), acc.length = 64 → (∀ p ∈ ps, p.2.length = 64) → (ps.foldl (fun acc p => if p.1 = i then p.2 else acc) acc).length = 64 := by
    intro ps
    induction ps with
    | nil => intro acc ha _; exact ha
    | cons p ps ih =>
      intro acc ha hp
      simp only [List.foldl_cons]
      apply ih
      · split
        · exact hp p (by simp)
        · exact ha
      · exact fun q hq => hp q (by simp [hq])
  refine key _ _ ?_ (fun p hp => (h.pend p hp).2)
  rw [List.getD_eq_getElem?_getD, List.getElem?_eq_getElem hi]
  exact h.full _ (List.getElem_mem hi)

/-! ## A disk in memory -/

def blockCells (b : List UInt8) : List Value := b.map byteV
def writeCells (p : Nat × List UInt8) : List Value := .int .i64 (p.1 : Int) :: p.2.map byteV
def keptCells (kept : List (List UInt8)) : List Value := kept.flatMap blockCells
def pendCells (pend : List (Nat × List UInt8)) : List Value := pend.flatMap writeCells

/-- The struct's own cells. -/
def diskCells (kb : Nat) (pv : Value) (σ : Dk) : List Value :=
  [.slice (some ⟨kb, 0, none⟩) σ.kept.length σ.kept.length, pv, .bool σ.down, .bool σ.armed, .int .i64 σ.left, .int .i64 σ.done]

/-- Disk d, the blocks fp its own, is σ. -/
def DiskAt (w : World) (d : Nat) (fp : List Nat) (σ : Dk) : Prop :=
  ∃ kb pv, fp = d :: kb :: fpv pv ∧ d ≠ kb ∧ d ∉ fpv pv ∧ kb ∉ fpv pv ∧ At w d (diskCells kb pv σ) 87 ∧ At w kb (keptCells σ.kept) 81 ∧
    Sl w 83 65 pv σ.pend.length (pendCells σ.pend) ∧ σ.Ok

theorem DiskAt.ok {w : World} {d : Nat} {fp : List Nat} {σ : Dk} (h : DiskAt w d fp σ) : σ.Ok := by
  obtain ⟨_, _, _, _, _, _, _, _, _, h⟩ := h; exact h

theorem DiskAt.lt {w : World} {d : Nat} {fp : List Nat} {σ : Dk} (h : DiskAt w d fp σ) : ∀ k ∈ fp, k < w.heap.size := by
  obtain ⟨kb, pv, rfl, _, _, _, hd, hk, hs, _⟩ := h
  intro k hm
  simp only [List.mem_cons] at hm
  rcases hm with rfl | rfl | hm
  · exact hd.lt
  · exact hk.lt
  · exact hs.lt k hm

theorem DiskAt.keep {w w' : World} {d : Nat} {fp : List Nat} {σ : Dk} (h : DiskAt w d fp σ) (hk : ∀ k ∈ fp, w'.heap[k]? = w.heap[k]?) : DiskAt w' d fp σ := by
  obtain ⟨kb, pv, rfl, h1, h2, h3, hd, hkb, hs, ok⟩ := h
  exact ⟨kb, pv, rfl, h1, h2, h3, hd.keep (hk _ (by simp)), hkb.keep (hk _ (by simp)), hs.keep (fun k hm => hk k (by simp [hm])), ok⟩

theorem DiskAt.pres {w w' : World} {fq : List Nat} {d : Nat} {fp : List Nat} {σ : Dk} (h : DiskAt w d fp σ) (hp : Pres fq w w') (hn : ∀ k ∈ fp, k ∉ fq) : DiskAt w' d fp σ :=
  h.keep fun k hk => hp.block k (h.lt k hk) (hn k hk)

/-- A call that turned disk d (blocks fp) into σ'. -/
def DiskStep (w : World) (d : Nat) (fp : List Nat) (σ' : Dk) (w' : World) : Prop :=
  ∃ fp', DiskAt w' d fp' σ' ∧ Pres fp w w' ∧ ∀ k ∈ fp', k ∈ fp ∨ w.heap.size ≤ k

theorem DiskStep.refl {w : World} {d : Nat} {fp : List Nat} {σ : Dk} (h : DiskAt w d fp σ) : DiskStep w d fp σ w := ⟨fp, h, Pres.refl _ _, fun _ hk => .inl hk⟩

theorem length_blockCells (b : List UInt8) : (blockCells b).length = b.length := by simp [blockCells]
theorem length_writeCells (p : Nat × List UInt8) : (writeCells p).length = p.2.length + 1 := by simp [writeCells]
theorem Dk.Ok.blocks {σ : Dk} (h : σ.Ok) : ∀ x ∈ σ.kept, (blockCells x).length = 64 := fun x hx => by rw [length_blockCells]; exact h.full x hx
theorem Dk.Ok.writes {σ : Dk} (h : σ.Ok) : ∀ x ∈ σ.pend, (writeCells x).length = 65 := fun x hx => by rw [length_writeCells, (h.pend x hx).2]

theorem writes_one (p : Nat × List UInt8) : ∀ v ∈ writeCells p, v.oneCell' = true := by
  intro v hv
  simp only [writeCells, List.mem_cons] at hv
  rcases hv with rfl | hv
  · rfl
  · exact bytes_one v hv

end Go.Proofs.YtjaabhdgahljcaaDoor
