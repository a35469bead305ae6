/- Parts of the proof: A disk of sectors as data (Dk), what each method makes of it, and how it lies in memory (DiskAt). Plain Lean and memory; no walk. -/
import Derived.Test.YtnffnpndnaofhaaGreatDoorQaa
import Derived.Test.YtnffnpndnaofhaaGreatDoorChecked
import Derived.Outline
import Derived.ProofKit
import Derived.LaidMore
import Derived.OpenShut
import Derived.Stop.Joined
import Derived.Lay

/- A disk of sectors as data (Dk), what each method makes of it, and how it lies in memory (DiskAt). Plain Lean and memory; no walk. -/
namespace Go.Proofs.YtnffnpndnaofhaaGreatDoor
open Go.RowKit

/-! ## Lists whose pieces have one length -/

theorem flat_length {α : Type} {f : α → List Value} {sz : Nat} : ∀ {l : List α}, (∀ x ∈ l, (f x).length = sz) → (l.flatMap f).length = l.length * sz
  | [], _ => by simp
  | x :: l, h => by
    have h1 := h x (by simp)
    have h2 := flat_length (l := l) (fun y hy => h y (by simp [hy]))
    rw [List.flatMap_cons, List.length_append, h1, h2, List.length_cons, Nat.add_mul]; omega

theorem flat_piece {α : Type} {f : α → List Value} {sz : Nat} : ∀ {l : List α} {i : Nat}, (∀ x ∈ l, (f x).length = sz) → ∀ (hi : i < l.length), ((l.flatMap f).drop (i * sz)).take sz = f l[i]
  | [], i, _, hi => by simp at hi
  | x :: l, 0, h, _ => by
    have h1 := h x (by simp)
    simp only [Nat.zero_mul, List.drop_zero, List.flatMap_cons, List.getElem_cons_zero]
    rw [← h1]; exact List.take_left
  | x :: l, i + 1, h, hi => by
    have h1 := h x (by simp)
    rw [List.flatMap_cons, show (i + 1) * sz = (f x).length + i * sz by rw [h1, Nat.add_mul]; omega, List.drop_append, List.drop_eq_nil_of_le (by omega), List.nil_append, Nat.add_sub_cancel_left]
    rw [flat_piece (l := l) (fun y hy => h y (by simp [hy])) (by simpa using hi)]
    simp

theorem flat_splice {α : Type} {f : α → List Value} {sz : Nat} : ∀ {l : List α} {i : Nat} {y : α}, (∀ x ∈ l, (f x).length = sz) → (f y).length = sz → i < l.length → splice (l.flatMap f) (i * sz) (f y) = (l.set i y).flatMap f
  | [], i, _, _, _, hi => by simp at hi
  | x :: l, 0, y, h, hy, _ => by
    have h1 := h x (by simp)
    simp only [splice, Nat.zero_mul, List.take_zero, List.nil_append, Nat.zero_add, List.flatMap_cons, List.set_cons_zero]
    rw [hy, ← h1, List.drop_left]
  | x :: l, i + 1, y, h, hy, hi => by
    have h1 := h x (by simp)
    have ih := flat_splice (l := l) (i := i) (y := y) (fun z hz => h z (by simp [hz])) hy (by simpa using hi)
    rw [List.flatMap_cons, List.set_cons_succ, List.flatMap_cons, ← ih]
    unfold splice
    rw [show (i + 1) * sz = (f x).length + i * sz by rw [h1, Nat.add_mul]; omega, List.take_append, List.take_of_length_le (by omega), Nat.add_sub_cancel_left,
      List.append_assoc, show (f x).length + i * sz + (f y).length = (f x).length + (i * sz + (f y).length) by omega, List.drop_append, List.drop_eq_nil_of_le (by omega), List.nil_append, Nat.add_sub_cancel_left]

theorem splice_mid {α : Type} (A B C D : List α) (h : B.length = D.length) : splice (A ++ (B ++ C)) A.length D = A ++ (D ++ C) := by
  unfold splice
  rw [List.take_left, ← h, List.drop_append, List.drop_eq_nil_of_le (by omega), Nat.add_sub_cancel_left, List.nil_append, List.drop_left]

theorem flat_replicate (n m : Nat) (b : UInt8) : (List.replicate n (List.replicate m b)).flatMap (fun l => l.map byteV) = List.replicate (n * m) (byteV b) := by
  induction n with
  | zero => simp
  | succ n ih => rw [List.replicate_succ, List.flatMap_cons, ih, List.map_replicate, List.replicate_append_replicate, Nat.add_mul, Nat.one_mul, Nat.add_comm]

theorem splice_full {α : Type} (L D : List α) (h : L.length = D.length) : splice L 0 D = D := by
  simp [splice, h]

/-! ## A disk as data -/

structure Dk where
  kept : List (List UInt8)
  pend : List (Nat × List UInt8)
  down : Bool
  armed : Bool
  left : Int
  done : Int

/-- A text with noughts behind, up to a sector. -/
def pad (s : List UInt8) : List UInt8 := s ++ List.replicate (64 - s.length) 0

theorem length_pad {s : List UInt8} (h : s.length ≤ 64) : (pad s).length = 64 := by simp [pad]; omega

structure Dk.Ok (σ : Dk) : Prop where
  pos : 0 < σ.kept.length
  most : σ.kept.length ≤ 65536
  full : ∀ b ∈ σ.kept, b.length = 64
  pend : ∀ p ∈ σ.pend, p.1 < σ.kept.length ∧ p.2.length = 64
  left0 : 0 ≤ σ.left
  left1 : σ.left ≤ 9223372036854775807

def Dk.new (n : Nat) : Dk := { kept := List.replicate n (List.replicate 64 0), pend := [], down := false, armed := false, left := 0, done := 0 }

theorem Dk.new_ok {n : Nat} (h0 : 0 < n) (h1 : n ≤ 65536) : (Dk.new n).Ok :=
  ⟨by simpa [Dk.new], by simpa [Dk.new], by simp [Dk.new], by simp [Dk.new], by simp [Dk.new], by simp [Dk.new]⟩

def Dk.has (σ : Dk) (i : Int) : Bool := decide (0 ≤ i) && decide (i < (σ.kept.length : Int))

/-- What a sector has: its last pending write, or what was kept. -/
def Dk.look (σ : Dk) (i : Nat) : List UInt8 := σ.pend.foldl (fun acc p => if p.1 = i then p.2 else acc) (σ.kept.getD i [])

/-- An error of up: 10 without power. -/
def Dk.up (σ : Dk) : Int := if σ.down then 10 else 0

/-- Read: the text, the error. -/
def Dk.read (σ : Dk) (i : Int) : List UInt8 × Int := if σ.down then ([], 10) else if σ.has i then (σ.look i.toNat, 0) else ([], 2)

/-- Counting a write or a flush. -/
def Dk.does (σ : Dk) : Int × Dk :=
  if σ.armed && σ.left == 0 then (10, { σ with down := true })
  else (0, { σ with left := if σ.armed then σ.left - 1 else σ.left, done := wrap64 (σ.done + 1) })

def Dk.put (σ : Dk) (i : Nat) (s : List UInt8) : Dk := { σ with pend := σ.pend ++ [(i, pad s)] }

def Dk.write (σ : Dk) (i : Int) (s : List UInt8) : Int × Dk :=
  if σ.down then (10, σ) else if σ.has i then (if s.length > 64 then (3, σ) else if σ.does.1 = 0 then (0, σ.does.2.put i.toNat s) else (10, σ.does.2)) else (2, σ)

def keepAll (kept : List (List UInt8)) (pend : List (Nat × List UInt8)) : List (List UInt8) := pend.foldl (fun k p => k.set p.1 p.2) kept

def Dk.settle (σ : Dk) : Dk := { σ with kept := keepAll σ.kept σ.pend, pend := [] }

def Dk.flush (σ : Dk) : Int × Dk := if σ.down then (10, σ) else if σ.does.1 = 0 then (0, σ.does.2.settle) else (10, σ.does.2)

def Dk.arm (σ : Dk) (n : Int) : Int × Dk := if σ.down then (10, σ) else (0, { σ with armed := decide (0 ≤ n), left := max n 0 })

def Dk.off (σ : Dk) : Int × Dk := if σ.down then (10, σ) else (0, { σ with down := true })

/-- Those of the pending writes that 'keep' marks, from place i on. -/
def marked (keep : List Bool) : Nat → List (Nat × List UInt8) → List (Nat × List UInt8)
  | _, [] => []
  | i, p :: ps => if keep.getD i false then p :: marked keep (i + 1) ps else marked keep (i + 1) ps

def Dk.on (σ : Dk) (keep : List Bool) : Int × Dk :=
  if σ.down then (0, { σ with kept := keepAll σ.kept (marked keep 0 σ.pend), pend := [], down := false, armed := false, left := 0 }) else (9, σ)

theorem keepAll_length (pend : List (Nat × List UInt8)) : ∀ kept, (keepAll kept pend).length = kept.length := by
  induction pend with
  | nil => intro kept; rfl
  | cons p ps ih => intro kept; simp only [keepAll, List.foldl_cons]; have := ih (kept.set p.1 p.2); simp only [keepAll] at this; rw [this]; simp

theorem keepAll_full (pend : List (Nat × List UInt8)) : ∀ kept, (∀ b ∈ kept, b.length = 64) → (∀ p ∈ pend, p.2.length = 64) → ∀ b ∈ keepAll kept pend, b.length = 64 := by
  induction pend with
  | nil => intro kept h _; exact h
  | cons p ps ih =>
    intro kept h hp
    simp only [keepAll, List.foldl_cons]
    exact ih (kept.set p.1 p.2) (fun b hb => by
      rcases List.mem_or_eq_of_mem_set hb with h1 | h1
      · exact h b h1
      · rw [h1]; exact hp p (by simp)) (fun q hq => hp q (by simp [hq]))

theorem keepAll_snoc (kept : List (List UInt8)) (ps : List (Nat × List UInt8)) (p : Nat × List UInt8) : keepAll kept (ps ++ [p]) = (keepAll kept ps).set p.1 p.2 := by simp [keepAll]

theorem marked_sub (keep : List Bool) : ∀ (ps : List (Nat × List UInt8)) (i : Nat) (p : Nat × List UInt8), p ∈ marked keep i ps → p ∈ ps
  | [], _, _, h => by simp [marked] at h
  | q :: ps, i, p, h => by
    unfold marked at h
    split at h
    · rcases List.mem_cons.1 h with h1 | h1
      · simp [h1]
      · exact List.mem_cons_of_mem _ (marked_sub keep ps (i + 1) p h1)
    · exact List.mem_cons_of_mem _ (marked_sub keep ps (i + 1) p h)

theorem marked_snoc (keep : List Bool) : ∀ (ps : List (Nat × List UInt8)) (i : Nat) (p : Nat × List UInt8), marked keep i (ps ++ [p]) = marked keep i ps ++ (if keep.getD (i + ps.length) false then [p] else [])
  | [], i, p => by simp [marked]
  | q :: ps, i, p => by
    have ih := marked_snoc keep ps (i + 1) p
    rw [show i + 1 + ps.length = i + (q :: ps).length by simp; omega] at ih
    simp only [List.cons_append, marked, ih]
    split <;> simp

theorem Dk.does_ok {σ : Dk} (h : σ.Ok) : σ.does.2.Ok := by
  unfold Dk.does
  split
  · exact ⟨h.pos, h.most, h.full, h.pend, h.left0, h.left1⟩
  · rename_i hc
    have h0 := h.left0
    have h1 := h.left1
    refine ⟨h.pos, h.most, h.full, h.pend, ?_, ?_⟩ <;> simp only [] <;> split <;> simp_all <;> omega

theorem Dk.does_kept (σ : Dk) : σ.does.2.kept = σ.kept ∧ σ.does.2.pend = σ.pend := by unfold Dk.does; split <;> exact ⟨rfl, rfl⟩

theorem Dk.has_lt {σ : Dk} {i : Int} (h : σ.has i = true) : 0 ≤ i ∧ i < (σ.kept.length : Int) := by simpa [Dk.has] using h

theorem Dk.put_ok {σ : Dk} (h : σ.Ok) {i : Nat} (hi : i < σ.kept.length) {s : List UInt8} (hs : s.length ≤ 64) : (σ.put i s).Ok :=
  ⟨h.pos, h.most, h.full, by
    intro p hp
    simp only [Dk.put, List.mem_append, List.mem_singleton] at hp
    rcases hp with hp | rfl
    · exact h.pend p hp
    · exact ⟨hi, length_pad hs⟩, h.left0, h.left1⟩

theorem Dk.write_ok {σ : Dk} (h : σ.Ok) (i : Int) (s : List UInt8) : (σ.write i s).2.Ok := by
  unfold Dk.write
  split
  · exact h
  split
  · rename_i hi
    obtain ⟨h0, h1⟩ := Dk.has_lt hi
    split
    · exact h
    split
    · exact Dk.put_ok (Dk.does_ok h) (by rw [(Dk.does_kept σ).1]; omega) (by omega)
    · exact Dk.does_ok h
  · exact h

theorem Dk.settle_ok {σ : Dk} (h : σ.Ok) : σ.settle.Ok :=
  ⟨by simpa [Dk.settle, keepAll_length] using h.pos, by simpa [Dk.settle, keepAll_length] using h.most, keepAll_full _ _ h.full (fun p hp => (h.pend p hp).2), by simp [Dk.settle], h.left0, h.left1⟩

theorem Dk.flush_ok {σ : Dk} (h : σ.Ok) : σ.flush.2.Ok := by
  unfold Dk.flush
  split
  · exact h
  split
  · exact Dk.settle_ok (Dk.does_ok h)
  · exact Dk.does_ok h

theorem Dk.arm_ok {σ : Dk} (h : σ.Ok) {n : Int} (hn : n ≤ 9223372036854775807) : (σ.arm n).2.Ok := by
  unfold Dk.arm
  split
  · exact h
  · exact ⟨h.pos, h.most, h.full, h.pend, by simp only []; omega, by simp only []; omega⟩

theorem Dk.off_ok {σ : Dk} (h : σ.Ok) : σ.off.2.Ok := by
  unfold Dk.off
  split
  · exact h
  · exact ⟨h.pos, h.most, h.full, h.pend, h.left0, h.left1⟩

theorem Dk.on_ok {σ : Dk} (h : σ.Ok) (keep : List Bool) : (σ.on keep).2.Ok := by
  unfold Dk.on
  split
  · exact ⟨by simpa [keepAll_length] using h.pos, by simpa [keepAll_length] using h.most,
      keepAll_full _ _ h.full (fun p hp => (h.pend p (marked_sub keep _ _ _ hp)).2), by simp, by simp, by simp⟩
  · exact h

theorem Dk.look_length {σ : Dk} (h : σ.Ok) {i : Nat} (hi : i < σ.kept.length) : (σ.look i).length = 64 := by
  unfold Dk.look
  have key : ∀ (ps : List (Nat × List UInt8)) (acc : List UInt8), acc.length = 64 → (∀ p ∈ ps, p.2.length = 64) → (ps.foldl (fun acc p => if p.1 = i then p.2 else acc) acc).length = 64 := by
    intro ps
    induction ps with
    | nil => intro acc ha _; exact ha
    | cons p ps ih =>
      intro acc ha hp
      simp only [List.foldl_cons]
      apply ih
      · split
        · exact hp p (by simp)
        · exact ha
      · exact fun q hq => hp q (by simp [hq])
  refine key _ _ ?_ (fun p hp => (h.pend p hp).2)
  rw [List.getD_eq_getElem?_getD, List.getElem?_eq_getElem hi]
  exact h.full _ (List.getElem_mem hi)

/-! ## A disk in memory -/

def blockCells (b : List UInt8) : List Value := b.map byteV
def writeCells (p : Nat × List UInt8) : List Value := .int .i64 (p.1 : Int) :: p.2.map byteV
def keptCells (kept : List (List UInt8)) : List Value := kept.flatMap blockCells
def pendCells (pend : List (Nat × List UInt8)) : List Value := pend.flatMap writeCells

/-- The struct's own cells. -/
def diskCells (kb : Nat) (pv : Value) (σ : Dk) : List Value :=
  [.slice (some ⟨kb, 0, none⟩) σ.kept.length σ.kept.length, pv, .bool σ.down, .bool σ.armed, .int .i64 σ.left, .int .i64 σ.done]

/-- Disk d, the blocks fp its own, is σ. -/
def DiskAt (w : World) (d : Nat) (fp : List Nat) (σ : Dk) : Prop :=
  ∃ kb pv, fp = d :: kb :: fpv pv ∧ d ≠ kb ∧ d ∉ fpv pv ∧ kb ∉ fpv pv ∧ At w d (diskCells kb pv σ) 88 ∧ At w kb (keptCells σ.kept) 111 ∧
    Sl w 113 65 pv σ.pend.length (pendCells σ.pend) ∧ σ.Ok

theorem DiskAt.ok {w : World} {d : Nat} {fp : List Nat} {σ : Dk} (h : DiskAt w d fp σ) : σ.Ok := by
  obtain ⟨_, _, _, _, _, _, _, _, _, h⟩ := h; exact h

theorem DiskAt.lt {w : World} {d : Nat} {fp : List Nat} {σ : Dk} (h : DiskAt w d fp σ) : ∀ k ∈ fp, k < w.heap.size := by
  obtain ⟨kb, pv, rfl, _, _, _, hd, hk, hs, _⟩ := h
  intro k hm
  simp only [List.mem_cons] at hm
  rcases hm with rfl | rfl | hm
  · exact hd.lt
  · exact hk.lt
  · exact hs.lt k hm

theorem DiskAt.keep {w w' : World} {d : Nat} {fp : List Nat} {σ : Dk} (h : DiskAt w d fp σ) (hk : ∀ k ∈ fp, w'.heap[k]? = w.heap[k]?) : DiskAt w' d fp σ := by
  obtain ⟨kb, pv, rfl, h1, h2, h3, hd, hkb, hs, ok⟩ := h
  exact ⟨kb, pv, rfl, h1, h2, h3, hd.keep (hk _ (by simp)), hkb.keep (hk _ (by simp)), hs.keep (fun k hm => hk k (by simp [hm])), ok⟩

theorem DiskAt.pres {w w' : World} {fq : List Nat} {d : Nat} {fp : List Nat} {σ : Dk} (h : DiskAt w d fp σ) (hp : Pres fq w w') (hn : ∀ k ∈ fp, k ∉ fq) : DiskAt w' d fp σ :=
  h.keep fun k hk => hp.block k (h.lt k hk) (hn k hk)

/-- A call that turned disk d (blocks fp) into σ'. -/
def DiskStep (w : World) (d : Nat) (fp : List Nat) (σ' : Dk) (w' : World) : Prop :=
  ∃ fp', DiskAt w' d fp' σ' ∧ Pres fp w w' ∧ ∀ k ∈ fp', k ∈ fp ∨ w.heap.size ≤ k

theorem DiskStep.refl {w : World} {d : Nat} {fp : List Nat} {σ : Dk} (h : DiskAt w d fp σ) : DiskStep w d fp σ w := ⟨fp, h, Pres.refl _ _, fun _ hk => .inl hk⟩

theorem length_blockCells (b : List UInt8) : (blockCells b).length = b.length := by simp [blockCells]
theorem length_writeCells (p : Nat × List UInt8) : (writeCells p).length = p.2.length + 1 := by simp [writeCells]
theorem Dk.Ok.blocks {σ : Dk} (h : σ.Ok) : ∀ x ∈ σ.kept, (blockCells x).length = 64 := fun x hx => by rw [length_blockCells]; exact h.full x hx
theorem Dk.Ok.writes {σ : Dk} (h : σ.Ok) : ∀ x ∈ σ.pend, (writeCells x).length = 65 := fun x hx => by rw [length_writeCells, (h.pend x hx).2]

theorem writes_one (p : Nat × List UInt8) : ∀ v ∈ writeCells p, v.oneCell' = true := by
  intro v hv
  simp only [writeCells, List.mem_cons] at hv
  rcases hv with rfl | hv
  · rfl
  · exact bytes_one v hv

end Go.Proofs.YtnffnpndnaofhaaGreatDoor

/- A log of records as data (Lg), and what each of its methods makes of it and of the disk below. Plain Lean, no Go. -/
namespace Go.Proofs.YtnffnpndnaofhaaGreatDoor

/-! ## Numbers and sums -/

/-- A number in k bytes, the lowest first. -/
def numLE (n k : Nat) : List UInt8 := (List.range k).map fun i => UInt8.ofNat (n / 2 ^ (8 * i))

def valLE : List UInt8 → Nat
  | [] => 0
  | b :: l => b.toNat + 256 * valLE l

theorem length_numLE (n k : Nat) : (numLE n k).length = k := by simp [numLE]

theorem valLE_lt : ∀ (l : List UInt8), valLE l < 256 ^ l.length
  | [] => by simp [valLE]
  | b :: l => by
    have h := valLE_lt l
    have hb : b.toNat < 256 := b.toNat_lt
    simp only [valLE, List.length_cons, Nat.pow_succ]
    omega

theorem numLE_zero (n : Nat) : numLE n 0 = [] := rfl

theorem numLE_succ (n k : Nat) : numLE n (k + 1) = UInt8.ofNat n :: numLE (n / 256) k := by
  simp only [numLE, List.range_succ_eq_map, List.map_cons, List.map_map, Nat.mul_zero, Nat.pow_zero, Nat.div_one]
  congr 1
  apply List.map_congr_left
  intro i _
  simp only [Function.comp]
  rw [Nat.div_div_eq_div_mul]
  congr 2
  rw [Nat.mul_succ, Nat.pow_add, Nat.mul_comm]

theorem valLE_numLE (k : Nat) : ∀ n, valLE (numLE n k) = n % 256 ^ k := by
  induction k with
  | zero => intro n; simp [numLE_zero, valLE, Nat.mod_one]
  | succ k ih =>
    intro n
    rw [numLE_succ, valLE, ih, Nat.pow_succ, Nat.mul_comm (256 ^ k) 256, Nat.mod_mul]
    simp

theorem numLE_valLE : ∀ (l : List UInt8), numLE (valLE l) l.length = l
  | [] => rfl
  | b :: l => by
    have hb : b.toNat < 256 := b.toNat_lt
    rw [List.length_cons, numLE_succ, valLE]
    have h1 : (b.toNat + 256 * valLE l) / 256 = valLE l := by omega
    have h2 : UInt8.ofNat (b.toNat + 256 * valLE l) = b := by
      apply UInt8.toNat_inj.1
      rw [UInt8.toNat_ofNat']
      omega
    rw [h1, h2, numLE_valLE l]

/-- What four bits do to the register. -/
def half : List Nat := [0x00000000, 0x105ec76f, 0x20bd8ede, 0x30e349b1, 0x417b1dbc, 0x5125dad3, 0x61c69362, 0x7198540d, 0x82f63b78, 0x92a8fc17, 0xa24bb5a6, 0xb21572c9, 0xc38d26c4, 0xd3d3e1ab, 0xe330a81a, 0xf36e6f75]

def crcHalf (r : Nat) : Nat := r / 16 ^^^ half.getD (r % 16) 0
def crcStep (r : Nat) (x : UInt8) : Nat := crcHalf (crcHalf (r ^^^ x.toNat))

/-- Castagnoli's sum. -/
def crc (l : List UInt8) : Nat := l.foldl crcStep 0xffffffff ^^^ 0xffffffff

theorem half_lt (i : Nat) : half.getD i 0 < 2 ^ 32 := by
  rcases Nat.lt_or_ge i 16 with h | h
  · have : ∀ j : Fin 16, half.getD j.val 0 < 2 ^ 32 := by decide
    exact this ⟨i, h⟩
  · rw [List.getD_eq_getElem?_getD, List.getElem?_eq_none (by simpa [half] using h)]
    decide

theorem crcHalf_lt {r : Nat} (h : r < 2 ^ 32) : crcHalf r < 2 ^ 32 := Nat.xor_lt_two_pow (by omega) (half_lt _)

theorem crcStep_lt {r : Nat} (h : r < 2 ^ 32) (x : UInt8) : crcStep r x < 2 ^ 32 :=
  crcHalf_lt (crcHalf_lt (Nat.xor_lt_two_pow h (by have := x.toNat_lt; omega)))

theorem crcFold_lt : ∀ (l : List UInt8) {r : Nat}, r < 2 ^ 32 → l.foldl crcStep r < 2 ^ 32
  | [], _, h => h
  | x :: l, _, h => crcFold_lt l (crcStep_lt h x)

theorem crc_lt (l : List UInt8) : crc l < 2 ^ 32 := Nat.xor_lt_two_pow (crcFold_lt l (by decide)) (by decide)

def sum4 (s : List UInt8) : List UInt8 := numLE (crc s) 4

theorem length_sum4 (s : List UInt8) : (sum4 s).length = 4 := length_numLE _ _

/-- A head's first 16 bytes. -/
def headTop (epoch length : Nat) : List UInt8 := [65, 81, 87, 76] ++ numLE epoch 8 ++ numLE length 4

/-- A head's sector. -/
def headB (epoch length : Nat) : List UInt8 := headTop epoch length ++ sum4 (headTop epoch length) ++ List.replicate 44 0

theorem length_headB (e l : Nat) : (headB e l).length = 64 := by simp [headB, headTop, length_numLE, length_sum4]

/-- A record's frame. -/
def frameB (r : List UInt8) : List UInt8 := numLE r.length 4 ++ sum4 (numLE r.length 4 ++ r) ++ r

theorem length_frameB (r : List UInt8) : (frameB r).length = 8 + r.length := by simp [frameB, length_numLE, length_sum4]; omega

/-- The first frame of bytes: its record, and how many bytes that were. -/
def unframeB (b : List UInt8) : Option (List UInt8 × Nat) :=
  if b.length < 8 then none
  else if valLE (b.take 4) > 65536 ∨ valLE (b.take 4) > b.length - 8 then none
  else if sum4 (b.take 4 ++ (b.drop 8).take (valLE (b.take 4))) = (b.drop 4).take 4 then some ((b.drop 8).take (valLE (b.take 4)), 8 + valLE (b.take 4)) else none

theorem unframeB_some {b r : List UInt8} {k : Nat} (h : unframeB b = some (r, k)) : k = 8 + r.length ∧ k ≤ b.length ∧ b = frameB r ++ b.drop k ∧ r.length ≤ 65536 := by
  unfold unframeB at h
  split at h
  · cases h
  split at h
  · cases h
  split at h
  · rename_i h1 h2 h3
    simp only [Option.some.injEq, Prod.mk.injEq] at h
    obtain ⟨rfl, rfl⟩ := h
    generalize hn : valLE (b.take 4) = n at *
    have hl : ((b.drop 8).take n).length = n := by simp; omega
    have h4 : (b.take 4).length = 4 := by simp; omega
    have e4 : numLE n 4 = b.take 4 := by rw [← hn]; have := numLE_valLE (b.take 4); rwa [h4] at this
    refine ⟨by rw [hl], by omega, ?_, by omega⟩
    unfold frameB
    rw [hl, e4, h3]
    have a1 : b.take 4 ++ ((b.drop 4).take 4 ++ ((b.drop 8).take n ++ b.drop (8 + n))) = b := by
      rw [← List.drop_drop, List.take_append_drop, show (8 : Nat) = 4 + 4 from rfl, ← List.drop_drop, List.take_append_drop, List.take_append_drop]
    simp only [List.append_assoc]
    exact a1.symm
  · cases h

theorem unframeB_frame (r rest : List UInt8) (h : r.length ≤ 65536) : unframeB (frameB r ++ rest) = some (r, 8 + r.length) := by
  have h1 : (frameB r ++ rest).take 4 = numLE r.length 4 := by
    simp only [frameB, List.append_assoc]
    exact List.take_left' (length_numLE _ _)
  have h2 : (frameB r ++ rest).drop 4 = sum4 (numLE r.length 4 ++ r) ++ (r ++ rest) := by
    simp only [frameB, List.append_assoc]
    exact List.drop_left' (length_numLE _ _)
  have h3 : (frameB r ++ rest).drop 8 = r ++ rest := by
    rw [show (8 : Nat) = 4 + 4 from rfl, ← List.drop_drop, h2]
    exact List.drop_left' (length_sum4 _)
  have h4 : valLE (numLE r.length 4) = r.length := by rw [valLE_numLE]; exact Nat.mod_eq_of_lt (by omega)
  have h5 : (frameB r ++ rest).length = 8 + r.length + rest.length := by rw [List.length_append, length_frameB]
  unfold unframeB
  rw [h1, h4, h2, h3, h5, if_neg (by omega), if_neg (by omega), List.take_left' (length_sum4 _), List.take_left' rfl, if_pos rfl]

/-- The records of which these bytes are the frames. -/
def splitN : Nat → List UInt8 → Option (List (List UInt8))
  | 0, b => if b = [] then some [] else none
  | f + 1, b => if b = [] then some [] else match unframeB b with
    | none => none
    | some (r, k) => (splitN f (b.drop k)).map (r :: ·)

def splitB (b : List UInt8) : Option (List (List UInt8)) := splitN b.length b

def frames (l : List (List UInt8)) : List UInt8 := l.flatMap frameB

theorem splitN_frames : ∀ (l : List (List UInt8)) (f : Nat), (∀ r ∈ l, r.length ≤ 65536) → l.length ≤ f → splitN f (frames l) = some l
  | [], 0, _, _ => rfl
  | [], f + 1, _, _ => rfl
  | r :: l, 0, _, h => by simp at h
  | r :: l, f + 1, hr, h => by
    have hne : frames (r :: l) ≠ [] := by
      intro e
      have : (frames (r :: l)).length = 0 := by rw [e]; rfl
      simp [frames, length_frameB] at this
    unfold splitN
    rw [if_neg hne, show frames (r :: l) = frameB r ++ frames l from rfl, unframeB_frame r _ (hr r (by simp))]
    simp only
    rw [List.drop_left' (length_frameB r), splitN_frames l f (fun x hx => hr x (by simp [hx])) (by simpa using h)]
    rfl

theorem frames_length_ge : ∀ (l : List (List UInt8)), l.length ≤ (frames l).length
  | [] => by simp [frames]
  | r :: l => by
    have := frames_length_ge l
    simp only [frames, List.flatMap_cons, List.length_append, length_frameB, List.length_cons] at this ⊢
    omega

theorem splitB_frames {l : List (List UInt8)} (h : ∀ r ∈ l, r.length ≤ 65536) : splitB (frames l) = some l := splitN_frames l _ h (frames_length_ge l)

theorem frames_append (a b : List (List UInt8)) : frames (a ++ b) = frames a ++ frames b := by simp [frames]

/-! ## A log -/

structure Lg where
  base : Nat
  n : Nat
  epoch : Nat
  bytes : List UInt8
  recs : List (List UInt8)
  waiting : List (List UInt8)
  lost : Bool

/-- The bytes of cnt sectors behind a place. -/
def sectorsB (σ : Dk) (at' cnt : Nat) : List UInt8 := (List.range cnt).flatMap fun i => σ.look (at' + i)

theorem sectorsB_succ (σ : Dk) (a c : Nat) : sectorsB σ a (c + 1) = sectorsB σ a c ++ σ.look (a + c) := by simp [sectorsB, List.range_succ]

/-- Open: the error, the log. -/
def openLg (σ : Dk) (base n : Int) : Int × Option Lg :=
  if σ.down then (10, none)
  else if n < 2 ∨ base < 0 ∨ base > σ.kept.length ∨ n > σ.kept.length - base then (2, none)
  else
    let s := σ.look base.toNat
    if s = List.replicate 64 0 then (0, some ⟨base.toNat, n.toNat, 0, [], [], [], false⟩)
    else
      let epoch := valLE ((s.drop 4).take 8)
      let length := valLE ((s.drop 12).take 4)
      if epoch > 2 ^ 62 ∨ length > 64 * (n.toNat - 1) ∨ s ≠ headB epoch length then (5, none)
      else
        let bytes := (sectorsB σ (base.toNat + 1) (n.toNat - 1)).take length
        match splitB bytes with
        | none => (6, none)
        | some recs => (0, some ⟨base.toNat, n.toNat, epoch, bytes, recs, [], false⟩)

def Lg.up (l : Lg) : Int := if l.lost then 10 else 0

def Lg.room (l : Lg) : Int := 64 * ((l.n : Int) - 1) - (l.bytes.length : Int) - ((l.waiting.map fun r => 8 + r.length).sum : Nat)

def Lg.add (l : Lg) (r : List UInt8) : Int × Lg :=
  if l.lost then (10, l) else if r.length > 65536 then (3, l) else if (8 + r.length : Int) > l.room then (7, l) else (0, { l with waiting := l.waiting ++ [r] })

def Lg.drop (l : Lg) : Lg := { l with waiting := [] }

/-- Sector by sector, from the k-th one of 'all' on. -/
def layN (base : Nat) (all : List UInt8) : Nat → Nat → Dk → Int × Dk
  | 0, _, σ => (0, σ)
  | f + 1, k, σ => if 64 * k < all.length then (if (σ.write ((base + 1 + k : Nat) : Int) ((all.drop (64 * k)).take 64)).1 = 0 then layN base all f (k + 1) (σ.write ((base + 1 + k : Nat) : Int) ((all.drop (64 * k)).take 64)).2 else σ.write ((base + 1 + k : Nat) : Int) ((all.drop (64 * k)).take 64)) else (0, σ)

def layB (base : Nat) (all : List UInt8) (k : Nat) (σ : Dk) : Int × Dk :=
  let r := layN base all (all.length / 64 + 1) k σ
  if r.1 = 0 then r.2.flush else r

def writeHead (base epoch length : Nat) (σ : Dk) : Int × Dk :=
  let r := σ.write (base : Int) (headB epoch length)
  if r.1 = 0 then r.2.flush else r

def Lg.sync (l : Lg) (σ : Dk) : Int × Lg × Dk :=
  if l.lost then (10, l, σ) else if l.waiting = [] then (0, l, σ) else
    let all := l.bytes ++ frames l.waiting
    let r := layB l.base all (l.bytes.length / 64) σ
    if r.1 = 0 then
      let q := writeHead l.base l.epoch all.length r.2
      if q.1 = 0 then (0, { l with bytes := all, recs := l.recs ++ l.waiting, waiting := [] }, q.2) else (q.1, { l with lost := true }, q.2)
    else (r.1, { l with lost := true }, r.2)

def Lg.reset (l : Lg) (σ : Dk) : Int × Lg × Dk :=
  if l.lost then (10, l, σ) else if l.waiting ≠ [] then (9, l, σ) else if l.epoch = 2 ^ 62 then (7, l, σ) else
    let q := writeHead l.base (l.epoch + 1) 0 σ
    if q.1 = 0 then (0, { l with epoch := l.epoch + 1, bytes := [], recs := [] }, q.2) else (q.1, { l with lost := true }, q.2)

/-- What a log's data always keep. -/
structure Lg.Ok (l : Lg) : Prop where
  two : 2 ≤ l.n
  most : l.n ≤ 65536
  base : l.base ≤ 65536
  epoch : l.epoch ≤ 2 ^ 62
  fits : l.bytes.length + (frames l.waiting).length ≤ 64 * (l.n - 1)
  form : l.bytes = frames l.recs
  recs : ∀ r ∈ l.recs, r.length ≤ 65536
  waits : ∀ r ∈ l.waiting, r.length ≤ 65536

theorem frames_length (l : List (List UInt8)) : (frames l).length = (l.map fun r => 8 + r.length).sum := by
  induction l with
  | nil => rfl
  | cons r l ih =>
    simp only [frames, List.flatMap_cons, List.length_append, length_frameB, List.map_cons, List.sum_cons] at ih ⊢
    rw [ih]

theorem frames_eight (l : List (List UInt8)) : 8 * l.length ≤ (frames l).length := by
  induction l with
  | nil => simp
  | cons r l ih =>
    simp only [frames, List.flatMap_cons, List.length_append, length_frameB, List.length_cons] at ih ⊢
    omega

theorem Lg.room_eq {l : Lg} (ok : l.Ok) : l.room = ((64 * (l.n - 1) - l.bytes.length - (frames l.waiting).length : Nat) : Int) := by
  have h1 := ok.fits
  have h2 := ok.two
  unfold Lg.room
  rw [← frames_length]
  omega

theorem Lg.add_ok {l : Lg} (ok : l.Ok) (r : List UInt8) : (l.add r).2.Ok := by
  have hr := Lg.room_eq ok
  have hf := ok.fits
  unfold Lg.add
  split
  · exact ok
  split
  · exact ok
  split
  · exact ok
  · rename_i h1 h2 h3
    rw [hr] at h3
    refine ⟨ok.two, ok.most, ok.base, ok.epoch, ?_, ok.form, ok.recs, ?_⟩
    · show l.bytes.length + (frames (l.waiting ++ [r])).length ≤ _
      rw [frames_append, List.length_append]
      have : (frames [r]).length = 8 + r.length := by simp [frames, length_frameB]
      simp only []
      omega
    · intro x hx
      simp only [List.mem_append, List.mem_singleton] at hx
      rcases hx with hx | rfl
      · exact ok.waits x hx
      · omega

theorem Lg.drop_ok {l : Lg} (ok : l.Ok) : l.drop.Ok :=
  ⟨ok.two, ok.most, ok.base, ok.epoch, by have := ok.fits; simp only [Lg.drop, frames, List.flatMap_nil, List.length_nil]; omega, ok.form, ok.recs, by simp [Lg.drop]⟩

theorem Lg.lost_ok {l : Lg} (ok : l.Ok) : Lg.Ok { l with lost := true } := ⟨ok.two, ok.most, ok.base, ok.epoch, ok.fits, ok.form, ok.recs, ok.waits⟩

theorem Lg.sync_ok {l : Lg} (ok : l.Ok) (σ : Dk) : (l.sync σ).2.1.Ok := by
  unfold Lg.sync
  split
  · exact ok
  split
  · exact ok
  · simp only []
    split
    · split
      · refine ⟨ok.two, ok.most, ok.base, ok.epoch, ?_, ?_, ?_, by simp⟩
        · simp only [List.length_append, frames, List.flatMap_nil, List.length_nil]
          exact ok.fits
        · simp only [frames_append, ok.form]
        · intro r hr
          rcases List.mem_append.1 hr with h | h
          · exact ok.recs r h
          · exact ok.waits r h
      · exact Lg.lost_ok ok
    · exact Lg.lost_ok ok

theorem Lg.reset_ok {l : Lg} (ok : l.Ok) (σ : Dk) : (l.reset σ).2.1.Ok := by
  unfold Lg.reset
  split
  · exact ok
  split
  · exact ok
  split
  · exact ok
  · rename_i h1 h2 h3
    simp only []
    split
    · have hw : l.waiting = [] := by simpa using h2
      refine ⟨ok.two, ok.most, ok.base, by have := ok.epoch; simp only []; omega, by simp [hw, frames], by simp [frames], by simp, ok.waits⟩
    · exact Lg.lost_ok ok

end Go.Proofs.YtnffnpndnaofhaaGreatDoor

/- Castagnoli's sum: Update and Sum come to crc; the table is as the program's text lays it. -/
namespace Go.Proofs.YtnffnpndnaofhaaGreatDoor
open Go.RowKit
set_option maxRecDepth 20000

/-- The table as it is laid. -/
def HalfAt (w : World) : Prop := ∀ i, i < 16 → w.cell? ⟨0, i, none⟩ = some (.int .u32 ((half.getD i 0 : Nat) : Int))

theorem HalfAt.pres {w w' : World} (h : HalfAt w) (hp : Pres [] w w') : HalfAt w' := fun i hi => hp.cell (h i hi) (by simp)

theorem ofInt_nat32 {a : Nat} (h : a < 2 ^ 32) : (BitVec.ofInt 32 (a : Int)).toNat = a := by
  rw [BitVec.toNat_ofInt]
  omega

theorem bits_xor32 {a b : Nat} (ha : a < 2 ^ 32) (hb : b < 2 ^ 32) : bits .xor .u32 (a : Int) (b : Int) = ((a ^^^ b : Nat) : Int) := by
  have h := Nat.xor_lt_two_pow ha hb
  have e : (BitVec.ofInt 32 (a : Int) ^^^ BitVec.ofInt 32 (b : Int)).toNat = a ^^^ b := by rw [BitVec.toNat_xor, ofInt_nat32 ha, ofInt_nat32 hb]
  change IntKind.u32.wrap (((BitVec.ofInt 32 (a : Int)) ^^^ (BitVec.ofInt 32 (b : Int))).toNat : Int) = _
  rw [e, IntKind.wrap_u32]
  omega

theorem bits_and15 {a : Nat} (ha : a < 2 ^ 32) : bits .and .u32 (a : Int) 15 = ((a % 16 : Nat) : Int) := by
  have h15 : BitVec.ofInt 32 15 = BitVec.ofNat 32 15 := by decide
  have h2 : a &&& 15 = a % 16 := Nat.and_two_pow_sub_one_eq_mod a 4
  have e : (BitVec.ofInt 32 (a : Int) &&& BitVec.ofInt 32 15).toNat = a % 16 := by rw [BitVec.toNat_and, ofInt_nat32 ha, h15]; exact h2
  change IntKind.u32.wrap (((BitVec.ofInt 32 (a : Int)) &&& (BitVec.ofInt 32 15)).toNat : Int) = _
  rw [e, IntKind.wrap_u32]
  omega

theorem crc_zero : bits .xor .u32 IntKind.u32.max 0 = ((0xffffffff : Nat) : Int) := by decide +kernel
theorem crc_last {r : Nat} (h : r < 2 ^ 32) : bits .xor .u32 IntKind.u32.max (r : Int) = ((r ^^^ 0xffffffff : Nat) : Int) := by
  have := bits_xor32 (a := 0xffffffff) (b := r) (by decide) h
  rw [Nat.xor_comm]
  exact this

set_option maxRecDepth 10000 in
theorem crc_update (w : World) (hh : HalfAt w) (v : Value) (bs : List UInt8) (hv : Reads w v (bs.map byteV)) :
    Calls Tryz.prog 120 #[.int .u32 0, v] w fun e w' => e = .returned (.int .u32 ((crc bs : Nat) : Int)) ∧ w = w' := by
  obtain ⟨ao, cap, rfl, h1, h2, hr⟩ := hv
  rw [List.length_map] at h1 ⊢
  have hmax : (bs.length : Int) ≤ 9223372036854775807 := by simp only [maxLen] at h2; omega
  have hz := crc_zero
  have HH := hid (And.intro hh hr)
  clear hh hr
  go_enter Tryz.func120, Tryz.ntmps120
  go_wp2
  clear hz
  go_loop [5, 12] (fun rv iv => ∃ k : Nat, k ≤ bs.length ∧ iv = .int .i64 (k : Int) ∧ rv = .int .u32 (((bs.take k).foldl crcStep 0xffffffff : Nat) : Int)) (fun _ iv => bs.length - (intOf iv).toNat)
  case atStart => exact ⟨0, Nat.zero_le _, rfl, rfl⟩
  case round =>
    obtain ⟨k, hk, rfl, rfl⟩ := hrel
    have hlt32 := crcFold_lt (bs.take k) (r := 0xffffffff) (by decide)
    obtain ⟨r, hrd⟩ : ∃ r, (bs.take k).foldl crcStep 0xffffffff = r := ⟨_, rfl⟩
    rw [hrd] at hlt32 ⊢
    have HR := hid hrd
    clear hrd
    by_cases hlt : k < bs.length
    · have hlt' : (k : Int) < (bs.length : Int) := by omega
      obtain ⟨b, off, rfl, hc⟩ := HH.out.2 k (byteV bs[k]) (by rw [List.getElem?_map, List.getElem?_eq_getElem hlt]; rfl)
      unfold byteV at hc
      have hstep : (bs.take (k + 1)).foldl crcStep 0xffffffff = crcStep r bs[k] := by
        rw [List.take_succ_eq_append_getElem hlt, List.foldl_append, HR.out]; rfl
      have HS := hid hstep
      have hx : bs[k].toNat < 256 := bs[k].toNat_lt
      obtain ⟨x, hxd⟩ : ∃ x, Hid (bs[k].toNat = x) := ⟨_, hid rfl⟩
      rw [hxd.out] at hc hx
      have hx32 : (x : Int) % 4294967296 = (x : Int) := by omega
      obtain ⟨r1, h1d⟩ : ∃ y, Hid (r ^^^ x = y) := ⟨_, hid rfl⟩
      have e1 : bits .xor .u32 (r : Int) (x : Int) = (r1 : Int) := by rw [← h1d.out]; exact bits_xor32 hlt32 (by omega)
      have l1 : r1 < 2 ^ 32 := by rw [← h1d.out]; exact Nat.xor_lt_two_pow hlt32 (by omega)
      obtain ⟨d1, hd1⟩ : ∃ y, Hid (r1 % 16 = y) := ⟨_, hid rfl⟩
      have e2 : bits .and .u32 (r1 : Int) 15 = (d1 : Int) := by rw [← hd1.out]; exact bits_and15 l1
      have ld1 : d1 < 16 := by rw [← hd1.out]; omega
      have c1 := HH.out.1 d1 ld1
      obtain ⟨r2, h2d⟩ : ∃ y, Hid (crcHalf r1 = y) := ⟨_, hid rfl⟩
      obtain ⟨t1, ht1⟩ : ∃ y, Hid (half.getD d1 0 = y) := ⟨_, hid rfl⟩
      rw [ht1.out] at c1
      obtain ⟨q1, hq1⟩ : ∃ y, Hid (r1 / 16 = y) := ⟨_, hid rfl⟩
      have eq1 : (r1 : Int) / 16 = (q1 : Int) := by rw [← hq1.out]; omega
      have e3 : bits .xor .u32 (q1 : Int) (t1 : Int) = (r2 : Int) := by
        rw [← h2d.out, crcHalf, hd1.out, ht1.out, hq1.out]
        exact bits_xor32 (by rw [← hq1.out]; omega) (by rw [← ht1.out]; exact half_lt _)
      have l2 : r2 < 2 ^ 32 := by rw [← h2d.out]; exact crcHalf_lt l1
      obtain ⟨d2, hd2⟩ : ∃ y, Hid (r2 % 16 = y) := ⟨_, hid rfl⟩
      have e4 : bits .and .u32 (r2 : Int) 15 = (d2 : Int) := by rw [← hd2.out]; exact bits_and15 l2
      have ld2 : d2 < 16 := by rw [← hd2.out]; omega
      have c2 := HH.out.1 d2 ld2
      obtain ⟨r3, h3d⟩ : ∃ y, Hid (crcHalf r2 = y) := ⟨_, hid rfl⟩
      obtain ⟨t2, ht2⟩ : ∃ y, Hid (half.getD d2 0 = y) := ⟨_, hid rfl⟩
      rw [ht2.out] at c2
      obtain ⟨q2, hq2⟩ : ∃ y, Hid (r2 / 16 = y) := ⟨_, hid rfl⟩
      have eq2 : (r2 : Int) / 16 = (q2 : Int) := by rw [← hq2.out]; omega
      have e5 : bits .xor .u32 (q2 : Int) (t2 : Int) = (r3 : Int) := by
        rw [← h3d.out, crcHalf, hd2.out, ht2.out, hq2.out]
        exact bits_xor32 (by rw [← hq2.out]; omega) (by rw [← ht2.out]; exact half_lt _)
      have ld1' : (d1 : Int) < 16 := by omega
      have ld2' : (d2 : Int) < 16 := by omega
      have HF : crcStep r bs[k] = r3 := by rw [crcStep, hxd.out, h1d.out, h2d.out, h3d.out]
      have HF := hid HF
      clear hstep l1 l2 hx hlt32
      go_wp2
      go_round
      case rel => exact ⟨k + 1, by omega, by go_num, congrArg (fun n : Nat => Value.int .u32 (n : Int)) (HS.out.trans HF.out).symm⟩
      case measure => first | (simp [intOf]; done) | (simp [intOf]; omega)
    · have hend : ¬ (k : Int) < (bs.length : Int) := by omega
      have ek : k = bs.length := by omega
      subst ek
      have hl := crc_last hlt32
      rw [List.take_length] at HR
      have HF : r ^^^ 0xffffffff = crc bs := congrArg (fun n : Nat => n ^^^ 0xffffffff) HR.out.symm
      rw [HF] at hl
      have HF := hid HF
      clear hlt32
      go_wp2
      go_ret
      exact ⟨rfl, rfl⟩

theorem crc_sum (w : World) (hh : HalfAt w) (v : Value) (bs : List UInt8) (hv : Reads w v (bs.map byteV)) :
    Calls Tryz.prog 86 #[v] w fun e w' => e = .returned (.int .u32 ((crc bs : Nat) : Int)) ∧ w = w' := by
  have hu := fun W (hW : W = w) => hW ▸ crc_update w hh v bs hv
  obtain ⟨ao, cap, rfl, -, -, -⟩ := hv
  simp only [List.length_map] at hu ⊢
  clear hh
  go_enter Tryz.func86, Tryz.ntmps86
  go_wp2_with (go_at_call 120; refine (hu _ rfl).mono ?_; rintro e w' ⟨rfl, rfl⟩)
  go_ret
  exact ⟨rfl, rfl⟩

end Go.Proofs.YtnffnpndnaofhaaGreatDoor

/- What the rows' condition on three tables gives the walks: the table of half bytes, cell by cell; and that the door's own heap meets it. -/
namespace Go.Proofs.YtnffnpndnaofhaaGreatDoor
open Go.ChangeShapes Go.WideShapes Go.ChangeAt Go.RowKit

/-- What the rows list. -/
def laidHalf : List (String × DataW Unit) := [("aquifer/castagnoli.half", Rows.laid_aquifer_castagnoli_half), ("unicode/utf8.acceptRanges", Rows.laid_unicode_utf8_acceptRanges), ("unicode/utf8.first", Rows.laid_unicode_utf8_first)]

theorem gHalf : Tryz.prog.globalNamed "aquifer/castagnoli.half" = some 0 := by kernel_rfl
theorem tHalf : (Tryz.prog.globals[0]?).map (·.type) = some 183 := by kernel_rfl

theorem laid_met (os : Os) : laidMetH Tryz.prog laidHalf ((World.laidAll Tryz.prog os laidHalf).forCall (fun _ _ => 0) ⟨#[], #[], []⟩).memory := by
  rw [MakeChecks.laidMetH_plain _ _ _ (by kernel_rfl)]
  exact laidMet_laidAll _ (by kernel_rfl) (by kernel_rfl)

theorem half_data (i : Nat) (h : i < 16) : ∃ l, Rows.laid_aquifer_castagnoli_half (H := Unit) = .agg l ∧ l.length = 16 ∧ l[i]? = some (.lit (.int .u32 ((half.getD i 0 : Nat) : Int))) := by
  refine ⟨_, rfl, rfl, ?_⟩
  match i, h with
  | 0, _ | 1, _ | 2, _ | 3, _ | 4, _ | 5, _ | 6, _ | 7, _ | 8, _ | 9, _ | 10, _ | 11, _ | 12, _ | 13, _ | 14, _ | 15, _ => rfl
  | n + 16, h => exact absurd h (by omega)

theorem of_laid {W : World} (h : laidMetH Tryz.prog laidHalf W) : HalfAt W := by
  rw [MakeChecks.laidMetH_plain _ _ _ (by kernel_rfl)] at h
  obtain ⟨ps, ⟨g0, t0, cs0, f0, p0, q0, hg0, ht0, hv0, hd0, _, _⟩, _, _⟩ := h
  obtain rfl := Option.some.inj (gHalf.symm.trans hg0)
  obtain rfl := Option.some.inj (tHalf.symm.trans ht0)
  obtain ⟨xs, m1, rfl, hx1, hlen, hn3, hel⟩ := DataW.trod_array Tryz.underlying183 hd0
  have c3 : Tryz.prog.cellsOf 134 = 1 := by kernel_rfl
  intro i hi
  obtain ⟨l, hl, -, hli⟩ := half_data i hi
  have he := hel i hi
  simp only [Prod.mk.injEq, hl, DataW.agg.injEq] at hx1
  have hxl := hx1.1
  rw [hxl, List.getElem?_map] at hli
  cases hxi : xs[i]? with
  | none => rw [hxi] at hli; cases hli
  | some x =>
    rw [hxi] at hli he
    simp only [Option.map_some, Option.some.injEq] at hli
    obtain ⟨k, e1, e2, -⟩ := DataW.trod_int Tryz.underlying134 he
    rw [e2] at hli
    cases hli
    have hcell := World.var?_cell hg0 hv0 i
    rw [hcell]
    rw [c3, Nat.mul_one] at e1
    have h1 : (cs0.toList.drop i)[0]? = some (.int .u32 ((half.getD i 0 : Nat) : Int)) := by
      cases hd : cs0.toList.drop i with
      | nil => rw [hd] at e1; simp at e1
      | cons y ys => rw [hd] at e1; simp at e1; simp [e1]
    rw [List.getElem?_drop, Nat.add_zero, Array.getElem?_toList] at h1
    exact h1

end Go.Proofs.YtnffnpndnaofhaaGreatDoor

/- Whether a disk has what a log's data say, byte by byte; it is kept by a sync, by a reset, and by any part of the writes that wait. Plain Lean, no Go. -/
namespace Go.Proofs.YtnffnpndnaofhaaGreatDoor

/-- What sector i has behind the writes ps. -/
def lookP (K : List (List UInt8)) (ps : List (Nat × List UInt8)) (i : Nat) : List UInt8 := ps.foldl (fun acc p => if p.1 = i then p.2 else acc) (K.getD i [])

theorem look_eq (σ : Dk) (i : Nat) : σ.look i = lookP σ.kept σ.pend i := rfl
theorem look_nil {σ : Dk} (h : σ.pend = []) (i : Nat) : σ.look i = σ.kept.getD i [] := by rw [look_eq, h]; rfl

theorem foldl_look (i : Nat) : ∀ (ps : List (Nat × List UInt8)) (v : List UInt8) (P : List UInt8 → Prop), P v → (∀ p ∈ ps, p.1 = i → P p.2) → P (ps.foldl (fun acc p => if p.1 = i then p.2 else acc) v)
  | [], v, P, h, _ => h
  | p :: ps, v, P, h, hp => by
    simp only [List.foldl_cons]
    refine foldl_look i ps _ P ?_ (fun q hq => hp q (by simp [hq]))
    split
    · rename_i e; exact hp p (by simp) e
    · exact h

theorem keepAll_look : ∀ (ps : List (Nat × List UInt8)) (K : List (List UInt8)) (i : Nat), (∀ p ∈ ps, p.1 < K.length) → (keepAll K ps).getD i [] = lookP K ps i
  | [], K, i, _ => rfl
  | p :: ps, K, i, h => by
    have h1 := h p (by simp)
    have h2 := keepAll_look ps (K.set p.1 p.2) i (fun q hq => by rw [List.length_set]; exact h q (by simp [hq]))
    simp only [keepAll, lookP, List.foldl_cons] at h2 ⊢
    rw [h2]
    congr 1
    by_cases e : p.1 = i
    · subst e
      simp [List.getD_eq_getElem?_getD, h1]
    · rw [if_neg e]
      simp [List.getD_eq_getElem?_getD, List.getElem?_set_ne e]

/-! ## What fits -/

def byteAt (img : Nat → List UInt8) (base p : Nat) : Option UInt8 := (img (base + 1 + p / 64))[p % 64]?

def Data (img : Nat → List UInt8) (base : Nat) (bytes : List UInt8) : Prop := ∀ p, p < bytes.length → byteAt img base p = bytes[p]?

structure Fits (img : Nat → List UInt8) (l : Lg) : Prop where
  head : (l.epoch = 0 ∧ l.bytes = [] ∧ img l.base = List.replicate 64 0) ∨ img l.base = headB l.epoch l.bytes.length
  data : Data img l.base l.bytes

theorem flat_get {img : Nat → List UInt8} {a : Nat} : ∀ {c : Nat}, (∀ i, i < c → (img (a + i)).length = 64) → ((List.range c).flatMap fun i => img (a + i)).length = 64 * c ∧ ∀ p, p < 64 * c → ((List.range c).flatMap fun i => img (a + i))[p]? = (img (a + p / 64))[p % 64]?
  | 0, _ => ⟨by simp, fun p hp => by omega⟩
  | c + 1, h => by
    obtain ⟨h1, h2⟩ := flat_get (c := c) (fun i hi => h i (by omega))
    have e : ((List.range (c + 1)).flatMap fun i => img (a + i)) = ((List.range c).flatMap fun i => img (a + i)) ++ img (a + c) := by simp [List.range_succ]
    rw [e]
    refine ⟨by rw [List.length_append, h1, h c (by omega)]; omega, fun p hp => ?_⟩
    by_cases hlt : p < 64 * c
    · rw [List.getElem?_append_left (by omega)]
      exact h2 p hlt
    · rw [List.getElem?_append_right (by omega), h1, show p / 64 = c by omega, show p - 64 * c = p % 64 by omega]

theorem Data.take {img : Nat → List UInt8} {base c : Nat} {bytes : List UInt8} (h : Data img base bytes) (hl : ∀ i, i < c → (img (base + 1 + i)).length = 64) (hb : bytes.length ≤ 64 * c) :
    ((List.range c).flatMap fun i => img (base + 1 + i)).take bytes.length = bytes := by
  obtain ⟨h1, h2⟩ := flat_get (a := base + 1) hl
  apply List.ext_getElem?
  intro p
  rw [List.getElem?_take]
  split
  · rename_i hp
    rw [h2 p (by omega)]
    exact h p hp
  · rename_i hp
    rw [List.getElem?_eq_none (by omega)]

theorem headB_ne (e n : Nat) : headB e n ≠ List.replicate 64 0 := by
  intro h
  have := congrArg List.head? h
  simp [headB, headTop, List.replicate_succ] at this

theorem headB_epoch (e n : Nat) (h : e < 2 ^ 64) : valLE (((headB e n).drop 4).take 8) = e := by
  have : ((headB e n).drop 4).take 8 = numLE e 8 := by
    unfold headB headTop
    simp only [List.append_assoc]
    rw [List.drop_left' (by rfl)]
    exact List.take_left' (length_numLE _ _)
  rw [this, valLE_numLE]
  exact Nat.mod_eq_of_lt (by omega)

theorem headB_length (e n : Nat) (h : n < 2 ^ 32) : valLE (((headB e n).drop 12).take 4) = n := by
  have : ((headB e n).drop 12).take 4 = numLE n 4 := by
    unfold headB headTop
    simp only [List.append_assoc]
    rw [show (12 : Nat) = 4 + 8 from rfl, ← List.drop_drop, List.drop_left' (by rfl), List.drop_left' (length_numLE _ _)]
    exact List.take_left' (length_numLE _ _)
  rw [this, valLE_numLE]
  exact Nat.mod_eq_of_lt (by omega)

theorem frames_nil {l : List (List UInt8)} (h : frames l = []) : l = [] := by
  cases l with
  | nil => rfl
  | cons r l =>
    have := congrArg List.length h
    simp [frames, length_frameB] at this

/-- A log, with nothing that waits. -/
def Lg.still (l : Lg) : Lg := { l with waiting := [] }

theorem openLg_fits {σ : Dk} {l : Lg} (ok : σ.Ok) (lo : l.Ok) (hl : l.lost = false) (hd : σ.down = false) (hb : l.base + l.n ≤ σ.kept.length) (hlen : ∀ i, i < σ.kept.length → (σ.look i).length = 64) (F : Fits σ.look l) : openLg σ l.base l.n = (0, some l.still) := by
  have h2 := lo.two
  have hm := lo.most
  have hf := lo.fits
  unfold openLg
  rw [hd]
  simp only [Bool.false_eq_true, if_false]
  rw [if_neg (by omega)]
  simp only [Int.toNat_natCast]
  rcases F.head with ⟨e0, eb, hz⟩ | hh
  · rw [if_pos hz]
    have hr : l.recs = [] := frames_nil (by rw [← lo.form, eb])
    cases l
    simp only at *
    subst e0 eb hr hl
    rfl
  · have hn := headB_ne l.epoch l.bytes.length
    rw [hh, if_neg hn, headB_epoch _ _ (by have := lo.epoch; omega), headB_length _ _ (by omega)]
    rw [if_neg (by
      intro h
      rcases h with h | h | h
      · have := lo.epoch; omega
      · omega
      · exact h rfl)]
    have ht : (sectorsB σ (l.base + 1) (l.n - 1)).take l.bytes.length = l.bytes := F.data.take (fun i hi => hlen _ (by omega)) (by omega)
    rw [ht]
    have hs : splitB l.bytes = some l.recs := by rw [lo.form]; exact splitB_frames lo.recs
    rw [hs]
    cases l
    simp only at *
    subst hl
    rfl

/-! ## One step of the disk -/

theorem does_run {σ : Dk} : (σ.does.1 = 0 ∧ σ.does.2.down = σ.down ∧ σ.does.2.armed = σ.armed ∧ σ.does.2.kept = σ.kept ∧ σ.does.2.pend = σ.pend) ∨ (σ.armed = true ∧ σ.does.1 = 10 ∧ σ.does.2.down = true ∧ σ.does.2.kept = σ.kept ∧ σ.does.2.pend = σ.pend) := by
  unfold Dk.does
  split
  · rename_i h
    simp only [Bool.and_eq_true] at h
    exact .inr ⟨h.1, rfl, rfl, rfl, rfl⟩
  · exact .inl ⟨rfl, rfl, rfl, rfl, rfl⟩

theorem write_run {σ : Dk} (hd : σ.down = false) {i : Nat} (hi : i < σ.kept.length) {s : List UInt8} (hs : s.length ≤ 64) :
    ((σ.write (i : Int) s).1 = 0 ∧ (σ.write (i : Int) s).2.down = false ∧ (σ.write (i : Int) s).2.armed = σ.armed ∧ (σ.write (i : Int) s).2.kept = σ.kept ∧ (σ.write (i : Int) s).2.pend = σ.pend ++ [(i, pad s)]) ∨
    (σ.armed = true ∧ (σ.write (i : Int) s).1 = 10 ∧ (σ.write (i : Int) s).2.down = true ∧ (σ.write (i : Int) s).2.kept = σ.kept ∧ (σ.write (i : Int) s).2.pend = σ.pend) := by
  have hh : σ.has (i : Int) = true := by simp [Dk.has]; omega
  unfold Dk.write
  rw [hd, hh, if_neg (by simp), if_pos rfl, if_neg (by omega)]
  rcases does_run (σ := σ) with ⟨h1, h2, h3, h4, h5⟩ | ⟨h0, h1, h2, h3, h4⟩
  · rw [if_pos h1]
    refine .inl ⟨rfl, ?_, ?_, ?_, ?_⟩
    · simp only [Dk.put]; rw [h2, hd]
    · simpa only [Dk.put] using h3
    · simpa only [Dk.put] using h4
    · simp only [Dk.put]; rw [h5, Int.toNat_natCast]
  · rw [if_neg (by omega)]
    exact .inr ⟨h0, rfl, h2, h3, h4⟩

theorem flush_run {σ : Dk} (hd : σ.down = false) :
    (σ.flush.1 = 0 ∧ σ.flush.2.down = false ∧ σ.flush.2.armed = σ.armed ∧ σ.flush.2.kept = keepAll σ.kept σ.pend ∧ σ.flush.2.pend = []) ∨
    (σ.armed = true ∧ σ.flush.1 = 10 ∧ σ.flush.2.down = true ∧ σ.flush.2.kept = σ.kept ∧ σ.flush.2.pend = σ.pend) := by
  unfold Dk.flush
  rw [hd, if_neg (by simp)]
  rcases does_run (σ := σ) with ⟨h1, h2, h3, h4, h5⟩ | ⟨h0, h1, h2, h3, h4⟩
  · rw [if_pos h1]
    refine .inl ⟨rfl, ?_, ?_, ?_, rfl⟩
    · simp only [Dk.settle]; rw [h2, hd]
    · simpa only [Dk.settle] using h3
    · simp only [Dk.settle]; rw [h4, h5]
  · rw [if_neg (by omega)]
    exact .inr ⟨h0, rfl, h2, h3, h4⟩

/-! ## The sectors of a sync -/

def chunk (base : Nat) (all : List UInt8) (j : Nat) : Nat × List UInt8 := (base + 1 + j, pad ((all.drop (64 * j)).take 64))

def chunks (base : Nat) (all : List UInt8) (k m : Nat) : List (Nat × List UInt8) := (List.range' k (m - k)).map (chunk base all)

theorem chunks_self (base : Nat) (all : List UInt8) (k : Nat) : chunks base all k k = [] := by simp [chunks]

theorem chunks_cons (base : Nat) (all : List UInt8) {k m : Nat} (h : k < m) : chunks base all k m = chunk base all k :: chunks base all (k + 1) m := by
  unfold chunks
  rw [show m - k = (m - (k + 1)) + 1 by omega, List.range'_succ]
  rfl

theorem mem_chunks {base : Nat} {all : List UInt8} {k m : Nat} {p : Nat × List UInt8} (h : p ∈ chunks base all k m) : ∃ j, k ≤ j ∧ j < m ∧ p = chunk base all j := by
  unfold chunks at h
  obtain ⟨j, hj, rfl⟩ := List.mem_map.1 h
  rw [List.mem_range'_1] at hj
  exact ⟨j, hj.1, by omega, rfl⟩

theorem lookP_chunks {base : Nat} {all : List UInt8} {m j : Nat} : ∀ (n k : Nat) (K : List (List UInt8)), m - k = n → k ≤ j → j < m → lookP K (chunks base all k m) (base + 1 + j) = pad ((all.drop (64 * j)).take 64) := by
  intro n k K _ hkj hjm
  have hmem : chunk base all j ∈ chunks base all k m := List.mem_map.2 ⟨j, by rw [List.mem_range'_1]; omega, rfl⟩
  have hall : ∀ p ∈ chunks base all k m, p.1 = base + 1 + j → p.2 = pad ((all.drop (64 * j)).take 64) := by
    intro p hp e
    obtain ⟨i, -, -, rfl⟩ := mem_chunks hp
    simp only [chunk] at e ⊢
    obtain rfl : i = j := by omega
    rfl
  generalize chunks base all k m = ps at hmem hall
  unfold lookP
  generalize K.getD (base + 1 + j) [] = v
  induction ps generalizing v with
  | nil => cases hmem
  | cons p ps ih =>
    simp only [List.foldl_cons]
    rcases List.mem_cons.1 hmem with rfl | h
    · rw [if_pos (show (chunk base all j).fst = base + 1 + j from rfl)]
      exact foldl_look _ ps _ (fun x => x = _) rfl (fun q hq e => hall q (by simp [hq]) e)
    · exact ih h (fun q hq => hall q (by simp [hq])) _

theorem layN_run {base : Nat} {all : List UInt8} : ∀ (f k : Nat) (σ : Dk), σ.down = false → (∀ j, 64 * j < all.length → base + 1 + j < σ.kept.length) → all.length / 64 + 1 ≤ f + k →
    ∃ m, k ≤ m ∧ (∀ j, k ≤ j → j < m → 64 * j < all.length) ∧ (layN base all f k σ).2.kept = σ.kept ∧ (layN base all f k σ).2.pend = σ.pend ++ chunks base all k m ∧
      (((layN base all f k σ).1 = 0 ∧ (layN base all f k σ).2.down = false ∧ (layN base all f k σ).2.armed = σ.armed ∧ all.length ≤ 64 * m) ∨ (σ.armed = true ∧ (layN base all f k σ).1 = 10 ∧ (layN base all f k σ).2.down = true))
  | 0, k, σ, hd, _, hf => ⟨k, Nat.le_refl _, fun j h1 h2 => by omega, rfl, by simp [layN, chunks_self], .inl ⟨rfl, hd, rfl, by omega⟩⟩
  | f + 1, k, σ, hd, hr, hf => by
    unfold layN
    by_cases hlt : 64 * k < all.length
    · rw [if_pos hlt]
      have hw := write_run (σ := σ) hd (i := base + 1 + k) (hr k hlt) (s := (all.drop (64 * k)).take 64) (by rw [List.length_take]; omega)
      generalize σ.write ((base + 1 + k : Nat) : Int) ((all.drop (64 * k)).take 64) = q at *
      rcases hw with ⟨h1, h2, h3, h4, h5⟩ | ⟨h0, h1, h2, h3, h4⟩
      · rw [if_pos h1]
        obtain ⟨m, m1, m2, m3, m4, m5⟩ := layN_run f (k + 1) q.2 h2 (fun j hj => by rw [h4]; exact hr j hj) (by omega)
        refine ⟨m, by omega, fun j a b => ?_, by rw [m3, h4], ?_, ?_⟩
        · by_cases e : j = k
          · rw [e]; exact hlt
          · exact m2 j (by omega) b
        · rw [m4, h5, chunks_cons base all (show k < m by omega), List.append_assoc]
          rfl
        · rw [h3] at m5
          exact m5
      · rw [if_neg (by omega)]
        exact ⟨k, Nat.le_refl _, fun j a b => by omega, h3, by rw [h4, chunks_self, List.append_nil], .inr ⟨h0, h1, h2⟩⟩
    · rw [if_neg hlt]
      exact ⟨k, Nat.le_refl _, fun j a b => by omega, rfl, by simp [chunks_self], .inl ⟨rfl, hd, rfl, by omega⟩⟩

end Go.Proofs.YtnffnpndnaofhaaGreatDoor

/- A sync and a reset, through losses of power at any write: what is found is what was there, or what it makes. Plain Lean, no Go. -/
namespace Go.Proofs.YtnffnpndnaofhaaGreatDoor

def imgK (K : List (List UInt8)) : Nat → List UInt8 := fun i => K.getD i []

theorem chunk_get {base j q : Nat} {all : List UInt8} (hq : q < 64) (h : 64 * j + q < all.length) : (chunk base all j).2[q]? = all[64 * j + q]? := by
  unfold chunk pad
  simp only
  rw [List.getElem?_append_left (by rw [List.length_take, List.length_drop]; omega), List.getElem?_take, if_pos hq, List.getElem?_drop]

/-- Each sector is as it was, or has its piece of 'all', from the k-th on. -/
def Mixed (base : Nat) (all : List UInt8) (k : Nat) (img img' : Nat → List UInt8) : Prop :=
  ∀ i, img' i = img i ∨ ∃ j, k ≤ j ∧ i = base + 1 + j ∧ img' i = (chunk base all j).2

theorem mixed_of {base : Nat} {all : List UInt8} {k : Nat} {K : List (List UInt8)} {ps : List (Nat × List UInt8)} (h : ∀ p ∈ ps, ∃ j, k ≤ j ∧ p = chunk base all j) : Mixed base all k (imgK K) (lookP K ps) := by
  intro i
  unfold lookP imgK
  refine foldl_look i ps _ (fun x => x = K.getD i [] ∨ ∃ j, k ≤ j ∧ i = base + 1 + j ∧ x = (chunk base all j).2) (.inl rfl) ?_
  intro p hp e
  obtain ⟨j, hj, rfl⟩ := h p hp
  exact .inr ⟨j, hj, e.symm, rfl⟩

theorem Data.mixed {base : Nat} {bytes x : List UInt8} {img img' : Nat → List UInt8} (h : Data img base bytes) (hm : Mixed base (bytes ++ x) (bytes.length / 64) img img') : Data img' base bytes := by
  intro p hp
  unfold byteAt
  rcases hm (base + 1 + p / 64) with e | ⟨j, hj, e1, e2⟩
  · rw [e]; exact h p hp
  · obtain rfl : j = p / 64 := by omega
    rw [e2, chunk_get (by omega) (by rw [List.length_append]; omega), show 64 * (p / 64) + p % 64 = p by omega, List.getElem?_append_left hp]

theorem Data.full {base m : Nat} {bytes x : List UInt8} {img img' : Nat → List UInt8} (h : Data img base bytes) (hm : Mixed base (bytes ++ x) (bytes.length / 64) img img')
    (hall : ∀ j, bytes.length / 64 ≤ j → j < m → img' (base + 1 + j) = (chunk base (bytes ++ x) j).2) (hlen : (bytes ++ x).length ≤ 64 * m) : Data img' base (bytes ++ x) := by
  intro p hp
  by_cases hk : bytes.length / 64 ≤ p / 64
  · unfold byteAt
    rw [hall _ hk (by omega), chunk_get (by omega) (by omega), show 64 * (p / 64) + p % 64 = p by omega]
  · have hpl : p < bytes.length := by omega
    rw [List.getElem?_append_left hpl]
    exact h.mixed hm p hpl

theorem Data.other {base : Nat} {bytes : List UInt8} {img img' : Nat → List UInt8} (h : Data img base bytes) (he : ∀ i, base < i → img' i = img i) : Data img' base bytes := by
  intro p hp
  unfold byteAt
  rw [he _ (by omega)]
  exact h p hp

theorem layB_run {base k : Nat} {all : List UInt8} {σ : Dk} (hd : σ.down = false) (hp : σ.pend = []) (hr : ∀ j, 64 * j < all.length → base + 1 + j < σ.kept.length) :
    ((layB base all k σ).1 = 0 ∧ (layB base all k σ).2.down = false ∧ (layB base all k σ).2.armed = σ.armed ∧ (layB base all k σ).2.pend = [] ∧
      ∃ m, all.length ≤ 64 * m ∧ (∀ j, k ≤ j → j < m → 64 * j < all.length) ∧ (layB base all k σ).2.kept = keepAll σ.kept (chunks base all k m)) ∨
    (σ.armed = true ∧ (layB base all k σ).1 = 10 ∧ (layB base all k σ).2.down = true ∧ (layB base all k σ).2.kept = σ.kept ∧ ∃ m, (∀ j, k ≤ j → j < m → 64 * j < all.length) ∧ (layB base all k σ).2.pend = chunks base all k m) := by
  obtain ⟨m, m1, m2, m3, m4, m5⟩ := layN_run (base := base) (all := all) (all.length / 64 + 1) k σ hd hr (by omega)
  unfold layB
  simp only []
  generalize layN base all (all.length / 64 + 1) k σ = r at *
  rw [hp, List.nil_append] at m4
  rcases m5 with ⟨h1, h2, h3, h4⟩ | ⟨h0, h1, h2⟩
  · rw [if_pos h1]
    rcases flush_run h2 with ⟨f1, f2, f3, f4, f5⟩ | ⟨f0, f1, f2, f3, f4⟩
    · exact .inl ⟨f1, f2, by rw [f3, h3], f5, m, h4, m2, by rw [f4, m3, m4]⟩
    · exact .inr ⟨by rw [← h3]; exact f0, f1, f2, by rw [f3, m3], m, m2, by rw [f4, m4]⟩
  · rw [if_neg (by omega)]
    exact .inr ⟨h0, h1, h2, m3, m, m2, m4⟩

theorem pad_full {s : List UInt8} (h : s.length = 64) : pad s = s := by simp [pad, h]

theorem head_run {base e n : Nat} {σ : Dk} (hd : σ.down = false) (hp : σ.pend = []) (hb : base < σ.kept.length) :
    ((writeHead base e n σ).1 = 0 ∧ (writeHead base e n σ).2.down = false ∧ (writeHead base e n σ).2.armed = σ.armed ∧ (writeHead base e n σ).2.pend = [] ∧ (writeHead base e n σ).2.kept = keepAll σ.kept [(base, headB e n)]) ∨
    (σ.armed = true ∧ (writeHead base e n σ).1 = 10 ∧ (writeHead base e n σ).2.down = true ∧ (writeHead base e n σ).2.kept = σ.kept ∧ ((writeHead base e n σ).2.pend = [] ∨ (writeHead base e n σ).2.pend = [(base, headB e n)])) := by
  have hw := write_run (σ := σ) hd hb (s := headB e n) (by rw [length_headB]; omega)
  unfold writeHead
  simp only []
  generalize σ.write (base : Int) (headB e n) = q at *
  rw [pad_full (length_headB e n), hp, List.nil_append] at hw
  rcases hw with ⟨h1, h2, h3, h4, h5⟩ | ⟨h0, h1, h2, h3, h4⟩
  · rw [if_pos h1]
    rcases flush_run h2 with ⟨f1, f2, f3, f4, f5⟩ | ⟨f0, f1, f2, f3, f4⟩
    · exact .inl ⟨f1, f2, by rw [f3, h3], f5, by rw [f4, h4, h5]⟩
    · exact .inr ⟨by rw [← h3]; exact f0, f1, f2, by rw [f3, h4], .inr (by rw [f4, h5])⟩
  · rw [if_neg (by omega)]
    exact .inr ⟨h0, h1, h2, h3, .inl h4⟩

/-- A disk at rest, and a log that it has. -/
structure Sat (σ : Dk) (l : Lg) : Prop where
  ok : σ.Ok
  log : l.Ok
  lost : l.lost = false
  down : σ.down = false
  pend : σ.pend = []
  room : l.base + l.n ≤ σ.kept.length
  fits : Fits (imgK σ.kept) l

theorem Fits.congr {img img' : Nat → List UInt8} {l : Lg} (h : Fits img l) (e : ∀ i, img' i = img i) : Fits img' l := by
  have : img' = img := funext e
  rw [this]; exact h

theorem Sat.open {σ : Dk} {l : Lg} (S : Sat σ l) : openLg σ l.base l.n = (0, some l.still) :=
  openLg_fits S.ok S.log S.lost S.down S.room (fun i hi => Dk.look_length S.ok hi) (S.fits.congr (fun i => look_nil S.pend i))

/-- A disk without power: whatever part of its writes is kept, it has l or l'. -/
structure Torn (σ : Dk) (l l' : Lg) : Prop where
  ok : σ.Ok
  down : σ.down = true
  room : l.base + l.n ≤ σ.kept.length
  fits : ∀ ps, ps.Sublist σ.pend → Fits (lookP σ.kept ps) l ∨ Fits (lookP σ.kept ps) l'

theorem marked_sublist (keep : List Bool) : ∀ (ps : List (Nat × List UInt8)) (i : Nat), (marked keep i ps).Sublist ps
  | [], _ => List.Sublist.refl _
  | p :: ps, i => by
    unfold marked
    split
    · exact (marked_sublist keep ps (i + 1)).cons_cons p
    · exact (marked_sublist keep ps (i + 1)).cons p

theorem Torn.on {σ : Dk} {l l' : Lg} (T : Torn σ l l') (h1 : l.Ok) (h2 : l'.Ok) (e1 : l.lost = false) (e2 : l'.lost = false) (eb : l'.base = l.base) (en : l'.n = l.n) (keep : List Bool) :
    (σ.on keep).1 = 0 ∧ (σ.on keep).2.armed = false ∧ (Sat (σ.on keep).2 l ∨ Sat (σ.on keep).2 l') := by
  have hok := Dk.on_ok T.ok keep
  have hl : (σ.on keep).2.kept.length = σ.kept.length := by unfold Dk.on; rw [T.down, if_pos rfl]; exact keepAll_length _ _
  have hk : ∀ i, imgK (σ.on keep).2.kept i = lookP σ.kept (marked keep 0 σ.pend) i := by
    intro i
    unfold Dk.on imgK
    rw [T.down, if_pos rfl]
    exact keepAll_look _ _ _ (fun p hp => (T.ok.pend p ((marked_sublist keep σ.pend 0).mem hp)).1)
  have hd : (σ.on keep).2.down = false := by unfold Dk.on; rw [T.down, if_pos rfl]
  have hp : (σ.on keep).2.pend = [] := by unfold Dk.on; rw [T.down, if_pos rfl]
  refine ⟨by unfold Dk.on; rw [T.down, if_pos rfl], by unfold Dk.on; rw [T.down, if_pos rfl], ?_⟩
  rcases T.fits _ (marked_sublist keep σ.pend 0) with F | F
  · exact .inl ⟨hok, h1, e1, hd, hp, by rw [hl]; exact T.room, F.congr hk⟩
  · exact .inr ⟨hok, h2, e2, hd, hp, by rw [hl, eb, en]; exact T.room, F.congr hk⟩

theorem layN_ok (base : Nat) (all : List UInt8) : ∀ (f k : Nat) (σ : Dk), σ.Ok → (layN base all f k σ).2.Ok
  | 0, _, _, h => h
  | f + 1, k, σ, h => by
    unfold layN
    have hw := Dk.write_ok h ((base + 1 + k : Nat) : Int) ((all.drop (64 * k)).take 64)
    split
    · split
      · exact layN_ok base all f (k + 1) _ hw
      · exact hw
    · exact h

theorem layB_ok (base : Nat) (all : List UInt8) (k : Nat) {σ : Dk} (h : σ.Ok) : (layB base all k σ).2.Ok := by
  have h1 := layN_ok base all (all.length / 64 + 1) k σ h
  unfold layB
  simp only []
  split
  · exact Dk.flush_ok h1
  · exact h1

theorem writeHead_ok (base e n : Nat) {σ : Dk} (h : σ.Ok) : (writeHead base e n σ).2.Ok := by
  have h1 := Dk.write_ok h (base : Int) (headB e n)
  unfold writeHead
  simp only []
  split
  · exact Dk.flush_ok h1
  · exact h1

theorem Lg.sync_dk {σ : Dk} (h : σ.Ok) (l : Lg) : (l.sync σ).2.2.Ok := by
  unfold Lg.sync
  split
  · exact h
  split
  · exact h
  · have h1 := layB_ok l.base (l.bytes ++ frames l.waiting) (l.bytes.length / 64) h
    simp only []
    split
    · split
      · exact writeHead_ok _ _ _ h1
      · exact writeHead_ok _ _ _ h1
    · exact h1

theorem Lg.reset_dk {σ : Dk} (h : σ.Ok) (l : Lg) : (l.reset σ).2.2.Ok := by
  unfold Lg.reset
  split
  · exact h
  split
  · exact h
  split
  · exact h
  · simp only []
    split <;> exact writeHead_ok _ _ _ h

/-- What a sync makes. -/
def Lg.synced (l : Lg) : Lg := { l with bytes := l.bytes ++ frames l.waiting, recs := l.recs ++ l.waiting, waiting := [] }

theorem Lg.synced_ok {l : Lg} (ok : l.Ok) : l.synced.Ok := by
  refine ⟨ok.two, ok.most, ok.base, ok.epoch, ?_, ?_, ?_, by simp [Lg.synced]⟩
  · have := ok.fits
    simp only [Lg.synced, List.length_append, frames, List.flatMap_nil, List.length_nil] at *
    exact this
  · simp only [Lg.synced, frames_append, ok.form]
  · intro r hr
    rcases List.mem_append.1 hr with h | h
    · exact ok.recs r h
    · exact ok.waits r h

theorem lookP_one (K : List (List UInt8)) (b i : Nat) (s : List UInt8) : lookP K [(b, s)] i = if b = i then s else K.getD i [] := rfl

theorem sync_run {σ : Dk} {l : Lg} (S : Sat σ l) :
    ((l.sync σ).1 = 0 ∧ (l.sync σ).2.1 = l.synced ∧ Sat (l.sync σ).2.2 l.synced ∧ (l.sync σ).2.2.armed = σ.armed) ∨
    (σ.armed = true ∧ (l.sync σ).1 = 10 ∧ (l.sync σ).2.1 = { l with lost := true } ∧ Torn (l.sync σ).2.2 l l.synced) := by
  have hlok := S.log
  have hok := Dk.Ok.pos S.ok
  have hfit := hlok.fits
  have hsz := S.room
  have h2 := hlok.two
  have hsok : (l.sync σ).2.2.Ok := Lg.sync_dk S.ok l
  by_cases hw : l.waiting = []
  · have e : l.sync σ = (0, l, σ) := by simp [Lg.sync, S.lost, hw]
    have es : l.synced = l := by
      cases l
      simp only at hw
      subst hw
      simp [Lg.synced, frames]
    rw [e, es]
    exact .inl ⟨rfl, rfl, S, rfl⟩
  · have hall : (l.bytes ++ frames l.waiting).length ≤ 64 * (l.n - 1) := by rw [List.length_append]; exact hfit
    have e : l.sync σ = (if (layB l.base (l.bytes ++ frames l.waiting) (l.bytes.length / 64) σ).1 = 0 then
              (if (writeHead l.base l.epoch (l.bytes ++ frames l.waiting).length (layB l.base (l.bytes ++ frames l.waiting) (l.bytes.length / 64) σ).2).1 = 0 then
                (0, l.synced, (writeHead l.base l.epoch (l.bytes ++ frames l.waiting).length (layB l.base (l.bytes ++ frames l.waiting) (l.bytes.length / 64) σ).2).2)
              else ((writeHead l.base l.epoch (l.bytes ++ frames l.waiting).length (layB l.base (l.bytes ++ frames l.waiting) (l.bytes.length / 64) σ).2).1, { l with lost := true }, (writeHead l.base l.epoch (l.bytes ++ frames l.waiting).length (layB l.base (l.bytes ++ frames l.waiting) (l.bytes.length / 64) σ).2).2))
            else ((layB l.base (l.bytes ++ frames l.waiting) (l.bytes.length / 64) σ).1, { l with lost := true }, (layB l.base (l.bytes ++ frames l.waiting) (l.bytes.length / 64) σ).2)) := by
      simp only [Lg.sync, S.lost, Bool.false_eq_true, if_false, if_neg hw, Lg.synced]
    have hlay := layB_run (base := l.base) (k := l.bytes.length / 64) (all := l.bytes ++ frames l.waiting) S.down S.pend (fun j hj => by omega)
    rw [e] at hsok ⊢
    clear e
    generalize layB l.base (l.bytes ++ frames l.waiting) (l.bytes.length / 64) σ = r at *
    rcases hlay with ⟨r1, r2, r3, r4, m, m1, m2, r5⟩ | ⟨r0, r1, r2, r3, m, m2, r4⟩
    · rw [if_pos r1] at hsok ⊢
      have hkl : r.2.kept.length = σ.kept.length := by rw [r5, keepAll_length]
      have hch : ∀ p ∈ chunks l.base (l.bytes ++ frames l.waiting) (l.bytes.length / 64) m, p.1 < σ.kept.length := by
        intro p hp
        obtain ⟨j, j1, j2, rfl⟩ := mem_chunks hp
        have := m2 j j1 j2
        simp only [chunk]
        omega
      have himg : ∀ i, imgK r.2.kept i = lookP σ.kept (chunks l.base (l.bytes ++ frames l.waiting) (l.bytes.length / 64) m) i := by
        intro i
        unfold imgK
        rw [r5]
        exact keepAll_look _ _ _ hch
      have hmix : Mixed l.base (l.bytes ++ frames l.waiting) (l.bytes.length / 64) (imgK σ.kept) (imgK r.2.kept) := by
        intro i
        rw [himg i]
        exact mixed_of (fun p hp => by obtain ⟨j, j1, -, rfl⟩ := mem_chunks hp; exact ⟨j, j1, rfl⟩) i
      have hdall : Data (imgK r.2.kept) l.base (l.bytes ++ frames l.waiting) := S.fits.data.full hmix (fun j j1 j2 => by rw [himg]; exact lookP_chunks _ _ _ rfl j1 j2) m1
      have hdold : Data (imgK r.2.kept) l.base l.bytes := S.fits.data.mixed hmix
      have hhead : imgK r.2.kept l.base = imgK σ.kept l.base := by
        rcases hmix l.base with h | ⟨j, -, h, -⟩
        · exact h
        · omega
      have hnew : ∀ img : Nat → List UInt8, img l.base = headB l.epoch (l.bytes ++ frames l.waiting).length → (∀ i, l.base < i → img i = imgK r.2.kept i) → Fits img l.synced := fun img h1 h2 => ⟨.inr h1, hdall.other h2⟩
      have hold : Fits (imgK r.2.kept) l := ⟨by rw [hhead]; exact S.fits.head, hdold⟩
      have hwh := head_run (base := l.base) (e := l.epoch) (n := (l.bytes ++ frames l.waiting).length) r2 r4 (by omega)
      generalize writeHead l.base l.epoch (l.bytes ++ frames l.waiting).length r.2 = q at *
      have himg2 : ∀ i, lookP r.2.kept [(l.base, headB l.epoch (l.bytes ++ frames l.waiting).length)] i = if l.base = i then headB l.epoch (l.bytes ++ frames l.waiting).length else imgK r.2.kept i := fun i => lookP_one _ _ _ _
      have hN : Fits (lookP r.2.kept [(l.base, headB l.epoch (l.bytes ++ frames l.waiting).length)]) l.synced := hnew _ (by rw [himg2, if_pos rfl]) (fun i hi => by rw [himg2, if_neg (by omega)])
      rcases hwh with ⟨q1, q2, q3, q4, q5⟩ | ⟨q0, q1, q2, q3, q4⟩
      · rw [if_pos q1] at hsok ⊢
        refine .inl ⟨rfl, rfl, ⟨hsok, Lg.synced_ok hlok, S.lost, q2, q4, by rw [q5, keepAll_length, hkl]; exact hsz, ?_⟩, by simp only []; rw [q3, r3]⟩
        simp only []
        refine hN.congr (fun i => ?_)
        unfold imgK
        rw [q5]
        exact keepAll_look _ _ _ (fun p hp => by simp only [List.mem_singleton] at hp; subst hp; simp only []; omega)
      · rw [if_neg (by omega)] at hsok ⊢
        refine .inr ⟨by rw [← r3]; exact q0, q1, rfl, ⟨hsok, q2, by rw [q3, hkl]; exact hsz, fun ps hps => ?_⟩⟩
        simp only [] at hps ⊢
        rw [q3]
        rcases q4 with e | e
        · rw [e] at hps
          obtain rfl := List.eq_nil_of_sublist_nil hps
          exact .inl hold
        · rw [e] at hps
          rcases List.sublist_cons_iff.1 hps with h | ⟨r', rfl, h⟩
          · obtain rfl := List.eq_nil_of_sublist_nil h
            exact .inl hold
          · obtain rfl := List.eq_nil_of_sublist_nil h
            exact .inr hN
    · rw [if_neg (by omega)] at hsok ⊢
      refine .inr ⟨r0, r1, rfl, ⟨hsok, r2, by rw [r3]; exact hsz, fun ps hps => .inl ?_⟩⟩
      simp only [] at hps ⊢
      rw [r3]
      rw [r4] at hps
      have hmix : Mixed l.base (l.bytes ++ frames l.waiting) (l.bytes.length / 64) (imgK σ.kept) (lookP σ.kept ps) := mixed_of (fun p hp => by obtain ⟨j, j1, -, rfl⟩ := mem_chunks (hps.mem hp); exact ⟨j, j1, rfl⟩)
      refine ⟨?_, S.fits.data.mixed hmix⟩
      have hb : lookP σ.kept ps l.base = imgK σ.kept l.base := by
        rcases hmix l.base with h | ⟨j, -, h, -⟩
        · exact h
        · omega
      rw [hb]
      exact S.fits.head

/-- What a reset makes. -/
def Lg.fresh (l : Lg) : Lg := { l with epoch := l.epoch + 1, bytes := [], recs := [] }

theorem Lg.fresh_ok {l : Lg} (ok : l.Ok) (hw : l.waiting = []) (he : l.epoch < 2 ^ 62) : l.fresh.Ok :=
  ⟨ok.two, ok.most, ok.base, by simp only [Lg.fresh]; omega, by simp [Lg.fresh, hw, frames], by simp [Lg.fresh, frames], by simp [Lg.fresh], by simp [Lg.fresh, hw]⟩

theorem reset_run {σ : Dk} {l : Lg} (S : Sat σ l) (hw : l.waiting = []) (he : l.epoch < 2 ^ 62) :
    ((l.reset σ).1 = 0 ∧ (l.reset σ).2.1 = l.fresh ∧ Sat (l.reset σ).2.2 l.fresh ∧ (l.reset σ).2.2.armed = σ.armed) ∨
    (σ.armed = true ∧ (l.reset σ).1 = 10 ∧ (l.reset σ).2.1 = { l with lost := true } ∧ Torn (l.reset σ).2.2 l l.fresh) := by
  have hlok := S.log
  have hsz := S.room
  have h2 := hlok.two
  have hsok : (l.reset σ).2.2.Ok := Lg.reset_dk S.ok l
  have e : l.reset σ = (if (writeHead l.base (l.epoch + 1) 0 σ).1 = 0 then (0, l.fresh, (writeHead l.base (l.epoch + 1) 0 σ).2) else ((writeHead l.base (l.epoch + 1) 0 σ).1, { l with lost := true }, (writeHead l.base (l.epoch + 1) 0 σ).2)) := by
    have hne : ¬ l.epoch = 2 ^ 62 := by omega
    simp only [Lg.reset, S.lost, Bool.false_eq_true, if_false, hw, ne_eq, not_true_eq_false, if_neg hne, Lg.fresh]
  have hwh := head_run (base := l.base) (e := l.epoch + 1) (n := 0) S.down S.pend (by omega)
  rw [e] at hsok ⊢
  clear e
  generalize writeHead l.base (l.epoch + 1) 0 σ = q at *
  have hN : Fits (lookP σ.kept [(l.base, headB (l.epoch + 1) 0)]) l.fresh := ⟨.inr (by rw [lookP_one]; exact if_pos rfl), by intro p hp; simp [Lg.fresh] at hp⟩
  rcases hwh with ⟨q1, q2, q3, q4, q5⟩ | ⟨q0, q1, q2, q3, q4⟩
  · rw [if_pos q1] at hsok ⊢
    refine .inl ⟨rfl, rfl, ⟨hsok, Lg.fresh_ok hlok hw he, S.lost, q2, q4, by rw [q5, keepAll_length]; exact hsz, ?_⟩, by simp only []; rw [q3]⟩
    simp only []
    refine hN.congr (fun i => ?_)
    unfold imgK
    rw [q5]
    exact keepAll_look _ _ _ (fun p hp => by simp only [List.mem_singleton] at hp; subst hp; simp only []; omega)
  · rw [if_neg (by omega)] at hsok ⊢
    refine .inr ⟨q0, q1, rfl, ⟨hsok, q2, by rw [q3]; exact hsz, fun ps hps => ?_⟩⟩
    simp only [] at hps ⊢
    rw [q3]
    rcases q4 with e | e
    · rw [e] at hps
      obtain rfl := List.eq_nil_of_sublist_nil hps
      exact .inl S.fits
    · rw [e] at hps
      rcases List.sublist_cons_iff.1 hps with h | ⟨r', rfl, h⟩
      · obtain rfl := List.eq_nil_of_sublist_nil h
        exact .inl S.fits
      · obtain rfl := List.eq_nil_of_sublist_nil h
        exact .inr hN

end Go.Proofs.YtnffnpndnaofhaaGreatDoor

/- A healthy disk, with writes that wait: a sync goes well, and leaves the sectors outside the log's part as they were. Plain Lean, no Go. -/
namespace Go.Proofs.YtnffnpndnaofhaaGreatDoor

structure Heal (σ : Dk) (N : Nat) : Prop where
  ok : σ.Ok
  down : σ.down = false
  armed : σ.armed = false
  len : σ.kept.length = N

theorem Heal.write {σ : Dk} {N : Nat} (h : Heal σ N) {i : Nat} (hi : i < N) {s : List UInt8} (hs : s.length ≤ 64) :
    (σ.write (i : Int) s).1 = 0 ∧ Heal (σ.write (i : Int) s).2 N ∧ (σ.write (i : Int) s).2.pend = σ.pend ++ [(i, pad s)] ∧ ∀ j, (σ.write (i : Int) s).2.look j = if i = j then pad s else σ.look j := by
  have hok := Dk.write_ok h.ok (i : Int) s
  rcases write_run h.down (i := i) (by rw [h.len]; exact hi) hs with ⟨h1, h2, h3, h4, h5⟩ | ⟨h0, -⟩
  · refine ⟨h1, ⟨hok, h2, by rw [h3, h.armed], by rw [h4, h.len]⟩, h5, fun j => ?_⟩
    rw [look_eq, look_eq, h4, h5]
    simp [lookP]
  · rw [h.armed] at h0; cases h0

theorem Heal.flush {σ : Dk} {N : Nat} (h : Heal σ N) : σ.flush.1 = 0 ∧ Heal σ.flush.2 N ∧ σ.flush.2.pend = [] ∧ ∀ j, σ.flush.2.look j = σ.look j := by
  have hok := Dk.flush_ok h.ok
  rcases flush_run h.down with ⟨h1, h2, h3, h4, h5⟩ | ⟨h0, -⟩
  · refine ⟨h1, ⟨hok, h2, by rw [h3, h.armed], by rw [h4, keepAll_length, h.len]⟩, h5, fun j => ?_⟩
    rw [look_nil h5, look_eq, h4]
    exact keepAll_look _ _ _ (fun p hp => (h.ok.pend p hp).1)
  · rw [h.armed] at h0; cases h0

theorem Heal.layN {base N top : Nat} {all : List UInt8} (hr : ∀ j, 64 * j < all.length → base + 1 + j < top) (ht : top ≤ N) : ∀ (f k : Nat) (σ : Dk), Heal σ N →
    (layN base all f k σ).1 = 0 ∧ Heal (layN base all f k σ).2 N ∧ ∀ i, (i ≤ base ∨ top ≤ i) → (layN base all f k σ).2.look i = σ.look i
  | 0, _, _, h => ⟨rfl, h, fun _ _ => rfl⟩
  | f + 1, k, σ, h => by
    unfold Go.Proofs.YtnffnpndnaofhaaGreatDoor.layN
    by_cases hlt : 64 * k < all.length
    · rw [if_pos hlt]
      have := hr k hlt
      obtain ⟨w1, w2, -, w4⟩ := h.write (i := base + 1 + k) (by omega) (s := (all.drop (64 * k)).take 64) (by rw [List.length_take]; omega)
      rw [if_pos w1]
      obtain ⟨h1, h2, h3⟩ := Heal.layN hr ht f (k + 1) _ w2
      refine ⟨h1, h2, fun i hi => ?_⟩
      rw [h3 i hi, w4, if_neg (by omega)]
    · rw [if_neg hlt]
      exact ⟨rfl, h, fun _ _ => rfl⟩

theorem Heal.sync {σ : Dk} {N : Nat} {l : Lg} (h : Heal σ N) (lo : l.Ok) (hl : l.lost = false) (hr : l.base + l.n ≤ N) :
    (l.sync σ).1 = 0 ∧ (l.sync σ).2.1 = l.synced ∧ Heal (l.sync σ).2.2 N ∧ (l.sync σ).2.2.pend.length ≤ σ.pend.length ∧ ∀ i, (i < l.base ∨ l.base + l.n ≤ i) → (l.sync σ).2.2.look i = σ.look i := by
  have h2 := lo.two
  by_cases hw : l.waiting = []
  · have e : l.sync σ = (0, l, σ) := by simp [Lg.sync, hl, hw]
    have es : l.synced = l := by
      cases l
      simp only at hw
      subst hw
      simp [Lg.synced, frames]
    rw [e, es]
    exact ⟨rfl, rfl, h, Nat.le_refl _, fun _ _ => rfl⟩
  · have hall : (l.bytes ++ frames l.waiting).length ≤ 64 * (l.n - 1) := by rw [List.length_append]; exact lo.fits
    obtain ⟨n1, n2, n3⟩ := Heal.layN (base := l.base) (top := l.base + l.n) (all := l.bytes ++ frames l.waiting) (fun j hj => by omega) hr ((l.bytes ++ frames l.waiting).length / 64 + 1) (l.bytes.length / 64) σ h
    have hlB : layB l.base (l.bytes ++ frames l.waiting) (l.bytes.length / 64) σ = (Go.Proofs.YtnffnpndnaofhaaGreatDoor.layN l.base (l.bytes ++ frames l.waiting) ((l.bytes ++ frames l.waiting).length / 64 + 1) (l.bytes.length / 64) σ).2.flush := by
      unfold layB
      simp only []
      rw [if_pos n1]
    generalize Go.Proofs.YtnffnpndnaofhaaGreatDoor.layN l.base (l.bytes ++ frames l.waiting) ((l.bytes ++ frames l.waiting).length / 64 + 1) (l.bytes.length / 64) σ = r at *
    obtain ⟨f1, f2, f3, f4⟩ := n2.flush
    obtain ⟨w1, w2, -, w4⟩ := f2.write (i := l.base) (by omega) (s := headB l.epoch (l.bytes ++ frames l.waiting).length) (by rw [length_headB]; omega)
    have hwH : writeHead l.base l.epoch (l.bytes ++ frames l.waiting).length r.2.flush.2 = (r.2.flush.2.write (l.base : Int) (headB l.epoch (l.bytes ++ frames l.waiting).length)).2.flush := by
      unfold writeHead
      simp only []
      rw [if_pos w1]
    obtain ⟨g1, g2, g3, g4⟩ := w2.flush
    have e : l.sync σ = (0, l.synced, (r.2.flush.2.write (l.base : Int) (headB l.epoch (l.bytes ++ frames l.waiting).length)).2.flush.2) := by
      simp only [Lg.sync, hl, Bool.false_eq_true, if_false, if_neg hw, hlB, f1, if_true, hwH, g1, Lg.synced]
    rw [e]
    refine ⟨rfl, rfl, g2, by simp only []; rw [g3]; simp, fun i hi => ?_⟩
    simp only []
    rw [g4, w4, if_neg (by omega), f4]
    exact n3 i (by omega)

end Go.Proofs.YtnffnpndnaofhaaGreatDoor
