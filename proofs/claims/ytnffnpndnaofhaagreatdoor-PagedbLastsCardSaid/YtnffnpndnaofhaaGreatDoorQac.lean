/- Parts of the proof: A disk of sectors as data (Dk), what each method makes of it, and how it lies in memory (DiskAt). Plain Lean and memory; no walk. -/
import Derived.Test.YtnffnpndnaofhaaGreatDoorQaa
import Derived.Test.YtnffnpndnaofhaaGreatDoorQab
import Derived.Test.YtnffnpndnaofhaaGreatDoorChecked
import Derived.Outline
import Derived.ProofKit
import Derived.LaidMore
import Derived.OpenShut
import Derived.Stop.Joined
import Derived.Lay
import Derived.Laws.IdiomArrays

/- A disk of sectors as data (Dk), what each method makes of it, and how it lies in memory (DiskAt). Plain Lean and memory; no walk. -/
namespace Go.Proofs.YtnffnpndnaofhaaGreatDoor
open Go.RowKit

/-! ## Lists whose pieces have one length -/

theorem flat_length {α : Type} {f : α → List Value} {sz : Nat} : ∀ {l : List α}, (∀ x ∈ l, (f x).length = sz) → (l.flatMap f).length = l.length * sz
  | [], _ => by simp
  | x :: l, h => by
    have h1 := h x (by simp)
    have h2 := flat_length (l := l) (fun y hy => h y (by simp [hy]))
    rw [List.flatMap_cons, List.length_append, h1, h2, List.length_cons, Nat.add_mul]; omega

theorem flat_piece {α : Type} {f : α → List Value} {sz : Nat} : ∀ {l : List α} {i : Nat}, (∀ x ∈ l, (f x).length = sz) → ∀ (hi : i < l.length), ((l.flatMap f).drop (i * sz)).take sz = f l[i]
  | [], i, _, hi => by simp at hi
  | x :: l, 0, h, _ => by
    have h1 := h x (by simp)
    simp only [Nat.zero_mul, List.drop_zero, List.flatMap_cons, List.getElem_cons_zero]
    rw [← h1]; exact List.take_left
  | x :: l, i + 1, h, hi => by
    have h1 := h x (by simp)
    rw [List.flatMap_cons, show (i + 1) * sz = (f x).length + i * sz by rw [h1, Nat.add_mul]; omega, List.drop_append, List.drop_eq_nil_of_le (by omega), List.nil_append, Nat.add_sub_cancel_left]
    rw [flat_piece (l := l) (fun y hy => h y (by simp [hy])) (by simpa using hi)]
    simp

theorem flat_splice {α : Type} {f : α → List Value} {sz : Nat} : ∀ {l : List α} {i : Nat} {y : α}, (∀ x ∈ l, (f x).length = sz) → (f y).length = sz → i < l.length → splice (l.flatMap f) (i * sz) (f y) = (l.set i y).flatMap f
  | [], i, _, _, _, hi => by simp at hi
  | x :: l, 0, y, h, hy, _ => by
    have h1 := h x (by simp)
    simp only [splice, Nat.zero_mul, List.take_zero, List.nil_append, Nat.zero_add, List.flatMap_cons, List.set_cons_zero]
    rw [hy, ← h1, List.drop_left]
  | x :: l, i + 1, y, h, hy, hi => by
    have h1 := h x (by simp)
    have ih := flat_splice (l := l) (i := i) (y := y) (fun z hz => h z (by simp [hz])) hy (by simpa using hi)
    rw [List.flatMap_cons, List.set_cons_succ, List.flatMap_cons, ← ih]
    unfold splice
    rw [show (i + 1) * sz = (f x).length + i * sz by rw [h1, Nat.add_mul]; omega, List.take_append, List.take_of_length_le (by omega), Nat.add_sub_cancel_left,
      List.append_assoc, show (f x).length + i * sz + (f y).length = (f x).length + (i * sz + (f y).length) by omega, List.drop_append, List.drop_eq_nil_of_le (by omega), List.nil_append, Nat.add_sub_cancel_left]

theorem splice_mid {α : Type} (A B C D : List α) (h : B.length = D.length) : splice (A ++ (B ++ C)) A.length D = A ++ (D ++ C) := by
  unfold splice
  rw [List.take_left, ← h, List.drop_append, List.drop_eq_nil_of_le (by omega), Nat.add_sub_cancel_left, List.nil_append, List.drop_left]

theorem flat_replicate (n m : Nat) (b : UInt8) : (List.replicate n (List.replicate m b)).flatMap (fun l => l.map byteV) = List.replicate (n * m) (byteV b) := by
  induction n with
  | zero => simp
  | succ n ih => rw [List.replicate_succ, List.flatMap_cons, ih, List.map_replicate, List.replicate_append_replicate, Nat.add_mul, Nat.one_mul, Nat.add_comm]

theorem splice_full {α : Type} (L D : List α) (h : L.length = D.length) : splice L 0 D = D := by
  simp [splice, h]

/-! ## A disk as data -/

structure Dk where
  kept : List (List UInt8)
  pend : List (Nat × List UInt8)
  down : Bool
  armed : Bool
  left : Int
  done : Int

/-- A text with noughts behind, up to a sector. -/
def pad (s : List UInt8) : List UInt8 := s ++ List.replicate (64 - s.length) 0

theorem length_pad {s : List UInt8} (h : s.length ≤ 64) : (pad s).length = 64 := by simp [pad]; omega

structure Dk.Ok (σ : Dk) : Prop where
  pos : 0 < σ.kept.length
  most : σ.kept.length ≤ 65536
  full : ∀ b ∈ σ.kept, b.length = 64
  pend : ∀ p ∈ σ.pend, p.1 < σ.kept.length ∧ p.2.length = 64
  left0 : 0 ≤ σ.left
  left1 : σ.left ≤ 9223372036854775807

def Dk.new (n : Nat) : Dk := { kept := List.replicate n (List.replicate 64 0), pend := [], down := false, armed := false, left := 0, done := 0 }

theorem Dk.new_ok {n : Nat} (h0 : 0 < n) (h1 : n ≤ 65536) : (Dk.new n).Ok :=
  ⟨by simpa [Dk.new], by simpa [Dk.new], by simp [Dk.new], by simp [Dk.new], by simp [Dk.new], by simp [Dk.new]⟩

def Dk.has (σ : Dk) (i : Int) : Bool := decide (0 ≤ i) && decide (i < (σ.kept.length : Int))

/-- What a sector has: its last pending write, or what was kept. -/
def Dk.look (σ : Dk) (i : Nat) : List UInt8 := σ.pend.foldl (fun acc p => if p.1 = i then p.2 else acc) (σ.kept.getD i [])

/-- An error of up: 10 without power. -/
def Dk.up (σ : Dk) : Int := if σ.down then 10 else 0

/-- Read: the text, the error. -/
def Dk.read (σ : Dk) (i : Int) : List UInt8 × Int := if σ.down then ([], 10) else if σ.has i then (σ.look i.toNat, 0) else ([], 2)

/-- Counting a write or a flush. -/
def Dk.does (σ : Dk) : Int × Dk :=
  if σ.armed && σ.left == 0 then (10, { σ with down := true })
  else (0, { σ with left := if σ.armed then σ.left - 1 else σ.left, done := wrap64 (σ.done + 1) })

def Dk.put (σ : Dk) (i : Nat) (s : List UInt8) : Dk := { σ with pend := σ.pend ++ [(i, pad s)] }

def Dk.write (σ : Dk) (i : Int) (s : List UInt8) : Int × Dk :=
  if σ.down then (10, σ) else if σ.has i then (if s.length > 64 then (3, σ) else if σ.does.1 = 0 then (0, σ.does.2.put i.toNat s) else (10, σ.does.2)) else (2, σ)

def keepAll (kept : List (List UInt8)) (pend : List (Nat × List UInt8)) : List (List UInt8) := pend.foldl (fun k p => k.set p.1 p.2) kept

def Dk.settle (σ : Dk) : Dk := { σ with kept := keepAll σ.kept σ.pend, pend := [] }

def Dk.flush (σ : Dk) : Int × Dk := if σ.down then (10, σ) else if σ.does.1 = 0 then (0, σ.does.2.settle) else (10, σ.does.2)

def Dk.arm (σ : Dk) (n : Int) : Int × Dk := if σ.down then (10, σ) else (0, { σ with armed := decide (0 ≤ n), left := max n 0 })

def Dk.off (σ : Dk) : Int × Dk := if σ.down then (10, σ) else (0, { σ with down := true })

/-- Those of the pending writes that 'keep' marks, from place i on. -/
def marked (keep : List Bool) : Nat → List (Nat × List UInt8) → List (Nat × List UInt8)
  | _, [] => []
  | i, p :: ps => if keep.getD i false then p :: marked keep (i + 1) ps else marked keep (i + 1) ps

def Dk.on (σ : Dk) (keep : List Bool) : Int × Dk :=
  if σ.down then (0, { σ with kept := keepAll σ.kept (marked keep 0 σ.pend), pend := [], down := false, armed := false, left := 0 }) else (9, σ)

theorem keepAll_length (pend : List (Nat × List UInt8)) : ∀ kept, (keepAll kept pend).length = kept.length := by
  induction pend with
  | nil => intro kept; rfl
  | cons p ps ih => intro kept; simp only [keepAll, List.foldl_cons]; have := ih (kept.set p.1 p.2); simp only [keepAll] at this; rw [this]; simp

theorem keepAll_full (pend : List (Nat × List UInt8)) : ∀ kept, (∀ b ∈ kept, b.length = 64) → (∀ p ∈ pend, p.2.length = 64) → ∀ b ∈ keepAll kept pend, b.length = 64 := by
  induction pend with
  | nil => intro kept h _; exact h
  | cons p ps ih =>
    intro kept h hp
    simp only [keepAll, List.foldl_cons]
    exact ih (kept.set p.1 p.2) (fun b hb => by
      rcases List.mem_or_eq_of_mem_set hb with h1 | h1
      · exact h b h1
      · rw [h1]; exact hp p (by simp)) (fun q hq => hp q (by simp [hq]))

theorem keepAll_snoc (kept : List (List UInt8)) (ps : List (Nat × List UInt8)) (p : Nat × List UInt8) : keepAll kept (ps ++ [p]) = (keepAll kept ps).set p.1 p.2 := by simp [keepAll]

theorem marked_sub (keep : List Bool) : ∀ (ps : List (Nat × List UInt8)) (i : Nat) (p : Nat × List UInt8), p ∈ marked keep i ps → p ∈ ps
  | [], _, _, h => by simp [marked] at h
  | q :: ps, i, p, h => by
    unfold marked at h
    split at h
    · rcases List.mem_cons.1 h with h1 | h1
      · simp [h1]
      · exact List.mem_cons_of_mem _ (marked_sub keep ps (i + 1) p h1)
    · exact List.mem_cons_of_mem _ (marked_sub keep ps (i + 1) p h)

theorem marked_snoc (keep : List Bool) : ∀ (ps : List (Nat × List UInt8)) (i : Nat) (p : Nat × List UInt8), marked keep i (ps ++ [p]) = marked keep i ps ++ (if keep.getD (i + ps.length) false then [p] else [])
  | [], i, p => by simp [marked]
  | q :: ps, i, p => by
    have ih := marked_snoc keep ps (i + 1) p
    rw [show i + 1 + ps.length = i + (q :: ps).length by simp; omega] at ih
    simp only [List.cons_append, marked, ih]
    split <;> simp

theorem Dk.does_ok {σ : Dk} (h : σ.Ok) : σ.does.2.Ok := by
  unfold Dk.does
  split
  · exact ⟨h.pos, h.most, h.full, h.pend, h.left0, h.left1⟩
  · rename_i hc
    have h0 := h.left0
    have h1 := h.left1
    refine ⟨h.pos, h.most, h.full, h.pend, ?_, ?_⟩ <;> simp only [] <;> split <;> simp_all <;> omega

theorem Dk.does_kept (σ : Dk) : σ.does.2.kept = σ.kept ∧ σ.does.2.pend = σ.pend := by unfold Dk.does; split <;> exact ⟨rfl, rfl⟩

theorem Dk.has_lt {σ : Dk} {i : Int} (h : σ.has i = true) : 0 ≤ i ∧ i < (σ.kept.length : Int) := by simpa [Dk.has] using h

theorem Dk.put_ok {σ : Dk} (h : σ.Ok) {i : Nat} (hi : i < σ.kept.length) {s : List UInt8} (hs : s.length ≤ 64) : (σ.put i s).Ok :=
  ⟨h.pos, h.most, h.full, by
    intro p hp
    simp only [Dk.put, List.mem_append, List.mem_singleton] at hp
    rcases hp with hp | rfl
    · exact h.pend p hp
    · exact ⟨hi, length_pad hs⟩, h.left0, h.left1⟩

theorem Dk.write_ok {σ : Dk} (h : σ.Ok) (i : Int) (s : List UInt8) : (σ.write i s).2.Ok := by
  unfold Dk.write
  split
  · exact h
  split
  · rename_i hi
    obtain ⟨h0, h1⟩ := Dk.has_lt hi
    split
    · exact h
    split
    · exact Dk.put_ok (Dk.does_ok h) (by rw [(Dk.does_kept σ).1]; omega) (by omega)
    · exact Dk.does_ok h
  · exact h

theorem Dk.settle_ok {σ : Dk} (h : σ.Ok) : σ.settle.Ok :=
  ⟨by simpa [Dk.settle, keepAll_length] using h.pos, by simpa [Dk.settle, keepAll_length] using h.most, keepAll_full _ _ h.full (fun p hp => (h.pend p hp).2), by simp [Dk.settle], h.left0, h.left1⟩

theorem Dk.flush_ok {σ : Dk} (h : σ.Ok) : σ.flush.2.Ok := by
  unfold Dk.flush
  split
  · exact h
  split
  · exact Dk.settle_ok (Dk.does_ok h)
  · exact Dk.does_ok h

theorem Dk.arm_ok {σ : Dk} (h : σ.Ok) {n : Int} (hn : n ≤ 9223372036854775807) : (σ.arm n).2.Ok := by
  unfold Dk.arm
  split
  · exact h
  · exact ⟨h.pos, h.most, h.full, h.pend, by simp only []; omega, by simp only []; omega⟩

theorem Dk.off_ok {σ : Dk} (h : σ.Ok) : σ.off.2.Ok := by
  unfold Dk.off
  split
  · exact h
  · exact ⟨h.pos, h.most, h.full, h.pend, h.left0, h.left1⟩

theorem Dk.on_ok {σ : Dk} (h : σ.Ok) (keep : List Bool) : (σ.on keep).2.Ok := by
  unfold Dk.on
  split
  · exact ⟨by simpa [keepAll_length] using h.pos, by simpa [keepAll_length] using h.most,
      keepAll_full _ _ h.full (fun p hp => (h.pend p (marked_sub keep _ _ _ hp)).2), by simp, by simp, by simp⟩
  · exact h

theorem Dk.look_length {σ : Dk} (h : σ.Ok) {i : Nat} (hi : i < σ.kept.length) : (σ.look i).length = 64 := by
  unfold Dk.look
  have key : ∀ (ps : List (Nat × List UInt8)) (acc : List UInt8), acc.length = 64 → (∀ p ∈ ps, p.2.length = 64) → (ps.foldl (fun acc p => if p.1 = i then p.2 else acc) acc).length = 64 := by
    intro ps
    induction ps with
    | nil => intro acc ha _; exact ha
    | cons p ps ih =>
      intro acc ha hp
      simp only [List.foldl_cons]
      apply ih
      · split
        · exact hp p (by simp)
        · exact ha
      · exact fun q hq => hp q (by simp [hq])
  refine key _ _ ?_ (fun p hp => (h.pend p hp).2)
  rw [List.getD_eq_getElem?_getD, List.getElem?_eq_getElem hi]
  exact h.full _ (List.getElem_mem hi)

/-! ## A disk in memory -/

def blockCells (b : List UInt8) : List Value := b.map byteV
def writeCells (p : Nat × List UInt8) : List Value := .int .i64 (p.1 : Int) :: p.2.map byteV
def keptCells (kept : List (List UInt8)) : List Value := kept.flatMap blockCells
def pendCells (pend : List (Nat × List UInt8)) : List Value := pend.flatMap writeCells

/-- The struct's own cells. -/
def diskCells (kb : Nat) (pv : Value) (σ : Dk) : List Value :=
  [.slice (some ⟨kb, 0, none⟩) σ.kept.length σ.kept.length, pv, .bool σ.down, .bool σ.armed, .int .i64 σ.left, .int .i64 σ.done]

/-- Disk d, the blocks fp its own, is σ. -/
def DiskAt (w : World) (d : Nat) (fp : List Nat) (σ : Dk) : Prop :=
  ∃ kb pv, fp = d :: kb :: fpv pv ∧ d ≠ kb ∧ d ∉ fpv pv ∧ kb ∉ fpv pv ∧ At w d (diskCells kb pv σ) 88 ∧ At w kb (keptCells σ.kept) 111 ∧
    Sl w 113 65 pv σ.pend.length (pendCells σ.pend) ∧ σ.Ok

theorem DiskAt.ok {w : World} {d : Nat} {fp : List Nat} {σ : Dk} (h : DiskAt w d fp σ) : σ.Ok := by
  obtain ⟨_, _, _, _, _, _, _, _, _, h⟩ := h; exact h

theorem DiskAt.lt {w : World} {d : Nat} {fp : List Nat} {σ : Dk} (h : DiskAt w d fp σ) : ∀ k ∈ fp, k < w.heap.size := by
  obtain ⟨kb, pv, rfl, _, _, _, hd, hk, hs, _⟩ := h
  intro k hm
  simp only [List.mem_cons] at hm
  rcases hm with rfl | rfl | hm
  · exact hd.lt
  · exact hk.lt
  · exact hs.lt k hm

theorem DiskAt.keep {w w' : World} {d : Nat} {fp : List Nat} {σ : Dk} (h : DiskAt w d fp σ) (hk : ∀ k ∈ fp, w'.heap[k]? = w.heap[k]?) : DiskAt w' d fp σ := by
  obtain ⟨kb, pv, rfl, h1, h2, h3, hd, hkb, hs, ok⟩ := h
  exact ⟨kb, pv, rfl, h1, h2, h3, hd.keep (hk _ (by simp)), hkb.keep (hk _ (by simp)), hs.keep (fun k hm => hk k (by simp [hm])), ok⟩

theorem DiskAt.pres {w w' : World} {fq : List Nat} {d : Nat} {fp : List Nat} {σ : Dk} (h : DiskAt w d fp σ) (hp : Pres fq w w') (hn : ∀ k ∈ fp, k ∉ fq) : DiskAt w' d fp σ :=
  h.keep fun k hk => hp.block k (h.lt k hk) (hn k hk)

/-- A call that turned disk d (blocks fp) into σ'. -/
def DiskStep (w : World) (d : Nat) (fp : List Nat) (σ' : Dk) (w' : World) : Prop :=
  ∃ fp', DiskAt w' d fp' σ' ∧ Pres fp w w' ∧ ∀ k ∈ fp', k ∈ fp ∨ w.heap.size ≤ k

theorem DiskStep.refl {w : World} {d : Nat} {fp : List Nat} {σ : Dk} (h : DiskAt w d fp σ) : DiskStep w d fp σ w := ⟨fp, h, Pres.refl _ _, fun _ hk => .inl hk⟩

theorem length_blockCells (b : List UInt8) : (blockCells b).length = b.length := by simp [blockCells]
theorem length_writeCells (p : Nat × List UInt8) : (writeCells p).length = p.2.length + 1 := by simp [writeCells]
theorem Dk.Ok.blocks {σ : Dk} (h : σ.Ok) : ∀ x ∈ σ.kept, (blockCells x).length = 64 := fun x hx => by rw [length_blockCells]; exact h.full x hx
theorem Dk.Ok.writes {σ : Dk} (h : σ.Ok) : ∀ x ∈ σ.pend, (writeCells x).length = 65 := fun x hx => by rw [length_writeCells, (h.pend x hx).2]

theorem writes_one (p : Nat × List UInt8) : ∀ v ∈ writeCells p, v.oneCell' = true := by
  intro v hv
  simp only [writeCells, List.mem_cons] at hv
  rcases hv with rfl | hv
  · rfl
  · exact bytes_one v hv

end Go.Proofs.YtnffnpndnaofhaaGreatDoor

/- A log of records as data (Lg), and what each of its methods makes of it and of the disk below. Plain Lean, no Go. -/
namespace Go.Proofs.YtnffnpndnaofhaaGreatDoor

/-! ## Numbers and sums -/

/-- A number in k bytes, the lowest first. -/
def numLE (n k : Nat) : List UInt8 := (List.range k).map fun i => UInt8.ofNat (n / 2 ^ (8 * i))

def valLE : List UInt8 → Nat
  | [] => 0
  | b :: l => b.toNat + 256 * valLE l

theorem length_numLE (n k : Nat) : (numLE n k).length = k := by simp [numLE]

theorem valLE_lt : ∀ (l : List UInt8), valLE l < 256 ^ l.length
  | [] => by simp [valLE]
  | b :: l => by
    have h := valLE_lt l
    have hb : b.toNat < 256 := b.toNat_lt
    simp only [valLE, List.length_cons, Nat.pow_succ]
    omega

theorem numLE_zero (n : Nat) : numLE n 0 = [] := rfl

theorem numLE_succ (n k : Nat) : numLE n (k + 1) = UInt8.ofNat n :: numLE (n / 256) k := by
  simp only [numLE, List.range_succ_eq_map, List.map_cons, List.map_map, Nat.mul_zero, Nat.pow_zero, Nat.div_one]
  congr 1
  apply List.map_congr_left
  intro i _
  simp only [Function.comp]
  rw [Nat.div_div_eq_div_mul]
  congr 2
  rw [Nat.mul_succ, Nat.pow_add, Nat.mul_comm]

theorem valLE_numLE (k : Nat) : ∀ n, valLE (numLE n k) = n % 256 ^ k := by
  induction k with
  | zero => intro n; simp [numLE_zero, valLE, Nat.mod_one]
  | succ k ih =>
    intro n
    rw [numLE_succ, valLE, ih, Nat.pow_succ, Nat.mul_comm (256 ^ k) 256, Nat.mod_mul]
    simp

theorem numLE_valLE : ∀ (l : List UInt8), numLE (valLE l) l.length = l
  | [] => rfl
  | b :: l => by
    have hb : b.toNat < 256 := b.toNat_lt
    rw [List.length_cons, numLE_succ, valLE]
    have h1 : (b.toNat + 256 * valLE l) / 256 = valLE l := by omega
    have h2 : UInt8.ofNat (b.toNat + 256 * valLE l) = b := by
      apply UInt8.toNat_inj.1
      rw [UInt8.toNat_ofNat']
      omega
    rw [h1, h2, numLE_valLE l]

/-- What four bits do to the register. -/
def half : List Nat := [0x00000000, 0x105ec76f, 0x20bd8ede, 0x30e349b1, 0x417b1dbc, 0x5125dad3, 0x61c69362, 0x7198540d, 0x82f63b78, 0x92a8fc17, 0xa24bb5a6, 0xb21572c9, 0xc38d26c4, 0xd3d3e1ab, 0xe330a81a, 0xf36e6f75]

def crcHalf (r : Nat) : Nat := r / 16 ^^^ half.getD (r % 16) 0
def crcStep (r : Nat) (x : UInt8) : Nat := crcHalf (crcHalf (r ^^^ x.toNat))

/-- Castagnoli's sum. -/
def crc (l : List UInt8) : Nat := l.foldl crcStep 0xffffffff ^^^ 0xffffffff

theorem half_lt (i : Nat) : half.getD i 0 < 2 ^ 32 := by
  rcases Nat.lt_or_ge i 16 with h | h
  · have : ∀ j : Fin 16, half.getD j.val 0 < 2 ^ 32 := by decide
    exact this ⟨i, h⟩
  · rw [List.getD_eq_getElem?_getD, List.getElem?_eq_none (by simpa [half] using h)]
    decide

theorem crcHalf_lt {r : Nat} (h : r < 2 ^ 32) : crcHalf r < 2 ^ 32 := Nat.xor_lt_two_pow (by omega) (half_lt _)

theorem crcStep_lt {r : Nat} (h : r < 2 ^ 32) (x : UInt8) : crcStep r x < 2 ^ 32 :=
  crcHalf_lt (crcHalf_lt (Nat.xor_lt_two_pow h (by have := x.toNat_lt; omega)))

theorem crcFold_lt : ∀ (l : List UInt8) {r : Nat}, r < 2 ^ 32 → l.foldl crcStep r < 2 ^ 32
  | [], _, h => h
  | x :: l, _, h => crcFold_lt l (crcStep_lt h x)

theorem crc_lt (l : List UInt8) : crc l < 2 ^ 32 := Nat.xor_lt_two_pow (crcFold_lt l (by decide)) (by decide)

def sum4 (s : List UInt8) : List UInt8 := numLE (crc s) 4

theorem length_sum4 (s : List UInt8) : (sum4 s).length = 4 := length_numLE _ _

/-- A head's first 16 bytes. -/
def headTop (epoch length : Nat) : List UInt8 := [65, 81, 87, 76] ++ numLE epoch 8 ++ numLE length 4

/-- A head's sector. -/
def headB (epoch length : Nat) : List UInt8 := headTop epoch length ++ sum4 (headTop epoch length) ++ List.replicate 44 0

theorem length_headB (e l : Nat) : (headB e l).length = 64 := by simp [headB, headTop, length_numLE, length_sum4]

/-- A record's frame. -/
def frameB (r : List UInt8) : List UInt8 := numLE r.length 4 ++ sum4 (numLE r.length 4 ++ r) ++ r

theorem length_frameB (r : List UInt8) : (frameB r).length = 8 + r.length := by simp [frameB, length_numLE, length_sum4]; omega

/-- The first frame of bytes: its record, and how many bytes that were. -/
def unframeB (b : List UInt8) : Option (List UInt8 × Nat) :=
  if b.length < 8 then none
  else if valLE (b.take 4) > 65536 ∨ valLE (b.take 4) > b.length - 8 then none
  else if sum4 (b.take 4 ++ (b.drop 8).take (valLE (b.take 4))) = (b.drop 4).take 4 then some ((b.drop 8).take (valLE (b.take 4)), 8 + valLE (b.take 4)) else none

theorem unframeB_some {b r : List UInt8} {k : Nat} (h : unframeB b = some (r, k)) : k = 8 + r.length ∧ k ≤ b.length ∧ b = frameB r ++ b.drop k ∧ r.length ≤ 65536 := by
  unfold unframeB at h
  split at h
  · cases h
  split at h
  · cases h
  split at h
  · rename_i h1 h2 h3
    simp only [Option.some.injEq, Prod.mk.injEq] at h
    obtain ⟨rfl, rfl⟩ := h
    generalize hn : valLE (b.take 4) = n at *
    have hl : ((b.drop 8).take n).length = n := by simp; omega
    have h4 : (b.take 4).length = 4 := by simp; omega
    have e4 : numLE n 4 = b.take 4 := by rw [← hn]; have := numLE_valLE (b.take 4); rwa [h4] at this
    refine ⟨by rw [hl], by omega, ?_, by omega⟩
    unfold frameB
    rw [hl, e4, h3]
    have a1 : b.take 4 ++ ((b.drop 4).take 4 ++ ((b.drop 8).take n ++ b.drop (8 + n))) = b := by
      rw [← List.drop_drop, List.take_append_drop, show (8 : Nat) = 4 + 4 from rfl, ← List.drop_drop, List.take_append_drop, List.take_append_drop]
    simp only [List.append_assoc]
    exact a1.symm
  · cases h

theorem unframeB_frame (r rest : List UInt8) (h : r.length ≤ 65536) : unframeB (frameB r ++ rest) = some (r, 8 + r.length) := by
  have h1 : (frameB r ++ rest).take 4 = numLE r.length 4 := by
    simp only [frameB, List.append_assoc]
    exact List.take_left' (length_numLE _ _)
  have h2 : (frameB r ++ rest).drop 4 = sum4 (numLE r.length 4 ++ r) ++ (r ++ rest) := by
    simp only [frameB, List.append_assoc]
    exact List.drop_left' (length_numLE _ _)
  have h3 : (frameB r ++ rest).drop 8 = r ++ rest := by
    rw [show (8 : Nat) = 4 + 4 from rfl, ← List.drop_drop, h2]
    exact List.drop_left' (length_sum4 _)
  have h4 : valLE (numLE r.length 4) = r.length := by rw [valLE_numLE]; exact Nat.mod_eq_of_lt (by omega)
  have h5 : (frameB r ++ rest).length = 8 + r.length + rest.length := by rw [List.length_append, length_frameB]
  unfold unframeB
  rw [h1, h4, h2, h3, h5, if_neg (by omega), if_neg (by omega), List.take_left' (length_sum4 _), List.take_left' rfl, if_pos rfl]

/-- The records of which these bytes are the frames. -/
def splitN : Nat → List UInt8 → Option (List (List UInt8))
  | 0, b => if b = [] then some [] else none
  | f + 1, b => if b = [] then some [] else match unframeB b with
    | none => none
    | some (r, k) => (splitN f (b.drop k)).map (r :: ·)

def splitB (b : List UInt8) : Option (List (List UInt8)) := splitN b.length b

def frames (l : List (List UInt8)) : List UInt8 := l.flatMap frameB

theorem splitN_frames : ∀ (l : List (List UInt8)) (f : Nat), (∀ r ∈ l, r.length ≤ 65536) → l.length ≤ f → splitN f (frames l) = some l
  | [], 0, _, _ => rfl
  | [], f + 1, _, _ => rfl
  | r :: l, 0, _, h => by simp at h
  | r :: l, f + 1, hr, h => by
    have hne : frames (r :: l) ≠ [] := by
      intro e
      have : (frames (r :: l)).length = 0 := by rw [e]; rfl
      simp [frames, length_frameB] at this
    unfold splitN
    rw [if_neg hne, show frames (r :: l) = frameB r ++ frames l from rfl, unframeB_frame r _ (hr r (by simp))]
    simp only
    rw [List.drop_left' (length_frameB r), splitN_frames l f (fun x hx => hr x (by simp [hx])) (by simpa using h)]
    rfl

theorem frames_length_ge : ∀ (l : List (List UInt8)), l.length ≤ (frames l).length
  | [] => by simp [frames]
  | r :: l => by
    have := frames_length_ge l
    simp only [frames, List.flatMap_cons, List.length_append, length_frameB, List.length_cons] at this ⊢
    omega

theorem splitB_frames {l : List (List UInt8)} (h : ∀ r ∈ l, r.length ≤ 65536) : splitB (frames l) = some l := splitN_frames l _ h (frames_length_ge l)

theorem frames_append (a b : List (List UInt8)) : frames (a ++ b) = frames a ++ frames b := by simp [frames]

/-! ## A log -/

structure Lg where
  base : Nat
  n : Nat
  epoch : Nat
  bytes : List UInt8
  recs : List (List UInt8)
  waiting : List (List UInt8)
  lost : Bool

/-- The bytes of cnt sectors behind a place. -/
def sectorsB (σ : Dk) (at' cnt : Nat) : List UInt8 := (List.range cnt).flatMap fun i => σ.look (at' + i)

theorem sectorsB_succ (σ : Dk) (a c : Nat) : sectorsB σ a (c + 1) = sectorsB σ a c ++ σ.look (a + c) := by simp [sectorsB, List.range_succ]

/-- Open: the error, the log. -/
def openLg (σ : Dk) (base n : Int) : Int × Option Lg :=
  if σ.down then (10, none)
  else if n < 2 ∨ base < 0 ∨ base > σ.kept.length ∨ n > σ.kept.length - base then (2, none)
  else
    let s := σ.look base.toNat
    if s = List.replicate 64 0 then (0, some ⟨base.toNat, n.toNat, 0, [], [], [], false⟩)
    else
      let epoch := valLE ((s.drop 4).take 8)
      let length := valLE ((s.drop 12).take 4)
      if epoch > 2 ^ 62 ∨ length > 64 * (n.toNat - 1) ∨ s ≠ headB epoch length then (5, none)
      else
        let bytes := (sectorsB σ (base.toNat + 1) (n.toNat - 1)).take length
        match splitB bytes with
        | none => (6, none)
        | some recs => (0, some ⟨base.toNat, n.toNat, epoch, bytes, recs, [], false⟩)

def Lg.up (l : Lg) : Int := if l.lost then 10 else 0

def Lg.room (l : Lg) : Int := 64 * ((l.n : Int) - 1) - (l.bytes.length : Int) - ((l.waiting.map fun r => 8 + r.length).sum : Nat)

def Lg.add (l : Lg) (r : List UInt8) : Int × Lg :=
  if l.lost then (10, l) else if r.length > 65536 then (3, l) else if (8 + r.length : Int) > l.room then (7, l) else (0, { l with waiting := l.waiting ++ [r] })

def Lg.drop (l : Lg) : Lg := { l with waiting := [] }

/-- Sector by sector, from the k-th one of 'all' on. -/
def layN (base : Nat) (all : List UInt8) : Nat → Nat → Dk → Int × Dk
  | 0, _, σ => (0, σ)
  | f + 1, k, σ => if 64 * k < all.length then (if (σ.write ((base + 1 + k : Nat) : Int) ((all.drop (64 * k)).take 64)).1 = 0 then layN base all f (k + 1) (σ.write ((base + 1 + k : Nat) : Int) ((all.drop (64 * k)).take 64)).2 else σ.write ((base + 1 + k : Nat) : Int) ((all.drop (64 * k)).take 64)) else (0, σ)

def layB (base : Nat) (all : List UInt8) (k : Nat) (σ : Dk) : Int × Dk :=
  let r := layN base all (all.length / 64 + 1) k σ
  if r.1 = 0 then r.2.flush else r

def writeHead (base epoch length : Nat) (σ : Dk) : Int × Dk :=
  let r := σ.write (base : Int) (headB epoch length)
  if r.1 = 0 then r.2.flush else r

def Lg.sync (l : Lg) (σ : Dk) : Int × Lg × Dk :=
  if l.lost then (10, l, σ) else if l.waiting = [] then (0, l, σ) else
    let all := l.bytes ++ frames l.waiting
    let r := layB l.base all (l.bytes.length / 64) σ
    if r.1 = 0 then
      let q := writeHead l.base l.epoch all.length r.2
      if q.1 = 0 then (0, { l with bytes := all, recs := l.recs ++ l.waiting, waiting := [] }, q.2) else (q.1, { l with lost := true }, q.2)
    else (r.1, { l with lost := true }, r.2)

def Lg.reset (l : Lg) (σ : Dk) : Int × Lg × Dk :=
  if l.lost then (10, l, σ) else if l.waiting ≠ [] then (9, l, σ) else if l.epoch = 2 ^ 62 then (7, l, σ) else
    let q := writeHead l.base (l.epoch + 1) 0 σ
    if q.1 = 0 then (0, { l with epoch := l.epoch + 1, bytes := [], recs := [] }, q.2) else (q.1, { l with lost := true }, q.2)

/-- What a log's data always keep. -/
structure Lg.Ok (l : Lg) : Prop where
  two : 2 ≤ l.n
  most : l.n ≤ 65536
  base : l.base ≤ 65536
  epoch : l.epoch ≤ 2 ^ 62
  fits : l.bytes.length + (frames l.waiting).length ≤ 64 * (l.n - 1)
  form : l.bytes = frames l.recs
  recs : ∀ r ∈ l.recs, r.length ≤ 65536
  waits : ∀ r ∈ l.waiting, r.length ≤ 65536

theorem frames_length (l : List (List UInt8)) : (frames l).length = (l.map fun r => 8 + r.length).sum := by
  induction l with
  | nil => rfl
  | cons r l ih =>
    simp only [frames, List.flatMap_cons, List.length_append, length_frameB, List.map_cons, List.sum_cons] at ih ⊢
    rw [ih]

theorem frames_eight (l : List (List UInt8)) : 8 * l.length ≤ (frames l).length := by
  induction l with
  | nil => simp
  | cons r l ih =>
    simp only [frames, List.flatMap_cons, List.length_append, length_frameB, List.length_cons] at ih ⊢
    omega

theorem Lg.room_eq {l : Lg} (ok : l.Ok) : l.room = ((64 * (l.n - 1) - l.bytes.length - (frames l.waiting).length : Nat) : Int) := by
  have h1 := ok.fits
  have h2 := ok.two
  unfold Lg.room
  rw [← frames_length]
  omega

theorem Lg.add_ok {l : Lg} (ok : l.Ok) (r : List UInt8) : (l.add r).2.Ok := by
  have hr := Lg.room_eq ok
  have hf := ok.fits
  unfold Lg.add
  split
  · exact ok
  split
  · exact ok
  split
  · exact ok
  · rename_i h1 h2 h3
    rw [hr] at h3
    refine ⟨ok.two, ok.most, ok.base, ok.epoch, ?_, ok.form, ok.recs, ?_⟩
    · show l.bytes.length + (frames (l.waiting ++ [r])).length ≤ _
      rw [frames_append, List.length_append]
      have : (frames [r]).length = 8 + r.length := by simp [frames, length_frameB]
      simp only []
      omega
    · intro x hx
      simp only [List.mem_append, List.mem_singleton] at hx
      rcases hx with hx | rfl
      · exact ok.waits x hx
      · omega

theorem Lg.drop_ok {l : Lg} (ok : l.Ok) : l.drop.Ok :=
  ⟨ok.two, ok.most, ok.base, ok.epoch, by have := ok.fits; simp only [Lg.drop, frames, List.flatMap_nil, List.length_nil]; omega, ok.form, ok.recs, by simp [Lg.drop]⟩

theorem Lg.lost_ok {l : Lg} (ok : l.Ok) : Lg.Ok { l with lost := true } := ⟨ok.two, ok.most, ok.base, ok.epoch, ok.fits, ok.form, ok.recs, ok.waits⟩

theorem Lg.sync_ok {l : Lg} (ok : l.Ok) (σ : Dk) : (l.sync σ).2.1.Ok := by
  unfold Lg.sync
  split
  · exact ok
  split
  · exact ok
  · simp only []
    split
    · split
      · refine ⟨ok.two, ok.most, ok.base, ok.epoch, ?_, ?_, ?_, by simp⟩
        · simp only [List.length_append, frames, List.flatMap_nil, List.length_nil]
          exact ok.fits
        · simp only [frames_append, ok.form]
        · intro r hr
          rcases List.mem_append.1 hr with h | h
          · exact ok.recs r h
          · exact ok.waits r h
      · exact Lg.lost_ok ok
    · exact Lg.lost_ok ok

theorem Lg.reset_ok {l : Lg} (ok : l.Ok) (σ : Dk) : (l.reset σ).2.1.Ok := by
  unfold Lg.reset
  split
  · exact ok
  split
  · exact ok
  split
  · exact ok
  · rename_i h1 h2 h3
    simp only []
    split
    · have hw : l.waiting = [] := by simpa using h2
      refine ⟨ok.two, ok.most, ok.base, by have := ok.epoch; simp only []; omega, by simp [hw, frames], by simp [frames], by simp, ok.waits⟩
    · exact Lg.lost_ok ok

end Go.Proofs.YtnffnpndnaofhaaGreatDoor

/- Castagnoli's sum: Update and Sum come to crc; the table is as the program's text lays it. -/
namespace Go.Proofs.YtnffnpndnaofhaaGreatDoor
open Go.RowKit
set_option maxRecDepth 20000

/-- The table as it is laid. -/
def HalfAt (w : World) : Prop := ∀ i, i < 16 → w.cell? ⟨0, i, none⟩ = some (.int .u32 ((half.getD i 0 : Nat) : Int))

theorem HalfAt.pres {w w' : World} (h : HalfAt w) (hp : Pres [] w w') : HalfAt w' := fun i hi => hp.cell (h i hi) (by simp)

theorem ofInt_nat32 {a : Nat} (h : a < 2 ^ 32) : (BitVec.ofInt 32 (a : Int)).toNat = a := by
  rw [BitVec.toNat_ofInt]
  omega

theorem bits_xor32 {a b : Nat} (ha : a < 2 ^ 32) (hb : b < 2 ^ 32) : bits .xor .u32 (a : Int) (b : Int) = ((a ^^^ b : Nat) : Int) := by
  have h := Nat.xor_lt_two_pow ha hb
  have e : (BitVec.ofInt 32 (a : Int) ^^^ BitVec.ofInt 32 (b : Int)).toNat = a ^^^ b := by rw [BitVec.toNat_xor, ofInt_nat32 ha, ofInt_nat32 hb]
  change IntKind.u32.wrap (((BitVec.ofInt 32 (a : Int)) ^^^ (BitVec.ofInt 32 (b : Int))).toNat : Int) = _
  rw [e, IntKind.wrap_u32]
  omega

theorem bits_and15 {a : Nat} (ha : a < 2 ^ 32) : bits .and .u32 (a : Int) 15 = ((a % 16 : Nat) : Int) := by
  have h15 : BitVec.ofInt 32 15 = BitVec.ofNat 32 15 := by decide
  have h2 : a &&& 15 = a % 16 := Nat.and_two_pow_sub_one_eq_mod a 4
  have e : (BitVec.ofInt 32 (a : Int) &&& BitVec.ofInt 32 15).toNat = a % 16 := by rw [BitVec.toNat_and, ofInt_nat32 ha, h15]; exact h2
  change IntKind.u32.wrap (((BitVec.ofInt 32 (a : Int)) &&& (BitVec.ofInt 32 15)).toNat : Int) = _
  rw [e, IntKind.wrap_u32]
  omega

theorem crc_zero : bits .xor .u32 IntKind.u32.max 0 = ((0xffffffff : Nat) : Int) := by decide +kernel
theorem crc_last {r : Nat} (h : r < 2 ^ 32) : bits .xor .u32 IntKind.u32.max (r : Int) = ((r ^^^ 0xffffffff : Nat) : Int) := by
  have := bits_xor32 (a := 0xffffffff) (b := r) (by decide) h
  rw [Nat.xor_comm]
  exact this

set_option maxRecDepth 10000 in
theorem crc_update (w : World) (hh : HalfAt w) (v : Value) (bs : List UInt8) (hv : Reads w v (bs.map byteV)) :
    Calls Tryz.prog 120 #[.int .u32 0, v] w fun e w' => e = .returned (.int .u32 ((crc bs : Nat) : Int)) ∧ w = w' := by
  obtain ⟨ao, cap, rfl, h1, h2, hr⟩ := hv
  rw [List.length_map] at h1 ⊢
  have hmax : (bs.length : Int) ≤ 9223372036854775807 := by simp only [maxLen] at h2; omega
  have hz := crc_zero
  have HH := hid (And.intro hh hr)
  clear hh hr
  go_enter Tryz.func120, Tryz.ntmps120
  go_wp2
  clear hz
  go_loop [5, 12] (fun rv iv => ∃ k : Nat, k ≤ bs.length ∧ iv = .int .i64 (k : Int) ∧ rv = .int .u32 (((bs.take k).foldl crcStep 0xffffffff : Nat) : Int)) (fun _ iv => bs.length - (intOf iv).toNat)
  case atStart => exact ⟨0, Nat.zero_le _, rfl, rfl⟩
  case round =>
    obtain ⟨k, hk, rfl, rfl⟩ := hrel
    have hlt32 := crcFold_lt (bs.take k) (r := 0xffffffff) (by decide)
    obtain ⟨r, hrd⟩ : ∃ r, (bs.take k).foldl crcStep 0xffffffff = r := ⟨_, rfl⟩
    rw [hrd] at hlt32 ⊢
    have HR := hid hrd
    clear hrd
    by_cases hlt : k < bs.length
    · have hlt' : (k : Int) < (bs.length : Int) := by omega
      obtain ⟨b, off, rfl, hc⟩ := HH.out.2 k (byteV bs[k]) (by rw [List.getElem?_map, List.getElem?_eq_getElem hlt]; rfl)
      unfold byteV at hc
      have hstep : (bs.take (k + 1)).foldl crcStep 0xffffffff = crcStep r bs[k] := by
        rw [List.take_succ_eq_append_getElem hlt, List.foldl_append, HR.out]; rfl
      have HS := hid hstep
      have hx : bs[k].toNat < 256 := bs[k].toNat_lt
      obtain ⟨x, hxd⟩ : ∃ x, Hid (bs[k].toNat = x) := ⟨_, hid rfl⟩
      rw [hxd.out] at hc hx
      have hx32 : (x : Int) % 4294967296 = (x : Int) := by omega
      obtain ⟨r1, h1d⟩ : ∃ y, Hid (r ^^^ x = y) := ⟨_, hid rfl⟩
      have e1 : bits .xor .u32 (r : Int) (x : Int) = (r1 : Int) := by rw [← h1d.out]; exact bits_xor32 hlt32 (by omega)
      have l1 : r1 < 2 ^ 32 := by rw [← h1d.out]; exact Nat.xor_lt_two_pow hlt32 (by omega)
      obtain ⟨d1, hd1⟩ : ∃ y, Hid (r1 % 16 = y) := ⟨_, hid rfl⟩
      have e2 : bits .and .u32 (r1 : Int) 15 = (d1 : Int) := by rw [← hd1.out]; exact bits_and15 l1
      have ld1 : d1 < 16 := by rw [← hd1.out]; omega
      have c1 := HH.out.1 d1 ld1
      obtain ⟨r2, h2d⟩ : ∃ y, Hid (crcHalf r1 = y) := ⟨_, hid rfl⟩
      obtain ⟨t1, ht1⟩ : ∃ y, Hid (half.getD d1 0 = y) := ⟨_, hid rfl⟩
      rw [ht1.out] at c1
      obtain ⟨q1, hq1⟩ : ∃ y, Hid (r1 / 16 = y) := ⟨_, hid rfl⟩
      have eq1 : (r1 : Int) / 16 = (q1 : Int) := by rw [← hq1.out]; omega
      have e3 : bits .xor .u32 (q1 : Int) (t1 : Int) = (r2 : Int) := by
        rw [← h2d.out, crcHalf, hd1.out, ht1.out, hq1.out]
        exact bits_xor32 (by rw [← hq1.out]; omega) (by rw [← ht1.out]; exact half_lt _)
      have l2 : r2 < 2 ^ 32 := by rw [← h2d.out]; exact crcHalf_lt l1
      obtain ⟨d2, hd2⟩ : ∃ y, Hid (r2 % 16 = y) := ⟨_, hid rfl⟩
      have e4 : bits .and .u32 (r2 : Int) 15 = (d2 : Int) := by rw [← hd2.out]; exact bits_and15 l2
      have ld2 : d2 < 16 := by rw [← hd2.out]; omega
      have c2 := HH.out.1 d2 ld2
      obtain ⟨r3, h3d⟩ : ∃ y, Hid (crcHalf r2 = y) := ⟨_, hid rfl⟩
      obtain ⟨t2, ht2⟩ : ∃ y, Hid (half.getD d2 0 = y) := ⟨_, hid rfl⟩
      rw [ht2.out] at c2
      obtain ⟨q2, hq2⟩ : ∃ y, Hid (r2 / 16 = y) := ⟨_, hid rfl⟩
      have eq2 : (r2 : Int) / 16 = (q2 : Int) := by rw [← hq2.out]; omega
      have e5 : bits .xor .u32 (q2 : Int) (t2 : Int) = (r3 : Int) := by
        rw [← h3d.out, crcHalf, hd2.out, ht2.out, hq2.out]
        exact bits_xor32 (by rw [← hq2.out]; omega) (by rw [← ht2.out]; exact half_lt _)
      have ld1' : (d1 : Int) < 16 := by omega
      have ld2' : (d2 : Int) < 16 := by omega
      have HF : crcStep r bs[k] = r3 := by rw [crcStep, hxd.out, h1d.out, h2d.out, h3d.out]
      have HF := hid HF
      clear hstep l1 l2 hx hlt32
      go_wp2
      go_round
      case rel => exact ⟨k + 1, by omega, by go_num, congrArg (fun n : Nat => Value.int .u32 (n : Int)) (HS.out.trans HF.out).symm⟩
      case measure => first | (simp [intOf]; done) | (simp [intOf]; omega)
    · have hend : ¬ (k : Int) < (bs.length : Int) := by omega
      have ek : k = bs.length := by omega
      subst ek
      have hl := crc_last hlt32
      rw [List.take_length] at HR
      have HF : r ^^^ 0xffffffff = crc bs := congrArg (fun n : Nat => n ^^^ 0xffffffff) HR.out.symm
      rw [HF] at hl
      have HF := hid HF
      clear hlt32
      go_wp2
      go_ret
      exact ⟨rfl, rfl⟩

theorem crc_sum (w : World) (hh : HalfAt w) (v : Value) (bs : List UInt8) (hv : Reads w v (bs.map byteV)) :
    Calls Tryz.prog 86 #[v] w fun e w' => e = .returned (.int .u32 ((crc bs : Nat) : Int)) ∧ w = w' := by
  have hu := fun W (hW : W = w) => hW ▸ crc_update w hh v bs hv
  obtain ⟨ao, cap, rfl, -, -, -⟩ := hv
  simp only [List.length_map] at hu ⊢
  clear hh
  go_enter Tryz.func86, Tryz.ntmps86
  go_wp2_with (go_at_call 120; refine (hu _ rfl).mono ?_; rintro e w' ⟨rfl, rfl⟩)
  go_ret
  exact ⟨rfl, rfl⟩

end Go.Proofs.YtnffnpndnaofhaaGreatDoor

/- What the rows' condition on three tables gives the walks: the table of half bytes, cell by cell; and that the door's own heap meets it. -/
namespace Go.Proofs.YtnffnpndnaofhaaGreatDoor
open Go.ChangeShapes Go.WideShapes Go.ChangeAt Go.RowKit

/-- What the rows list. -/
def laidHalf : List (String × DataW Unit) := [("aquifer/castagnoli.half", Rows.laid_aquifer_castagnoli_half), ("unicode/utf8.acceptRanges", Rows.laid_unicode_utf8_acceptRanges), ("unicode/utf8.first", Rows.laid_unicode_utf8_first)]

theorem gHalf : Tryz.prog.globalNamed "aquifer/castagnoli.half" = some 0 := by kernel_rfl
theorem tHalf : (Tryz.prog.globals[0]?).map (·.type) = some 183 := by kernel_rfl

theorem laid_met (os : Os) : laidMetH Tryz.prog laidHalf ((World.laidAll Tryz.prog os laidHalf).forCall (fun _ _ => 0) ⟨#[], #[], []⟩).memory := by
  rw [MakeChecks.laidMetH_plain _ _ _ (by kernel_rfl)]
  exact laidMet_laidAll _ (by kernel_rfl) (by kernel_rfl)

theorem half_data (i : Nat) (h : i < 16) : ∃ l, Rows.laid_aquifer_castagnoli_half (H := Unit) = .agg l ∧ l.length = 16 ∧ l[i]? = some (.lit (.int .u32 ((half.getD i 0 : Nat) : Int))) := by
  refine ⟨_, rfl, rfl, ?_⟩
  match i, h with
  | 0, _ | 1, _ | 2, _ | 3, _ | 4, _ | 5, _ | 6, _ | 7, _ | 8, _ | 9, _ | 10, _ | 11, _ | 12, _ | 13, _ | 14, _ | 15, _ => rfl
  | n + 16, h => exact absurd h (by omega)

theorem of_laid {W : World} (h : laidMetH Tryz.prog laidHalf W) : HalfAt W := by
  rw [MakeChecks.laidMetH_plain _ _ _ (by kernel_rfl)] at h
  obtain ⟨ps, ⟨g0, t0, cs0, f0, p0, q0, hg0, ht0, hv0, hd0, _, _⟩, _, _⟩ := h
  obtain rfl := Option.some.inj (gHalf.symm.trans hg0)
  obtain rfl := Option.some.inj (tHalf.symm.trans ht0)
  obtain ⟨xs, m1, rfl, hx1, hlen, hn3, hel⟩ := DataW.trod_array Tryz.underlying183 hd0
  have c3 : Tryz.prog.cellsOf 134 = 1 := by kernel_rfl
  intro i hi
  obtain ⟨l, hl, -, hli⟩ := half_data i hi
  have he := hel i hi
  simp only [Prod.mk.injEq, hl, DataW.agg.injEq] at hx1
  have hxl := hx1.1
  rw [hxl, List.getElem?_map] at hli
  cases hxi : xs[i]? with
  | none => rw [hxi] at hli; cases hli
  | some x =>
    rw [hxi] at hli he
    simp only [Option.map_some, Option.some.injEq] at hli
    obtain ⟨k, e1, e2, -⟩ := DataW.trod_int Tryz.underlying134 he
    rw [e2] at hli
    cases hli
    have hcell := World.var?_cell hg0 hv0 i
    rw [hcell]
    rw [c3, Nat.mul_one] at e1
    have h1 : (cs0.toList.drop i)[0]? = some (.int .u32 ((half.getD i 0 : Nat) : Int)) := by
      cases hd : cs0.toList.drop i with
      | nil => rw [hd] at e1; simp at e1
      | cons y ys => rw [hd] at e1; simp at e1; simp [e1]
    rw [List.getElem?_drop, Nat.add_zero, Array.getElem?_toList] at h1
    exact h1

end Go.Proofs.YtnffnpndnaofhaaGreatDoor

/- An array of three ints as a row's parameter. No condition but what each lemma says. -/
namespace Go.Proofs.YtnffnpndnaofhaaGreatDoor
open Go.ChangeShapes Go.WideShapes Go.ChangeAt Go.RowKit

theorem okWide_array {P : Program} {w : World} {r : Reach} {base : Nat} {t e : TypeId} {n : Nat} {v : Value} (ht : P.underlying t = some (.array n e)) (h : Value.okWide P w r base t v) : ∃ cs, v = .agg cs ∧ cs.size = P.cellsOf t := by
  simp only [Value.okWide, ht] at h
  obtain ⟨cs, h1, h2, -⟩ := h
  exact ⟨cs, h1, h2⟩

theorem three_of {H : Type} {enc : TypeId × Value → H} {w : World} {base : Nat} {spare : Nat → Bool} {held : Bool} {fuel : Nat} {cs : Array Value} {x : DataW H × List MemPlace} (hz : cs.size = Tryz.prog.cellsOf 73)
    (h : DataW.trod enc Tryz.prog w base spare held fuel 73 cs.toList = some x) :
    ∃ t0 t1 t2 : Int, cs = #[.int .i64 t0, .int .i64 t1, .int .i64 t2] ∧ (Lit.int .i64 t1).wf = true := by
  have hz3 : cs.toList.length = 3 := by rw [Array.length_toList, hz]; kernel_rfl
  obtain ⟨l, rfl⟩ : ∃ l : List Value, cs = l.toArray := ⟨cs.toList, by simp⟩
  simp only [] at h hz3
  match l, hz3 with
  | [c0, c1, c2], _ =>
    obtain ⟨y0, y1, y2, n, -, h0, h1, h2⟩ := trod_array3 Tryz.underlying73 (by kernel_rfl) h
    obtain ⟨k0, e0, -, -⟩ := DataW.trod_int Tryz.underlying3 h0
    obtain ⟨k1, e1, -, f1⟩ := DataW.trod_int Tryz.underlying3 h1
    obtain ⟨k2, e2, -, -⟩ := DataW.trod_int Tryz.underlying3 h2
    simp only [List.cons.injEq, and_true] at e0 e1 e2
    subst e0 e1 e2
    exact ⟨k0, k1, k2, rfl, f1⟩

end Go.Proofs.YtnffnpndnaofhaaGreatDoor
