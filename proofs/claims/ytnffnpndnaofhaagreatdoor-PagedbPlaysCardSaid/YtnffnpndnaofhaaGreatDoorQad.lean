/- Parts of the proof: A log of records as data (Lg), and what each of its methods makes of it and of the disk below. Plain Lean, no Go. -/
import Derived.Test.YtnffnpndnaofhaaGreatDoorQac
import Derived.Test.YtnffnpndnaofhaaGreatDoorChecked
import Derived.Outline
import Derived.Test.YtnffnpndnaofhaaGreatDoorQab
import Derived.ProofKit
import Derived.LaidMore
import Derived.OpenShut
import Derived.Stop.Joined
import Derived.Lay
import Derived.OrdersHeld
import Derived.Tactics

/- A log of records as data (Lg), and what each of its methods makes of it and of the disk below. Plain Lean, no Go. -/
namespace Go.Proofs.YtnffnpndnaofhaaGreatDoor

/-! ## Numbers and sums -/

/-- A number in k bytes, the lowest first. -/
def numLE (n k : Nat) : List UInt8 := (List.range k).map fun i => UInt8.ofNat (n / 2 ^ (8 * i))

def valLE : List UInt8 → Nat
  | [] => 0
  | b :: l => b.toNat + 256 * valLE l

theorem length_numLE (n k : Nat) : (numLE n k).length = k := by simp [numLE]

theorem valLE_lt : ∀ (l : List UInt8), valLE l < 256 ^ l.length
  | [] => by simp [valLE]
  | b :: l => by
    have h := valLE_lt l
    have hb : b.toNat < 256 := b.toNat_lt
    simp only [valLE, List.length_cons, Nat.pow_succ]
    omega

theorem numLE_zero (n : Nat) : numLE n 0 = [] := rfl

theorem numLE_succ (n k : Nat) : numLE n (k + 1) = UInt8.ofNat n :: numLE (n / 256) k := by
  simp only [numLE, List.range_succ_eq_map, List.map_cons, List.map_map, Nat.mul_zero, Nat.pow_zero, Nat.div_one]
  congr 1
  apply List.map_congr_left
  intro i _
  simp only [Function.comp]
  rw [Nat.div_div_eq_div_mul]
  congr 2
  rw [Nat.mul_succ, Nat.pow_add, Nat.mul_comm]

theorem valLE_numLE (k : Nat) : ∀ n, valLE (numLE n k) = n % 256 ^ k := by
  induction k with
  | zero => intro n; simp [numLE_zero, valLE, Nat.mod_one]
  | succ k ih =>
    intro n
    rw [numLE_succ, valLE, ih, Nat.pow_succ, Nat.mul_comm (256 ^ k) 256, Nat.mod_mul]
    simp

theorem numLE_valLE : ∀ (l : List UInt8), numLE (valLE l) l.length = l
  | [] => rfl
  | b :: l => by
    have hb : b.toNat < 256 := b.toNat_lt
    rw [List.length_cons, numLE_succ, valLE]
    have h1 : (b.toNat + 256 * valLE l) / 256 = valLE l := by omega
    have h2 : UInt8.ofNat (b.toNat + 256 * valLE l) = b := by
      apply UInt8.toNat_inj.1
      rw [UInt8.toNat_ofNat']
      omega
    rw [h1, h2, numLE_valLE l]

/-- What four bits do to the register. -/
def half : List Nat := [0x00000000, 0x105ec76f, 0x20bd8ede, 0x30e349b1, 0x417b1dbc, 0x5125dad3, 0x61c69362, 0x7198540d, 0x82f63b78, 0x92a8fc17, 0xa24bb5a6, 0xb21572c9, 0xc38d26c4, 0xd3d3e1ab, 0xe330a81a, 0xf36e6f75]

def crcHalf (r : Nat) : Nat := r / 16 ^^^ half.getD (r % 16) 0
def crcStep (r : Nat) (x : UInt8) : Nat := crcHalf (crcHalf (r ^^^ x.toNat))

/-- Castagnoli's sum. -/
def crc (l : List UInt8) : Nat := l.foldl crcStep 0xffffffff ^^^ 0xffffffff

theorem half_lt (i : Nat) : half.getD i 0 < 2 ^ 32 := by
  rcases Nat.lt_or_ge i 16 with h | h
  · have : ∀ j : Fin 16, half.getD j.val 0 < 2 ^ 32 := by decide
    exact this ⟨i, h⟩
  · rw [List.getD_eq_getElem?_getD, List.getElem?_eq_none (by simpa [half] using h)]
    decide

theorem crcHalf_lt {r : Nat} (h : r < 2 ^ 32) : crcHalf r < 2 ^ 32 := Nat.xor_lt_two_pow (by omega) (half_lt _)

theorem crcStep_lt {r : Nat} (h : r < 2 ^ 32) (x : UInt8) : crcStep r x < 2 ^ 32 :=
  crcHalf_lt (crcHalf_lt (Nat.xor_lt_two_pow h (by have := x.toNat_lt; omega)))

theorem crcFold_lt : ∀ (l : List UInt8) {r : Nat}, r < 2 ^ 32 → l.foldl crcStep r < 2 ^ 32
  | [], _, h => h
  | x :: l, _, h => crcFold_lt l (crcStep_lt h x)

theorem crc_lt (l : List UInt8) : crc l < 2 ^ 32 := Nat.xor_lt_two_pow (crcFold_lt l (by decide)) (by decide)

def sum4 (s : List UInt8) : List UInt8 := numLE (crc s) 4

theorem length_sum4 (s : List UInt8) : (sum4 s).length = 4 := length_numLE _ _

/-- A head's first 16 bytes. -/
def headTop (epoch length : Nat) : List UInt8 := [65, 81, 87, 76] ++ numLE epoch 8 ++ numLE length 4

/-- A head's sector. -/
def headB (epoch length : Nat) : List UInt8 := headTop epoch length ++ sum4 (headTop epoch length) ++ List.replicate 44 0

theorem length_headB (e l : Nat) : (headB e l).length = 64 := by simp [headB, headTop, length_numLE, length_sum4]

/-- A record's frame. -/
def frameB (r : List UInt8) : List UInt8 := numLE r.length 4 ++ sum4 (numLE r.length 4 ++ r) ++ r

theorem length_frameB (r : List UInt8) : (frameB r).length = 8 + r.length := by simp [frameB, length_numLE, length_sum4]; omega

/-- The first frame of bytes: its record, and how many bytes that were. -/
def unframeB (b : List UInt8) : Option (List UInt8 × Nat) :=
  if b.length < 8 then none
  else if valLE (b.take 4) > 65536 ∨ valLE (b.take 4) > b.length - 8 then none
  else if sum4 (b.take 4 ++ (b.drop 8).take (valLE (b.take 4))) = (b.drop 4).take 4 then some ((b.drop 8).take (valLE (b.take 4)), 8 + valLE (b.take 4)) else none

theorem unframeB_some {b r : List UInt8} {k : Nat} (h : unframeB b = some (r, k)) : k = 8 + r.length ∧ k ≤ b.length ∧ b = frameB r ++ b.drop k ∧ r.length ≤ 65536 := by
  unfold unframeB at h
  split at h
  · cases h
  split at h
  · cases h
  split at h
  · rename_i h1 h2 h3
    simp only [Option.some.injEq, Prod.mk.injEq] at h
    obtain ⟨rfl, rfl⟩ := h
    generalize hn : valLE (b.take 4) = n at *
    have hl : ((b.drop 8).take n).length = n := by simp; omega
    have h4 : (b.take 4).length = 4 := by simp; omega
    have e4 : numLE n 4 = b.take 4 := by rw [← hn]; have := numLE_valLE (b.take 4); rwa [h4] at this
    refine ⟨by rw [hl], by omega, ?_, by omega⟩
    unfold frameB
    rw [hl, e4, h3]
    have a1 : b.take 4 ++ ((b.drop 4).take 4 ++ ((b.drop 8).take n ++ b.drop (8 + n))) = b := by
      rw [← List.drop_drop, List.take_append_drop, show (8 : Nat) = 4 + 4 from rfl, ← List.drop_drop, List.take_append_drop, List.take_append_drop]
    simp only [List.append_assoc]
    exact a1.symm
  · cases h

theorem unframeB_frame (r rest : List UInt8) (h : r.length ≤ 65536) : unframeB (frameB r ++ rest) = some (r, 8 + r.length) := by
  have h1 : (frameB r ++ rest).take 4 = numLE r.length 4 := by
    simp only [frameB, List.append_assoc]
    exact List.take_left' (length_numLE _ _)
  have h2 : (frameB r ++ rest).drop 4 = sum4 (numLE r.length 4 ++ r) ++ (r ++ rest) := by
    simp only [frameB, List.append_assoc]
    exact List.drop_left' (length_numLE _ _)
  have h3 : (frameB r ++ rest).drop 8 = r ++ rest := by
    rw [show (8 : Nat) = 4 + 4 from rfl, ← List.drop_drop, h2]
    exact List.drop_left' (length_sum4 _)
  have h4 : valLE (numLE r.length 4) = r.length := by rw [valLE_numLE]; exact Nat.mod_eq_of_lt (by omega)
  have h5 : (frameB r ++ rest).length = 8 + r.length + rest.length := by rw [List.length_append, length_frameB]
  unfold unframeB
  rw [h1, h4, h2, h3, h5, if_neg (by omega), if_neg (by omega), List.take_left' (length_sum4 _), List.take_left' rfl, if_pos rfl]

/-- The records of which these bytes are the frames. -/
def splitN : Nat → List UInt8 → Option (List (List UInt8))
  | 0, b => if b = [] then some [] else none
  | f + 1, b => if b = [] then some [] else match unframeB b with
    | none => none
    | some (r, k) => (splitN f (b.drop k)).map (r :: ·)

def splitB (b : List UInt8) : Option (List (List UInt8)) := splitN b.length b

def frames (l : List (List UInt8)) : List UInt8 := l.flatMap frameB

theorem splitN_frames : ∀ (l : List (List UInt8)) (f : Nat), (∀ r ∈ l, r.length ≤ 65536) → l.length ≤ f → splitN f (frames l) = some l
  | [], 0, _, _ => rfl
  | [], f + 1, _, _ => rfl
  | r :: l, 0, _, h => by simp at h
  | r :: l, f + 1, hr, h => by
    have hne : frames (r :: l) ≠ [] := by
      intro e
      have : (frames (r :: l)).length = 0 := by rw [e]; rfl
      simp [frames, length_frameB] at this
    unfold splitN
    rw [if_neg hne, show frames (r :: l) = frameB r ++ frames l from rfl, unframeB_frame r _ (hr r (by simp))]
    simp only
    rw [List.drop_left' (length_frameB r), splitN_frames l f (fun x hx => hr x (by simp [hx])) (by simpa using h)]
    rfl

theorem frames_length_ge : ∀ (l : List (List UInt8)), l.length ≤ (frames l).length
  | [] => by simp [frames]
  | r :: l => by
    have := frames_length_ge l
    simp only [frames, List.flatMap_cons, List.length_append, length_frameB, List.length_cons] at this ⊢
    omega

theorem splitB_frames {l : List (List UInt8)} (h : ∀ r ∈ l, r.length ≤ 65536) : splitB (frames l) = some l := splitN_frames l _ h (frames_length_ge l)

theorem frames_append (a b : List (List UInt8)) : frames (a ++ b) = frames a ++ frames b := by simp [frames]

/-! ## A log -/

structure Lg where
  base : Nat
  n : Nat
  epoch : Nat
  bytes : List UInt8
  recs : List (List UInt8)
  waiting : List (List UInt8)
  lost : Bool

/-- The bytes of cnt sectors behind a place. -/
def sectorsB (σ : Dk) (at' cnt : Nat) : List UInt8 := (List.range cnt).flatMap fun i => σ.look (at' + i)

theorem sectorsB_succ (σ : Dk) (a c : Nat) : sectorsB σ a (c + 1) = sectorsB σ a c ++ σ.look (a + c) := by simp [sectorsB, List.range_succ]

/-- Open: the error, the log. -/
def openLg (σ : Dk) (base n : Int) : Int × Option Lg :=
  if σ.down then (10, none)
  else if n < 2 ∨ base < 0 ∨ base > σ.kept.length ∨ n > σ.kept.length - base then (2, none)
  else
    let s := σ.look base.toNat
    if s = List.replicate 64 0 then (0, some ⟨base.toNat, n.toNat, 0, [], [], [], false⟩)
    else
      let epoch := valLE ((s.drop 4).take 8)
      let length := valLE ((s.drop 12).take 4)
      if epoch > 2 ^ 62 ∨ length > 64 * (n.toNat - 1) ∨ s ≠ headB epoch length then (5, none)
      else
        let bytes := (sectorsB σ (base.toNat + 1) (n.toNat - 1)).take length
        match splitB bytes with
        | none => (6, none)
        | some recs => (0, some ⟨base.toNat, n.toNat, epoch, bytes, recs, [], false⟩)

def Lg.up (l : Lg) : Int := if l.lost then 10 else 0

def Lg.room (l : Lg) : Int := 64 * ((l.n : Int) - 1) - (l.bytes.length : Int) - ((l.waiting.map fun r => 8 + r.length).sum : Nat)

def Lg.add (l : Lg) (r : List UInt8) : Int × Lg :=
  if l.lost then (10, l) else if r.length > 65536 then (3, l) else if (8 + r.length : Int) > l.room then (7, l) else (0, { l with waiting := l.waiting ++ [r] })

def Lg.drop (l : Lg) : Lg := { l with waiting := [] }

/-- Sector by sector, from the k-th one of 'all' on. -/
def layN (base : Nat) (all : List UInt8) : Nat → Nat → Dk → Int × Dk
  | 0, _, σ => (0, σ)
  | f + 1, k, σ => if 64 * k < all.length then (if (σ.write ((base + 1 + k : Nat) : Int) ((all.drop (64 * k)).take 64)).1 = 0 then layN base all f (k + 1) (σ.write ((base + 1 + k : Nat) : Int) ((all.drop (64 * k)).take 64)).2 else σ.write ((base + 1 + k : Nat) : Int) ((all.drop (64 * k)).take 64)) else (0, σ)

def layB (base : Nat) (all : List UInt8) (k : Nat) (σ : Dk) : Int × Dk :=
  let r := layN base all (all.length / 64 + 1) k σ
  if r.1 = 0 then r.2.flush else r

def writeHead (base epoch length : Nat) (σ : Dk) : Int × Dk :=
  let r := σ.write (base : Int) (headB epoch length)
  if r.1 = 0 then r.2.flush else r

def Lg.sync (l : Lg) (σ : Dk) : Int × Lg × Dk :=
  if l.lost then (10, l, σ) else if l.waiting = [] then (0, l, σ) else
    let all := l.bytes ++ frames l.waiting
    let r := layB l.base all (l.bytes.length / 64) σ
    if r.1 = 0 then
      let q := writeHead l.base l.epoch all.length r.2
      if q.1 = 0 then (0, { l with bytes := all, recs := l.recs ++ l.waiting, waiting := [] }, q.2) else (q.1, { l with lost := true }, q.2)
    else (r.1, { l with lost := true }, r.2)

def Lg.reset (l : Lg) (σ : Dk) : Int × Lg × Dk :=
  if l.lost then (10, l, σ) else if l.waiting ≠ [] then (9, l, σ) else if l.epoch = 2 ^ 62 then (7, l, σ) else
    let q := writeHead l.base (l.epoch + 1) 0 σ
    if q.1 = 0 then (0, { l with epoch := l.epoch + 1, bytes := [], recs := [] }, q.2) else (q.1, { l with lost := true }, q.2)

/-- What a log's data always keep. -/
structure Lg.Ok (l : Lg) : Prop where
  two : 2 ≤ l.n
  most : l.n ≤ 65536
  base : l.base ≤ 65536
  epoch : l.epoch ≤ 2 ^ 62
  fits : l.bytes.length + (frames l.waiting).length ≤ 64 * (l.n - 1)
  form : l.bytes = frames l.recs
  recs : ∀ r ∈ l.recs, r.length ≤ 65536
  waits : ∀ r ∈ l.waiting, r.length ≤ 65536

theorem frames_length (l : List (List UInt8)) : (frames l).length = (l.map fun r => 8 + r.length).sum := by
  induction l with
  | nil => rfl
  | cons r l ih =>
    simp only [frames, List.flatMap_cons, List.length_append, length_frameB, List.map_cons, List.sum_cons] at ih ⊢
    rw [ih]

theorem frames_eight (l : List (List UInt8)) : 8 * l.length ≤ (frames l).length := by
  induction l with
  | nil => simp
  | cons r l ih =>
    simp only [frames, List.flatMap_cons, List.length_append, length_frameB, List.length_cons] at ih ⊢
    omega

theorem Lg.room_eq {l : Lg} (ok : l.Ok) : l.room = ((64 * (l.n - 1) - l.bytes.length - (frames l.waiting).length : Nat) : Int) := by
  have h1 := ok.fits
  have h2 := ok.two
  unfold Lg.room
  rw [← frames_length]
  omega

theorem Lg.add_ok {l : Lg} (ok : l.Ok) (r : List UInt8) : (l.add r).2.Ok := by
  have hr := Lg.room_eq ok
  have hf := ok.fits
  unfold Lg.add
  split
  · exact ok
  split
  · exact ok
  split
  · exact ok
  · rename_i h1 h2 h3
    rw [hr] at h3
    refine ⟨ok.two, ok.most, ok.base, ok.epoch, ?_, ok.form, ok.recs, ?_⟩
    · show l.bytes.length + (frames (l.waiting ++ [r])).length ≤ _
      rw [frames_append, List.length_append]
      have : (frames [r]).length = 8 + r.length := by simp [frames, length_frameB]
      simp only []
      omega
    · intro x hx
      simp only [List.mem_append, List.mem_singleton] at hx
      rcases hx with hx | rfl
      · exact ok.waits x hx
      · omega

theorem Lg.drop_ok {l : Lg} (ok : l.Ok) : l.drop.Ok :=
  ⟨ok.two, ok.most, ok.base, ok.epoch, by have := ok.fits; simp only [Lg.drop, frames, List.flatMap_nil, List.length_nil]; omega, ok.form, ok.recs, by simp [Lg.drop]⟩

theorem Lg.lost_ok {l : Lg} (ok : l.Ok) : Lg.Ok { l with lost := true } := ⟨ok.two, ok.most, ok.base, ok.epoch, ok.fits, ok.form, ok.recs, ok.waits⟩

theorem Lg.sync_ok {l : Lg} (ok : l.Ok) (σ : Dk) : (l.sync σ).2.1.Ok := by
  unfold Lg.sync
  split
  · exact ok
  split
  · exact ok
  · simp only []
    split
    · split
      · refine ⟨ok.two, ok.most, ok.base, ok.epoch, ?_, ?_, ?_, by simp⟩
        · simp only [List.length_append, frames, List.flatMap_nil, List.length_nil]
          exact ok.fits
        · simp only [frames_append, ok.form]
        · intro r hr
          rcases List.mem_append.1 hr with h | h
          · exact ok.recs r h
          · exact ok.waits r h
      · exact Lg.lost_ok ok
    · exact Lg.lost_ok ok

theorem Lg.reset_ok {l : Lg} (ok : l.Ok) (σ : Dk) : (l.reset σ).2.1.Ok := by
  unfold Lg.reset
  split
  · exact ok
  split
  · exact ok
  split
  · exact ok
  · rename_i h1 h2 h3
    simp only []
    split
    · have hw : l.waiting = [] := by simpa using h2
      refine ⟨ok.two, ok.most, ok.base, by have := ok.epoch; simp only []; omega, by simp [hw, frames], by simp [frames], by simp, ok.waits⟩
    · exact Lg.lost_ok ok

end Go.Proofs.YtnffnpndnaofhaaGreatDoor

/- Castagnoli's sum: Update and Sum come to crc; the table is as the program's text lays it. -/
namespace Go.Proofs.YtnffnpndnaofhaaGreatDoor
open Go.RowKit
set_option maxRecDepth 20000

/-- The table as it is laid. -/
def HalfAt (w : World) : Prop := ∀ i, i < 16 → w.cell? ⟨0, i, none⟩ = some (.int .u32 ((half.getD i 0 : Nat) : Int))

theorem HalfAt.pres {w w' : World} (h : HalfAt w) (hp : Pres [] w w') : HalfAt w' := fun i hi => hp.cell (h i hi) (by simp)

theorem ofInt_nat32 {a : Nat} (h : a < 2 ^ 32) : (BitVec.ofInt 32 (a : Int)).toNat = a := by
  rw [BitVec.toNat_ofInt]
  omega

theorem bits_xor32 {a b : Nat} (ha : a < 2 ^ 32) (hb : b < 2 ^ 32) : bits .xor .u32 (a : Int) (b : Int) = ((a ^^^ b : Nat) : Int) := by
  have h := Nat.xor_lt_two_pow ha hb
  have e : (BitVec.ofInt 32 (a : Int) ^^^ BitVec.ofInt 32 (b : Int)).toNat = a ^^^ b := by rw [BitVec.toNat_xor, ofInt_nat32 ha, ofInt_nat32 hb]
  change IntKind.u32.wrap (((BitVec.ofInt 32 (a : Int)) ^^^ (BitVec.ofInt 32 (b : Int))).toNat : Int) = _
  rw [e, IntKind.wrap_u32]
  omega

theorem bits_and15 {a : Nat} (ha : a < 2 ^ 32) : bits .and .u32 (a : Int) 15 = ((a % 16 : Nat) : Int) := by
  have h15 : BitVec.ofInt 32 15 = BitVec.ofNat 32 15 := by decide
  have h2 : a &&& 15 = a % 16 := Nat.and_two_pow_sub_one_eq_mod a 4
  have e : (BitVec.ofInt 32 (a : Int) &&& BitVec.ofInt 32 15).toNat = a % 16 := by rw [BitVec.toNat_and, ofInt_nat32 ha, h15]; exact h2
  change IntKind.u32.wrap (((BitVec.ofInt 32 (a : Int)) &&& (BitVec.ofInt 32 15)).toNat : Int) = _
  rw [e, IntKind.wrap_u32]
  omega

theorem crc_zero : bits .xor .u32 IntKind.u32.max 0 = ((0xffffffff : Nat) : Int) := by decide +kernel
theorem crc_last {r : Nat} (h : r < 2 ^ 32) : bits .xor .u32 IntKind.u32.max (r : Int) = ((r ^^^ 0xffffffff : Nat) : Int) := by
  have := bits_xor32 (a := 0xffffffff) (b := r) (by decide) h
  rw [Nat.xor_comm]
  exact this

set_option maxRecDepth 10000 in
theorem crc_update (w : World) (hh : HalfAt w) (v : Value) (bs : List UInt8) (hv : Reads w v (bs.map byteV)) :
    Calls Tryz.prog 120 #[.int .u32 0, v] w fun e w' => e = .returned (.int .u32 ((crc bs : Nat) : Int)) ∧ w = w' := by
  obtain ⟨ao, cap, rfl, h1, h2, hr⟩ := hv
  rw [List.length_map] at h1 ⊢
  have hmax : (bs.length : Int) ≤ 9223372036854775807 := by simp only [maxLen] at h2; omega
  have hz := crc_zero
  have HH := hid (And.intro hh hr)
  clear hh hr
  go_enter Tryz.func120, Tryz.ntmps120
  go_wp2
  clear hz
  go_loop [5, 12] (fun rv iv => ∃ k : Nat, k ≤ bs.length ∧ iv = .int .i64 (k : Int) ∧ rv = .int .u32 (((bs.take k).foldl crcStep 0xffffffff : Nat) : Int)) (fun _ iv => bs.length - (intOf iv).toNat)
  case atStart => exact ⟨0, Nat.zero_le _, rfl, rfl⟩
  case round =>
    obtain ⟨k, hk, rfl, rfl⟩ := hrel
    have hlt32 := crcFold_lt (bs.take k) (r := 0xffffffff) (by decide)
    obtain ⟨r, hrd⟩ : ∃ r, (bs.take k).foldl crcStep 0xffffffff = r := ⟨_, rfl⟩
    rw [hrd] at hlt32 ⊢
    have HR := hid hrd
    clear hrd
    by_cases hlt : k < bs.length
    · have hlt' : (k : Int) < (bs.length : Int) := by omega
      obtain ⟨b, off, rfl, hc⟩ := HH.out.2 k (byteV bs[k]) (by rw [List.getElem?_map, List.getElem?_eq_getElem hlt]; rfl)
      unfold byteV at hc
      have hstep : (bs.take (k + 1)).foldl crcStep 0xffffffff = crcStep r bs[k] := by
        rw [List.take_succ_eq_append_getElem hlt, List.foldl_append, HR.out]; rfl
      have HS := hid hstep
      have hx : bs[k].toNat < 256 := bs[k].toNat_lt
      obtain ⟨x, hxd⟩ : ∃ x, Hid (bs[k].toNat = x) := ⟨_, hid rfl⟩
      rw [hxd.out] at hc hx
      have hx32 : (x : Int) % 4294967296 = (x : Int) := by omega
      obtain ⟨r1, h1d⟩ : ∃ y, Hid (r ^^^ x = y) := ⟨_, hid rfl⟩
      have e1 : bits .xor .u32 (r : Int) (x : Int) = (r1 : Int) := by rw [← h1d.out]; exact bits_xor32 hlt32 (by omega)
      have l1 : r1 < 2 ^ 32 := by rw [← h1d.out]; exact Nat.xor_lt_two_pow hlt32 (by omega)
      obtain ⟨d1, hd1⟩ : ∃ y, Hid (r1 % 16 = y) := ⟨_, hid rfl⟩
      have e2 : bits .and .u32 (r1 : Int) 15 = (d1 : Int) := by rw [← hd1.out]; exact bits_and15 l1
      have ld1 : d1 < 16 := by rw [← hd1.out]; omega
      have c1 := HH.out.1 d1 ld1
      obtain ⟨r2, h2d⟩ : ∃ y, Hid (crcHalf r1 = y) := ⟨_, hid rfl⟩
      obtain ⟨t1, ht1⟩ : ∃ y, Hid (half.getD d1 0 = y) := ⟨_, hid rfl⟩
      rw [ht1.out] at c1
      obtain ⟨q1, hq1⟩ : ∃ y, Hid (r1 / 16 = y) := ⟨_, hid rfl⟩
      have eq1 : (r1 : Int) / 16 = (q1 : Int) := by rw [← hq1.out]; omega
      have e3 : bits .xor .u32 (q1 : Int) (t1 : Int) = (r2 : Int) := by
        rw [← h2d.out, crcHalf, hd1.out, ht1.out, hq1.out]
        exact bits_xor32 (by rw [← hq1.out]; omega) (by rw [← ht1.out]; exact half_lt _)
      have l2 : r2 < 2 ^ 32 := by rw [← h2d.out]; exact crcHalf_lt l1
      obtain ⟨d2, hd2⟩ : ∃ y, Hid (r2 % 16 = y) := ⟨_, hid rfl⟩
      have e4 : bits .and .u32 (r2 : Int) 15 = (d2 : Int) := by rw [← hd2.out]; exact bits_and15 l2
      have ld2 : d2 < 16 := by rw [← hd2.out]; omega
      have c2 := HH.out.1 d2 ld2
      obtain ⟨r3, h3d⟩ : ∃ y, Hid (crcHalf r2 = y) := ⟨_, hid rfl⟩
      obtain ⟨t2, ht2⟩ : ∃ y, Hid (half.getD d2 0 = y) := ⟨_, hid rfl⟩
      rw [ht2.out] at c2
      obtain ⟨q2, hq2⟩ : ∃ y, Hid (r2 / 16 = y) := ⟨_, hid rfl⟩
      have eq2 : (r2 : Int) / 16 = (q2 : Int) := by rw [← hq2.out]; omega
      have e5 : bits .xor .u32 (q2 : Int) (t2 : Int) = (r3 : Int) := by
        rw [← h3d.out, crcHalf, hd2.out, ht2.out, hq2.out]
        exact bits_xor32 (by rw [← hq2.out]; omega) (by rw [← ht2.out]; exact half_lt _)
      have ld1' : (d1 : Int) < 16 := by omega
      have ld2' : (d2 : Int) < 16 := by omega
      have HF : crcStep r bs[k] = r3 := by rw [crcStep, hxd.out, h1d.out, h2d.out, h3d.out]
      have HF := hid HF
      clear hstep l1 l2 hx hlt32
      go_wp2
      go_round
      case rel => exact ⟨k + 1, by omega, by go_num, congrArg (fun n : Nat => Value.int .u32 (n : Int)) (HS.out.trans HF.out).symm⟩
      case measure => first | (simp [intOf]; done) | (simp [intOf]; omega)
    · have hend : ¬ (k : Int) < (bs.length : Int) := by omega
      have ek : k = bs.length := by omega
      subst ek
      have hl := crc_last hlt32
      rw [List.take_length] at HR
      have HF : r ^^^ 0xffffffff = crc bs := congrArg (fun n : Nat => n ^^^ 0xffffffff) HR.out.symm
      rw [HF] at hl
      have HF := hid HF
      clear hlt32
      go_wp2
      go_ret
      exact ⟨rfl, rfl⟩

theorem crc_sum (w : World) (hh : HalfAt w) (v : Value) (bs : List UInt8) (hv : Reads w v (bs.map byteV)) :
    Calls Tryz.prog 86 #[v] w fun e w' => e = .returned (.int .u32 ((crc bs : Nat) : Int)) ∧ w = w' := by
  have hu := fun W (hW : W = w) => hW ▸ crc_update w hh v bs hv
  obtain ⟨ao, cap, rfl, -, -, -⟩ := hv
  simp only [List.length_map] at hu ⊢
  clear hh
  go_enter Tryz.func86, Tryz.ntmps86
  go_wp2_with (go_at_call 120; refine (hu _ rfl).mono ?_; rintro e w' ⟨rfl, rfl⟩)
  go_ret
  exact ⟨rfl, rfl⟩

end Go.Proofs.YtnffnpndnaofhaaGreatDoor

/- What the rows' condition on three tables gives the walks: the table of half bytes, cell by cell; and that the door's own heap meets it. -/
namespace Go.Proofs.YtnffnpndnaofhaaGreatDoor
open Go.ChangeShapes Go.WideShapes Go.ChangeAt Go.RowKit

/-- What the rows list. -/
def laidHalf : List (String × DataW Unit) := [("aquifer/castagnoli.half", Rows.laid_aquifer_castagnoli_half), ("unicode/utf8.acceptRanges", Rows.laid_unicode_utf8_acceptRanges), ("unicode/utf8.first", Rows.laid_unicode_utf8_first)]

theorem gHalf : Tryz.prog.globalNamed "aquifer/castagnoli.half" = some 0 := by kernel_rfl
theorem tHalf : (Tryz.prog.globals[0]?).map (·.type) = some 183 := by kernel_rfl

theorem laid_met (os : Os) : laidMetH Tryz.prog laidHalf ((World.laidAll Tryz.prog os laidHalf).forCall (fun _ _ => 0) ⟨#[], #[], []⟩).memory := by
  rw [MakeChecks.laidMetH_plain _ _ _ (by kernel_rfl)]
  exact laidMet_laidAll _ (by kernel_rfl) (by kernel_rfl)

theorem half_data (i : Nat) (h : i < 16) : ∃ l, Rows.laid_aquifer_castagnoli_half (H := Unit) = .agg l ∧ l.length = 16 ∧ l[i]? = some (.lit (.int .u32 ((half.getD i 0 : Nat) : Int))) := by
  refine ⟨_, rfl, rfl, ?_⟩
  match i, h with
  | 0, _ | 1, _ | 2, _ | 3, _ | 4, _ | 5, _ | 6, _ | 7, _ | 8, _ | 9, _ | 10, _ | 11, _ | 12, _ | 13, _ | 14, _ | 15, _ => rfl
  | n + 16, h => exact absurd h (by omega)

theorem of_laid {W : World} (h : laidMetH Tryz.prog laidHalf W) : HalfAt W := by
  rw [MakeChecks.laidMetH_plain _ _ _ (by kernel_rfl)] at h
  obtain ⟨ps, ⟨g0, t0, cs0, f0, p0, q0, hg0, ht0, hv0, hd0, _, _⟩, _, _⟩ := h
  obtain rfl := Option.some.inj (gHalf.symm.trans hg0)
  obtain rfl := Option.some.inj (tHalf.symm.trans ht0)
  obtain ⟨xs, m1, rfl, hx1, hlen, hn3, hel⟩ := DataW.trod_array Tryz.underlying183 hd0
  have c3 : Tryz.prog.cellsOf 134 = 1 := by kernel_rfl
  intro i hi
  obtain ⟨l, hl, -, hli⟩ := half_data i hi
  have he := hel i hi
  simp only [Prod.mk.injEq, hl, DataW.agg.injEq] at hx1
  have hxl := hx1.1
  rw [hxl, List.getElem?_map] at hli
  cases hxi : xs[i]? with
  | none => rw [hxi] at hli; cases hli
  | some x =>
    rw [hxi] at hli he
    simp only [Option.map_some, Option.some.injEq] at hli
    obtain ⟨k, e1, e2, -⟩ := DataW.trod_int Tryz.underlying134 he
    rw [e2] at hli
    cases hli
    have hcell := World.var?_cell hg0 hv0 i
    rw [hcell]
    rw [c3, Nat.mul_one] at e1
    have h1 : (cs0.toList.drop i)[0]? = some (.int .u32 ((half.getD i 0 : Nat) : Int)) := by
      cases hd : cs0.toList.drop i with
      | nil => rw [hd] at e1; simp at e1
      | cons y ys => rw [hd] at e1; simp at e1; simp [e1]
    rw [List.getElem?_drop, Nat.add_zero, Array.getElem?_toList] at h1
    exact h1

end Go.Proofs.YtnffnpndnaofhaaGreatDoor

/- A region whose operations may come up in more than one order, walked in ONE order: its first n operations (the operands of a statement) under a condition S on the world that each of them keeps, reads first; the rest (the assignments) in the order that is forced. No condition but what 'ordB' asks, which the kernel reckons. -/
namespace Go.Proofs.YtnffnpndnaofhaaGreatDoor
section
variable {P : Program} {ops : Array Oper} {Q : Exit → Act → World → Prop} {md : Region.Mode} {S : World → Prop} {n : Nat}

/-- Whatever order is picked from here on; behind each of the first n operations S holds. -/
def wpAnyT (P : Program) (md : Region.Mode) (ops : Array Oper) (Q : Exit → Act → World → Prop) (S : World → Prop) (n : Nat) : Nat → Array Bool → Act → World → Prop
  | 0, listed, a, w => Region.ready md ops listed = [] ∧ Q .normal a w
  | fuel + 1, listed, a, w =>
    (Region.ready md ops listed = [] → Q .normal a w) ∧
    ∀ i ∈ Region.ready md ops listed, wpOp P ops Q i (fun a' w' => (i < n → S w') ∧ wpAnyT P md ops Q S n fuel (listed.setIfInBounds i true) a' w') a w

theorem wpAny_of_T : ∀ (fuel : Nat) (listed : Array Bool) (a : Act) (w : World), wpAnyT P md ops Q S n fuel listed a w → wpAny P md ops Q fuel listed a w
  | 0, _, _, _, h => h
  | fuel + 1, _, _, _, h => ⟨h.1, fun i hi => wpOp_mono (fun a' w' h' => wpAny_of_T fuel _ a' w' h'.2) (h.2 i hi)⟩

def waits (md : Region.Mode) (ops : Array Oper) (j i : Nat) : Bool :=
  match ops[j]? with
  | some oj => oj.after.any fun e => Region.binds md e && e.on == i
  | none => false

theorem waits_spec {j i : Nat} (h : waits md ops j i = true) : ∃ oj, ops[j]? = some oj ∧ ∃ e ∈ oj.after, Region.binds md e = true ∧ e.on = i := by
  unfold waits at h
  split at h
  · rename_i oj hj
    obtain ⟨e, he, hb⟩ := Array.any_eq_true'.1 h
    simp only [Bool.and_eq_true, beq_iff_eq] at hb
    exact ⟨oj, hj, e, he, hb.1, hb.2⟩
  · cases h

theorem getD_both' {listed : Array Bool} {i : Nat} (h : listed.getD i true = false) : listed.getD i false = false := by
  rcases Nat.lt_or_ge i listed.size with h' | h'
  · simp [h'] at h ⊢; exact h
  · simp [Array.getElem?_eq_none h'] at h

theorem wpAnyT_first {i : Nat} {oi : Oper} {v : Value} (hi : ops[i]? = some oi) (hsel : ∀ (j : Nat) (o : Oper) cs b, ops[j]? = some o → o.op ≠ .select cs b)
    (hQ : ∀ c a w, Q (.panic c) (a.put oi.dst v) w → Q (.panic c) a w) (htail : ∀ t, n ≤ t → t < ops.size → waits md ops t i = true) :
    ∀ (fuel : Nat) (listed : Array Bool) (a : Act) (w : World),
      (∀ j oj, ops[j]? = some oj → j ≠ i → listed.getD j true = false → (∀ e ∈ oj.after, Region.binds md e = true → e.on ≠ i) → oi.apart ops oj = true) →
      i ∈ Region.ready md ops listed → YieldsIf P ops S oi v a → S w →
      wpAnyT P md ops Q S n fuel (listed.setIfInBounds i true) (a.put oi.dst v) w → wpAnyT P md ops Q S n (fuel + 1) listed a w := by
  intro fuel
  induction fuel with
  | zero =>
    intro listed a w _ hr hy hS H
    refine ⟨fun h => (by rw [h] at hr; cases hr), fun j hj => ?_⟩
    by_cases hji : j = i
    · subst hji; exact hy.wpOp hi hS ⟨fun _ => hS, H⟩
    · have := ready_mono hj hji
      rw [H.1] at this
      cases this
  | succ fuel ih =>
    intro listed a w hfree hr hy hS H
    refine ⟨fun h => (by rw [h] at hr; cases hr), fun j hj => ?_⟩
    by_cases hji : j = i
    · subst hji; exact hy.wpOp hi hS ⟨fun _ => hS, H⟩
    · have h1 := H.2 j (ready_mono hj hji)
      obtain ⟨hjun, oj, hoj, hall⟩ := mem_ready.1 hj
      have h0 := (mem_ready.1 hr).1
      have hjn : j < n := by
        rcases Nat.lt_or_ge j n with h | h
        · exact h
        · obtain ⟨o', ho', e, he, hb, hon⟩ := waits_spec (htail j h (Array.getElem?_eq_some_iff.1 hoj).1)
          have : o' = oj := Option.some.inj (ho'.symm.trans hoj)
          subst this
          have h2 := hall e he hb
          rw [hon, getD_both' h0] at h2
          cases h2
      have hnot : ∀ e ∈ oj.after, Region.binds md e = true → e.on ≠ i := fun e he hb heq => by
        have h1 := hall e he hb
        rw [heq, getD_both' h0] at h1
        cases h1
      have h2 := wpOp_putIf hoj (hfree j oj hoj hji hjun hnot) (fun cs b => hsel i oi cs b hi) (fun cs b => hsel j oj cs b hoj) hQ hy h1
      have hfree' : ∀ k ok, ops[k]? = some ok → k ≠ i → (listed.setIfInBounds j true).getD k true = false →
          (∀ e ∈ ok.after, Region.binds md e = true → e.on ≠ i) → oi.apart ops ok = true := fun k ok hk hki hun hno => by
        refine hfree k ok hk hki ?_ hno
        by_cases hjk : j = k
        · subst hjk; exact hjun
        · rw [getD_set_ne true hjk] at hun; exact hun
      refine wpOp_mono (fun a' w' h3 => ⟨fun hj => h3.2.1 hj, ih (listed.setIfInBounds j true) a' w' hfree' (ready_mono hr (Ne.symm hji)) h3.1 (h3.2.1 hjn) ?_⟩) h2
      rw [Array.setIfInBounds_comm _ _ hji]
      exact h3.2.2

/-- The rest comes up in one order. -/
def seqB (md : Region.Mode) (ops : Array Oper) : Nat → Nat → Array Bool → Bool
  | 0, _, listed => (Region.ready md ops listed).isEmpty
  | g + 1, k, listed => decide (Region.ready md ops listed = [k]) && seqB md ops g (k + 1) (listed.setIfInBounds k true)

theorem wpAnyT_of_seq : ∀ (l : List Oper) (k : Nat) (listed : Array Bool) (a : Act) (w : World), n ≤ k → (∀ j, l[j]? = ops[k + j]?) →
    seqB md ops l.length k listed = true → wpList P ops Q l a w → wpAnyT P md ops Q S n l.length listed a w
  | [], _, _, _, _, _, _, hB, h => ⟨by simpa [seqB] using hB, h⟩
  | o :: l, k, listed, a, w, hk, hl, hB, h => by
    have h0 : ops[k]? = some o := by simpa using (hl 0).symm
    simp only [List.length_cons, seqB, Bool.and_eq_true, decide_eq_true_eq] at hB
    refine ⟨fun h1 => (by rw [hB.1] at h1; cases h1), fun i hi => ?_⟩
    rw [hB.1] at hi
    have hik : i = k := by simpa using hi
    subst hik
    have hw : wpOp P ops Q i (wpList P ops Q l) a w := by unfold wpOp; simp only [h0]; exact h
    exact wpOp_mono (fun a' w' h' => ⟨fun hi => by omega, wpAnyT_of_seq l (i + 1) _ a' w' (by omega) (fun j => by have := hl (j + 1); simpa [Nat.add_assoc, Nat.add_comm 1 j] using this) hB.2 h'⟩) hw

/-- The walk in one order: (i, true): operation i only reads; (i, false): it may do more, and nothing else can come up then. -/
def wpOrd (P : Program) (ops : Array Oper) (Q : Exit → Act → World → Prop) (S : World → Prop) (T : Act → World → Prop) : List (Nat × Bool) → Act → World → Prop
  | [], a, w => T a w
  | (i, true) :: r, a, w => ∃ o v, ops[i]? = some o ∧ YieldsIf P ops S o v a ∧ wpOrd P ops Q S T r (a.put o.dst v) w
  | (i, false) :: r, a, w => wpOp P ops Q i (fun a' w' => S w' ∧ wpOrd P ops Q S T r a' w') a w

def ordB (md : Region.Mode) (ops : Array Oper) (n : Nat) : List (Nat × Bool) → Array Bool → Bool
  | [], listed => seqB md ops (ops.size - n) n listed
  | (i, true) :: r, listed => decide (i < n) && (Region.ready md ops listed).contains i && Region.free md ops listed i && ordB md ops n r (listed.setIfInBounds i true)
  | (i, false) :: r, listed => decide (i < n) && decide (Region.ready md ops listed = [i]) && ordB md ops n r (listed.setIfInBounds i true)

def orderB (md : Region.Mode) (ops : Array Oper) (n : Nat) (ord : List (Nat × Bool)) : Bool :=
  Region.noSelect ops && decide (n ≤ ops.size) && decide (ord.length = n) && ((List.range ops.size).all fun t => decide (t < n) || (List.range n).all fun i => waits md ops t i) && ordB md ops n ord (Array.replicate ops.size false)

theorem wpAnyT_of_ord (hsel : ∀ (j : Nat) (o : Oper) cs b, ops[j]? = some o → o.op ≠ .select cs b) (hQ : ∀ c a d v w, Q (.panic c) (a.put d v) w → Q (.panic c) a w)
    (htail : ∀ i t, i < n → n ≤ t → t < ops.size → waits md ops t i = true) (hn : n ≤ ops.size) :
    ∀ (ord : List (Nat × Bool)) (listed : Array Bool) (a : Act) (w : World), ordB md ops n ord listed = true → S w →
      wpOrd P ops Q S (wpList P ops Q (ops.toList.drop n)) ord a w → wpAnyT P md ops Q S n (ord.length + (ops.size - n)) listed a w
  | [], listed, a, w, hB, _, h => by
    have hlen : (ops.toList.drop n).length = ops.size - n := by simp
    have := wpAnyT_of_seq (P := P) (md := md) (ops := ops) (Q := Q) (S := S) (n := n) (ops.toList.drop n) n listed a w (Nat.le_refl _) (fun j => by simp) (by rw [hlen]; exact hB) h
    rw [hlen] at this
    simpa using this
  | (i, true) :: r, listed, a, w, hB, hS, h => by
    simp only [ordB, Bool.and_eq_true, decide_eq_true_eq] at hB
    obtain ⟨⟨⟨hin, hr⟩, hf⟩, hB⟩ := hB
    obtain ⟨o, v, ho, hy, h⟩ := h
    have ih := wpAnyT_of_ord hsel hQ htail hn r _ _ _ hB hS h
    rw [List.length_cons, show r.length + 1 + (ops.size - n) = (r.length + (ops.size - n)) + 1 by omega]
    exact wpAnyT_first ho hsel (fun c a w => hQ c a _ _ w) (fun t h1 h2 => htail i t hin h1 h2) _ _ _ _ (Region.free_spec ho hf) (by simpa using hr) hy hS ih
  | (i, false) :: r, listed, a, w, hB, hS, h => by
    simp only [ordB, Bool.and_eq_true, decide_eq_true_eq] at hB
    obtain ⟨⟨hin, hr⟩, hB⟩ := hB
    rw [List.length_cons, show r.length + 1 + (ops.size - n) = (r.length + (ops.size - n)) + 1 by omega]
    refine ⟨fun h0 => (by rw [hr] at h0; cases h0), fun j hj => ?_⟩
    rw [hr] at hj
    have hji : j = i := by simpa using hj
    subst hji
    exact wpOp_mono (fun a' w' h' => ⟨fun _ => h'.1, wpAnyT_of_ord hsel hQ htail hn r _ _ _ hB h'.1 h'.2⟩) h

/-- The law: a region that draws its order, walked in the order 'ord'. -/
theorem wp_region_ord {id : Nat} {a : Act} {w : World} (hm : P.follows .mixedOrders = true) (S : World → Prop) (n : Nat) (ord : List (Nat × Bool)) (hB : orderB .any ops n ord = true)
    (hQ : ∀ c a d v w, Q (.panic c) (a.put d v) w → Q (.panic c) a w) (hS : S w.drew)
    (h : wpOrd P ops Q S (wpList P ops Q (ops.toList.drop n)) ord a w.drew) : (Code.region id ops true).wp P Q a w := by
  simp only [orderB, Bool.and_eq_true, decide_eq_true_eq, List.all_eq_true, List.mem_range, Bool.or_eq_true] at hB
  obtain ⟨⟨⟨⟨h1, h2⟩, h3⟩, h4⟩, h5⟩ := hB
  refine wp_region_any hm (wpAny_of_T (S := S) (n := n) _ _ _ _ ?_)
  have := wpAnyT_of_ord (P := P) (Q := Q) (S := S) (Region.noSelect_spec h1) hQ (fun i t hi ht hts => by
    rcases h4 t hts with h | h
    · omega
    · exact h i hi) h2 ord _ a w.drew h5 hS h
  rw [h3, show n + (ops.size - n) = ops.size by omega] at this
  exact this

theorem wpOrd_read {T : Act → World → Prop} {i : Nat} {r : List (Nat × Bool)} {a : Act} {w : World} {o : Oper} (ho : ops[i]? = some o) (hg : o.guard = none) {v : Value}
    (hy : ∀ w', S w' → (execOp a.eval o).run P w' = .ok (.value v) w') (h : wpOrd P ops Q S T r (a.put o.dst v) w) : wpOrd P ops Q S T ((i, true) :: r) a w :=
  ⟨o, v, ho, .inl ⟨by simp [Region.wanted, hg], hy⟩, h⟩

theorem wpOrd_do {T : Act → World → Prop} {i : Nat} {r : List (Nat × Bool)} {a : Act} {w : World} {o : Oper} (ho : ops[i]? = some o) (hg : o.guard = none)
    (h : ∀ K : Act → World → Prop, (∀ a' w', S w' ∧ wpOrd P ops Q S T r a' w' → K a' w') → o.wp P a w K Q) : wpOrd P ops Q S T ((i, false) :: r) a w := by
  have := h _ (fun _ _ h => h)
  unfold wpOrd wpOp
  simp only [ho]
  rw [if_pos (by simp [Region.wanted, hg])]
  exact .inl this

/-- The same, the guard told (by rfl). -/
theorem wpOrd_readw {T : Act → World → Prop} {i : Nat} {r : List (Nat × Bool)} {a : Act} {w : World} {o : Oper} (ho : ops[i]? = some o) (hw : Region.wanted o (yielded ops a.tmps) = true) {v : Value}
    (hy : ∀ w', S w' → (execOp a.eval o).run P w' = .ok (.value v) w') (h : wpOrd P ops Q S T r (a.put o.dst v) w) : wpOrd P ops Q S T ((i, true) :: r) a w :=
  ⟨o, v, ho, .inl ⟨hw, hy⟩, h⟩

theorem wpOrd_skipw {T : Act → World → Prop} {i : Nat} {r : List (Nat × Bool)} {a : Act} {w : World} {o : Oper} (ho : ops[i]? = some o) (hw : Region.wanted o (yielded ops a.tmps) = false)
    (h : wpOrd P ops Q S T r (a.put o.dst undef) w) : wpOrd P ops Q S T ((i, true) :: r) a w :=
  ⟨o, undef, ho, .inr ⟨hw, rfl⟩, h⟩

theorem wpOrd_dow {T : Act → World → Prop} {i : Nat} {r : List (Nat × Bool)} {a : Act} {w : World} {o : Oper} (ho : ops[i]? = some o) (hw : Region.wanted o (yielded ops a.tmps) = true)
    (h : ∀ K : Act → World → Prop, (∀ a' w', S w' ∧ wpOrd P ops Q S T r a' w' → K a' w') → o.wp P a w K Q) : wpOrd P ops Q S T ((i, false) :: r) a w := by
  have := h _ (fun _ _ h => h)
  unfold wpOrd wpOp
  simp only [ho]
  rw [if_pos hw]
  exact .inl this

theorem wpOrd_end {T : Act → World → Prop} {a : Act} {w : World} (h : T a w) : wpOrd P ops Q S T [] a w := h

end
end Go.Proofs.YtnffnpndnaofhaaGreatDoor
