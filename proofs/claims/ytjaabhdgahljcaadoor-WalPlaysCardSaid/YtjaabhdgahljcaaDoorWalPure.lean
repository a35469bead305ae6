/- A log of records as data (Lg), and what each of its methods makes of it and of the disk below. Plain Lean, no Go. -/
import Derived.Test.YtjaabhdgahljcaaDoorDisk
namespace Go.Proofs.YtjaabhdgahljcaaDoor

/-! ## Numbers and sums -/

/-- A number in k bytes, the lowest first. -/
def numLE (n k : Nat) : List UInt8 := (List.range k).map fun i => UInt8.ofNat (n / 2 ^ (8 * i))

def valLE : List UInt8 → Nat
  | [] => 0
  | b :: l => b.toNat + 256 * valLE l

theorem length_numLE (n k : Nat) : (numLE n k).length = k := by simp [numLE]

theorem valLE_lt : ∀ (l : List UInt8), valLE l < 256 ^ l.length
  | [] => by simp [valLE]
  | b :: l => by
    have h := valLE_lt l
    have hb : b.toNat < 256 := b.toNat_lt
    simp only [valLE, List.length_cons, Nat.pow_succ]
    omega

theorem numLE_zero (n : Nat) : numLE n 0 = [] := rfl

theorem numLE_succ (n k : Nat) : numLE n (k + 1) = UInt8.ofNat n :: numLE (n / 256) k := by
  simp only [numLE, List.range_succ_eq_map, List.map_cons, List.map_map, Nat.mul_zero, Nat.pow_zero, Nat.div_one]
  congr 1
  apply List.map_congr_left
  intro i _
  simp only [Function.comp]
  rw [Nat.div_div_eq_div_mul]
  congr 2
  rw [Nat.mul_succ, Nat.pow_add, Nat.mul_comm]

theorem valLE_numLE (k : Nat) : ∀ n, valLE (numLE n k) = n % 256 ^ k := by
  induction k with
  | zero => intro n; simp [numLE_zero, valLE, Nat.mod_one]
  | succ k ih =>
    intro n
    rw [numLE_succ, valLE, ih, Nat.pow_succ, Nat.mul_comm (256 ^ k) 256, Nat.mod_mul]
    simp

theorem numLE_valLE : ∀ (l : List UInt8), numLE (valLE l) l.length = l
  | [] => rfl
  | b :: l => by
    have hb : b.toNat < 256 := b.toNat_lt
    rw [List.length_cons, numLE_succ, valLE]
    have h1 : (b.toNat + 256 * valLE l) / 256 = valLE l := by omega
    have h2 : UInt8.ofNat (b.toNat + 256 * valLE l) = b := by
      apply UInt8.toNat_inj.1
      rw [UInt8.toNat_ofNat']
      omega
    rw [h1, h2, numLE_valLE l]

/-- What four bits do to the register. -/
def half : List Nat := [0x00000000, 0x105ec76f, 0x20bd8ede, 0x30e349b1, 0x417b1dbc, 0x5125dad3, 0x61c69362, 0x7198540d, 0x82f63b78, 0x92a8fc17, 0xa24bb5a6, 0xb21572c9, 0xc38d26c4, 0xd3d3e1ab, 0xe330a81a, 0xf36e6f75]

def crcHalf (r : Nat) : Nat := r / 16 ^^^ half.getD (r % 16) 0
def crcStep (r : Nat) (x : UInt8) : Nat := crcHalf (crcHalf (r ^^^ x.toNat))

/-- Castagnoli's sum. -/
def crc (l : List UInt8) : Nat := l.foldl crcStep 0xffffffff ^^^ 0xffffffff

theorem half_lt (i : Nat) : half.getD i 0 < 2 ^ 32 := by
  rcases Nat.lt_or_ge i 16 with h | h
  · have : ∀ j : Fin 16, half.getD j.val 0 < 2 ^ 32 := by decide
    exact this ⟨i, h⟩
  · rw [List.getD_eq_getElem?_getD, List.getElem?_eq_none (by simpa [half] using h)]
    decide

theorem crcHalf_lt {r : Nat} (h : r < 2 ^ 32) : crcHalf r < 2 ^ 32 := Nat.xor_lt_two_pow (by omega) (half_lt _)

theorem crcStep_lt {r : Nat} (h : r < 2 ^ 32) (x : UInt8) : crcStep r x < 2 ^ 32 :=
  crcHalf_lt (crcHalf_lt (Nat.xor_lt_two_pow h (by have := x.toNat_lt; omega)))

theorem crcFold_lt : ∀ (l : List UInt8) {r : Nat}, r < 2 ^ 32 → l.foldl crcStep r < 2 ^ 32
  | [], _, h => h
  | x :: l, _, h => crcFold_lt l (crcStep_lt h x)

theorem crc_lt (l : List UInt8) : crc l < 2 ^ 32 := Nat.xor_lt_two_pow (crcFold_lt l (by decide)) (by decide)

def sum4 (s : List UInt8) : List UInt8 := numLE (crc s) 4

theorem length_sum4 (s : List UInt8) : (sum4 s).length = 4 := length_numLE _ _

/-- A head's first 16 bytes. -/
def headTop (epoch length : Nat) : List UInt8 := [65, 81, 87, 76] ++ numLE epoch 8 ++ numLE length 4

/-- A head's sector. -/
def headB (epoch length : Nat) : List UInt8 := headTop epoch length ++ sum4 (headTop epoch length) ++ List.replicate 44 0

theorem length_headB (e l : Nat) : (headB e l).length = 64 := by simp [headB, headTop, length_numLE, length_sum4]

/-- A record's frame. -/
def frameB (r : List UInt8) : List UInt8 := numLE r.length 4 ++ sum4 (numLE r.length 4 ++ r) ++ r

theorem length_frameB (r : List UInt8) : (frameB r).length = 8 + r.length := by simp [frameB, length_numLE, length_sum4]; omega

/-- The first frame of bytes: its record, and how many bytes that were. -/
def unframeB (b : List UInt8) : Option (List UInt8 × Nat) :=
  if b.length < 8 then none
  else if valLE (b.take 4) > 65536 ∨ valLE (b.take 4) > b.length - 8 then none
  else if sum4 (b.take 4 ++ (b.drop 8).take (valLE (b.take 4))) = (b.drop 4).take 4 then some ((b.drop 8).take (valLE (b.take 4)), 8 + valLE (b.take 4)) else none

theorem unframeB_some {b r : List UInt8} {k : Nat} (h : unframeB b = some (r, k)) : k = 8 + r.length ∧ k ≤ b.length ∧ b = frameB r ++ b.drop k ∧ r.length ≤ 65536 := by
  unfold unframeB at h
  split at h
  · cases h
  split at h
  · cases h
  split at h
  · rename_i h1 h2 h3
    simp only [Option.some.injEq, Prod.mk.injEq] at h
    obtain ⟨rfl, rfl⟩ := h
    generalize hn : valLE (b.take 4) = n at *
    have hl : ((b.drop 8).take n).length = n := by simp; omega
    have h4 : (b.take 4).length = 4 := by simp; omega
    have e4 : numLE n 4 = b.take 4 := by rw [← hn]; have := numLE_valLE (b.take 4); rwa [h4] at this
    refine ⟨by rw [hl], by omega, ?_, by omega⟩
    unfold frameB
    rw [hl, e4, h3]
    have a1 : b.take 4 ++ ((b.drop 4).take 4 ++ ((b.drop 8).take n ++ b.drop (8 + n))) = b := by
      rw [← List.drop_drop, List.take_append_drop, show (8 : Nat) = 4 + 4 from rfl, ← List.drop_drop, List.take_append_drop, List.take_append_drop]
    simp only [List.append_assoc]
    exact a1.symm
  · cases h

theorem unframeB_frame (r rest : List UInt8) (h : r.length ≤ 65536) : unframeB (frameB r ++ rest) = some (r, 8 + r.length) := by
  have h1 : (frameB r ++ rest).take 4 = numLE r.length 4 := by
    simp only [frameB, List.append_assoc]
    exact List.take_left' (length_numLE _ _)
  have h2 : (frameB r ++ rest).drop 4 = sum4 (numLE r.length 4 ++ r) ++ (r ++ rest) := by
    simp only [frameB, List.append_assoc]
    exact List.drop_left' (length_numLE _ _)
  have h3 : (frameB r ++ rest).drop 8 = r ++ rest := by
    rw [show (8 : Nat) = 4 + 4 from rfl, ← List.drop_drop, h2]
    exact List.drop_left' (length_sum4 _)
  have h4 : valLE (numLE r.length 4) = r.length := by rw [valLE_numLE]; exact Nat.mod_eq_of_lt (by omega)
  have h5 : (frameB r ++ rest).length = 8 + r.length + rest.length := by rw [List.length_append, length_frameB]
  unfold unframeB
  rw [h1, h4, h2, h3, h5, if_neg (by omega), if_neg (by omega), List.take_left' (length_sum4 _), List.take_left' rfl, if_pos rfl]

/-- The records of which these bytes are the frames. -/
def splitN : Nat → List UInt8 → Option (List (List UInt8))
  | 0, b => if b = [] then some [] else none
  | f + 1, b => if b = [] then some [] else match unframeB b with
    | none => none
    | some (r, k) => (splitN f (b.drop k)).map (r :: ·)

def splitB (b : List UInt8) : Option (List (List UInt8)) := splitN b.length b

def frames (l : List (List UInt8)) : List UInt8 := l.flatMap frameB

theorem splitN_frames : ∀ (l : List (List UInt8)) (f : Nat), (∀ r ∈ l, r.length ≤ 65536) → l.length ≤ f → splitN f (frames l) = some l
  | [], 0, _, _ => rfl
  | [], f + 1, _, _ => rfl
  | r :: l, 0, _, h => by simp at h
  | r :: l, f + 1, hr, h => by
    have hne : frames (r :: l) ≠ [] := by
      intro e
      have : (frames (r :: l)).length = 0 := by rw [e]; rfl
      simp [frames, length_frameB] at this
    unfold splitN
    rw [if_neg hne, show frames (r :: l) = frameB r ++ frames l from rfl, unframeB_frame r _ (hr r (by simp))]
    simp only
    rw [List.drop_left' (length_frameB r), splitN_frames l f (fun x hx => hr x (by simp [hx])) (by simpa using h)]
    rfl

theorem frames_length_ge : ∀ (l : List (List UInt8)), l.length ≤ (frames l).length
  | [] => by simp [frames]
  | r :: l => by
    have := frames_length_ge l
    simp only [frames, List.flatMap_cons, List.length_append, length_frameB, List.length_cons] at this ⊢
    omega

theorem splitB_frames {l : List (List UInt8)} (h : ∀ r ∈ l, r.length ≤ 65536) : splitB (frames l) = some l := splitN_frames l _ h (frames_length_ge l)

theorem frames_append (a b : List (List UInt8)) : frames (a ++ b) = frames a ++ frames b := by simp [frames]

/-! ## A log -/

structure Lg where
  base : Nat
  n : Nat
  epoch : Nat
  bytes : List UInt8
  recs : List (List UInt8)
  waiting : List (List UInt8)
  lost : Bool

/-- The bytes of cnt sectors behind a place. -/
def sectorsB (σ : Dk) (at' cnt : Nat) : List UInt8 := (List.range cnt).flatMap fun i => σ.look (at' + i)

theorem sectorsB_succ (σ : Dk) (a c : Nat) : sectorsB σ a (c + 1) = sectorsB σ a c ++ σ.look (a + c) := by simp [sectorsB, List.range_succ]

/-- Open: the error, the log. -/
def openLg (σ : Dk) (base n : Int) : Int × Option Lg :=
  if σ.down then (10, none)
  else if n < 2 ∨ base < 0 ∨ base > σ.kept.length ∨ n > σ.kept.length - base then (2, none)
  else
    let s := σ.look base.toNat
    if s = List.replicate 64 0 then (0, some ⟨base.toNat, n.toNat, 0, [], [], [], false⟩)
    else
      let epoch := valLE ((s.drop 4).take 8)
      let length := valLE ((s.drop 12).take 4)
      if epoch > 2 ^ 62 ∨ length > 64 * (n.toNat - 1) ∨ s ≠ headB epoch length then (5, none)
      else
        let bytes := (sectorsB σ (base.toNat + 1) (n.toNat - 1)).take length
        match splitB bytes with
        | none => (6, none)
        | some recs => (0, some ⟨base.toNat, n.toNat, epoch, bytes, recs, [], false⟩)

def Lg.up (l : Lg) : Int := if l.lost then 10 else 0

def Lg.room (l : Lg) : Int := 64 * ((l.n : Int) - 1) - (l.bytes.length : Int) - ((l.waiting.map fun r => 8 + r.length).sum : Nat)

def Lg.add (l : Lg) (r : List UInt8) : Int × Lg :=
  if l.lost then (10, l) else if r.length > 65536 then (3, l) else if (8 + r.length : Int) > l.room then (7, l) else (0, { l with waiting := l.waiting ++ [r] })

def Lg.drop (l : Lg) : Lg := { l with waiting := [] }

/-- Sector by sector, from the k-th one of 'all' on. -/
def layN (base : Nat) (all : List UInt8) : Nat → Nat → Dk → Int × Dk
  | 0, _, σ => (0, σ)
  | f + 1, k, σ => if 64 * k < all.length then (if (σ.write ((base + 1 + k : Nat) : Int) ((all.drop (64 * k)).take 64)).1 = 0 then layN base all f (k + 1) (σ.write ((base + 1 + k : Nat) : Int) ((all.drop (64 * k)).take 64)).2 else σ.write ((base + 1 + k : Nat) : Int) ((all.drop (64 * k)).take 64)) else (0, σ)

def layB (base : Nat) (all : List UInt8) (k : Nat) (σ : Dk) : Int × Dk :=
  let r := layN base all (all.length / 64 + 1) k σ
  if r.1 = 0 then r.2.flush else r

def writeHead (base epoch length : Nat) (σ : Dk) : Int × Dk :=
  let r := σ.write (base : Int) (headB epoch length)
  if r.1 = 0 then r.2.flush else r

def Lg.sync (l : Lg) (σ : Dk) : Int × Lg × Dk :=
  if l.lost then (10, l, σ) else if l.waiting = [] then (0, l, σ) else
    let all := l.bytes ++ frames l.waiting
    let r := layB l.base all (l.bytes.length / 64) σ
    if r.1 = 0 then
      let q := writeHead l.base l.epoch all.length r.2
      if q.1 = 0 then (0, { l with bytes := all, recs := l.recs ++ l.waiting, waiting := [] }, q.2) else (q.1, { l with lost := true }, q.2)
    else (r.1, { l with lost := true }, r.2)

def Lg.reset (l : Lg) (σ : Dk) : Int × Lg × Dk :=
  if l.lost then (10, l, σ) else if l.waiting ≠ [] then (9, l, σ) else if l.epoch = 2 ^ 62 then (7, l, σ) else
    let q := writeHead l.base (l.epoch + 1) 0 σ
    if q.1 = 0 then (0, { l with epoch := l.epoch + 1, bytes := [], recs := [] }, q.2) else (q.1, { l with lost := true }, q.2)

/-- What a log's data always keep. -/
structure Lg.Ok (l : Lg) : Prop where
  two : 2 ≤ l.n
  most : l.n ≤ 65536
  base : l.base ≤ 65536
  epoch : l.epoch ≤ 2 ^ 62
  fits : l.bytes.length + (frames l.waiting).length ≤ 64 * (l.n - 1)
  form : l.bytes = frames l.recs
  recs : ∀ r ∈ l.recs, r.length ≤ 65536
  waits : ∀ r ∈ l.waiting, r.length ≤ 65536

theorem frames_length (l : List (List UInt8)) : (frames l).length = (l.map fun r => 8 + r.length).sum := by
  induction l with
  | nil => rfl
  | cons r l ih =>
    simp only [frames, List.flatMap_cons, List.length_append, length_frameB, List.map_cons, List.sum_cons] at ih ⊢
    rw [ih]

theorem frames_eight (l : List (List UInt8)) : 8 * l.length ≤ (frames l).length := by
  induction l with
  | nil => simp
  | cons r l ih =>
    simp only [frames, List.flatMap_cons, List.length_append, length_frameB, List.length_cons] at ih ⊢
    omega

theorem Lg.room_eq {l : Lg} (ok : l.Ok) : l.room = ((64 * (l.n - 1) - l.bytes.length - (frames l.waiting).length : Nat) : Int) := by
  have h1 := ok.fits
  have h2 := ok.two
  unfold Lg.room
  rw [← frames_length]
  omega

theorem Lg.add_ok {l : Lg} (ok : l.Ok) (r : List UInt8) : (l.add r).2.Ok := by
  have hr := Lg.room_eq ok
  have hf := ok.fits
  unfold Lg.add
  split
  · exact ok
  split
  · exact ok
  split
  · exact ok
  · rename_i h1 h2 h3
    rw [hr] at h3
    refine ⟨ok.two, ok.most, ok.base, ok.epoch, ?_, ok.form, ok.recs, ?_⟩
    · show l.bytes.length + (frames (l.waiting ++ [r])).length ≤ _
      rw [frames_append, List.length_append]
      have : (frames [r]).length = 8 + r.length := by simp [frames, length_frameB]
      simp only []
      omega
    · intro x hx
      simp only [List.mem_append, List.mem_singleton] at hx
      rcases hx with hx | rfl
      · exact ok.waits x hx
      · omega

theorem Lg.drop_ok {l : Lg} (ok : l.Ok) : l.drop.Ok :=
  ⟨ok.two, ok.most, ok.base, ok.epoch, by have := ok.fits; simp only [Lg.drop, frames, List.flatMap_nil, List.length_nil]; omega, ok.form, ok.recs, by simp [Lg.drop]⟩

theorem Lg.lost_ok {l : Lg} (ok : l.Ok) : Lg.Ok { l with lost := true } := ⟨ok.two, ok.most, ok.base, ok.epoch, ok.fits, ok.form, ok.recs, ok.waits⟩

theorem Lg.sync_ok {l : Lg} (ok : l.Ok) (σ : Dk) : (l.sync σ).2.1.Ok := by
  unfold Lg.sync
  split
  · exact ok
  split
  · exact ok
  · simp only []
    split
    · split
      · refine ⟨ok.two, ok.most, ok.base, ok.epoch, ?_, ?_, ?_, by simp⟩
        · simp only [List.length_append, frames, List.flatMap_nil, List.length_nil]
          exact ok.fits
        · simp only [frames_append, ok.form]
        · intro r hr
          rcases List.mem_append.1 hr with h | h
          · exact ok.recs r h
          · exact ok.waits r h
      · exact Lg.lost_ok ok
    · exact Lg.lost_ok ok

theorem Lg.reset_ok {l : Lg} (ok : l.Ok) (σ : Dk) : (l.reset σ).2.1.Ok := by
  unfold Lg.reset
  split
  · exact ok
  split
  · exact ok
  split
  · exact ok
  · rename_i h1 h2 h3
    simp only []
    split
    · have hw : l.waiting = [] := by simpa using h2
      refine ⟨ok.two, ok.most, ok.base, by have := ok.epoch; simp only []; omega, by simp [hw, frames], by simp [frames], by simp, ok.waits⟩
    · exact Lg.lost_ok ok

end Go.Proofs.YtjaabhdgahljcaaDoor
