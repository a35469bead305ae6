/- SectorWhole, the plain part: what the drawn writes make of a disk of four sectors, and what is wanted. No Go. -/
import Derived.Test.YtanjlfppppghpaaDisk
namespace Go.Proofs.Ytanjlfppppghpaa
open Go.RowKit

/-- A text as the statement cuts it. -/
def cut64 (ss : List ByteArray) (k : Nat) : List UInt8 := (ss.getD k ByteArray.empty).data.toList.take 64

def wholeDk (ss : List ByteArray) : Nat → Dk
  | 0 => Dk.new 4
  | k + 1 => ((wholeDk ss k).write ((k : Int) % 4) (cut64 ss k)).2

def wholeWant (ss : List ByteArray) (keep : List Bool) : Nat → List (List UInt8)
  | 0 => List.replicate 4 (pad [])
  | k + 1 => if keep.getD k false then (wholeWant ss keep k).set (k % 4) (pad (cut64 ss k)) else wholeWant ss keep k

theorem cut64_le (ss : List ByteArray) (k : Nat) : (cut64 ss k).length ≤ 64 := by simp [cut64]; omega

theorem wholeDk_inv (ss : List ByteArray) (k : Nat) : (wholeDk ss k).down = false ∧ (wholeDk ss k).armed = false ∧ (wholeDk ss k).kept = List.replicate 4 (List.replicate 64 0) ∧
    (wholeDk ss k).pend = (List.range k).map fun i => (i % 4, pad (cut64 ss i)) := by
  induction k with
  | zero => exact ⟨rfl, rfl, rfl, rfl⟩
  | succ k ih =>
    obtain ⟨h1, h2, h3, h4⟩ := ih
    have hhas : (wholeDk ss k).has ((k : Int) % 4) = true := by simp [Dk.has, h3]; omega
    have hl := cut64_le ss k
    have hd : (wholeDk ss k).does = (0, { wholeDk ss k with done := wrap64 ((wholeDk ss k).done + 1) }) := by simp [Dk.does, h2]
    have e : wholeDk ss (k + 1) = ({ wholeDk ss k with done := wrap64 ((wholeDk ss k).done + 1) } : Dk).put (k % 4) (cut64 ss k) := by
      show ((wholeDk ss k).write ((k : Int) % 4) (cut64 ss k)).2 = _
      unfold Dk.write
      rw [if_neg (by simp [h1]), if_pos hhas, if_neg (by omega), hd]
      simp only [↓reduceIte]
      congr 1
    rw [e]
    refine ⟨h1, h2, h3, ?_⟩
    simp only [Dk.put]
    rw [h4, List.range_succ, List.map_append]
    rfl

theorem wholeDk_write (ss : List ByteArray) (k : Nat) : ((wholeDk ss k).write ((k : Int) % 4) (cut64 ss k)).1 = 0 := by
  obtain ⟨h1, h2, h3, h4⟩ := wholeDk_inv ss k
  have hhas : (wholeDk ss k).has ((k : Int) % 4) = true := by simp [Dk.has, h3]; omega
  have hl := cut64_le ss k
  have hd : (wholeDk ss k).does.1 = 0 := by simp [Dk.does, h2]
  unfold Dk.write
  rw [if_neg (by simp [h1]), if_pos hhas, if_neg (by omega), if_pos hd]

theorem wholeDk_room (ss : List ByteArray) (k : Nat) : (wholeDk ss k).pend.length = k := by rw [(wholeDk_inv ss k).2.2.2]; simp

theorem whole_kept (ss : List ByteArray) (keep : List Bool) (k : Nat) :
    keepAll (List.replicate 4 (List.replicate 64 0)) (marked keep 0 ((List.range k).map fun i => (i % 4, pad (cut64 ss i)))) = wholeWant ss keep k := by
  induction k with
  | zero => simp [marked, keepAll, wholeWant, pad]
  | succ k ih =>
    rw [List.range_succ, List.map_append, List.map_cons, List.map_nil, marked_snoc, List.length_map, List.length_range, Nat.zero_add, wholeWant]
    split
    · rw [keepAll_snoc, ih]
    · rw [List.append_nil, ih]

theorem wholeWant_length (ss : List ByteArray) (keep : List Bool) (k : Nat) : (wholeWant ss keep k).length = 4 := by
  induction k with
  | zero => simp [wholeWant]
  | succ k ih => unfold wholeWant; split <;> simp [ih]

/-- The disk behind Off and On. -/
def wholeEnd (ss : List ByteArray) (keep : List Bool) (k : Nat) : Dk := ((wholeDk ss k).off.2.on keep).2

theorem whole_off (ss : List ByteArray) (keep : List Bool) (k : Nat) : ((wholeDk ss k).off.2.on keep).1 = 0 := by
  obtain ⟨h1, h2, h3, h4⟩ := wholeDk_inv ss k
  simp [Dk.off, h1, Dk.on]

theorem wholeEnd_eq (ss : List ByteArray) (keep : List Bool) (k : Nat) : (wholeEnd ss keep k).kept = wholeWant ss keep k ∧ (wholeEnd ss keep k).pend = [] ∧ (wholeEnd ss keep k).down = false := by
  obtain ⟨h1, h2, h3, h4⟩ := wholeDk_inv ss k
  refine ⟨?_, ?_, ?_⟩
  · simp only [wholeEnd, Dk.off, h1, Dk.on]
    simp only [Bool.false_eq_true, ↓reduceIte]
    rw [h3, h4]
    exact whole_kept ss keep k
  · simp [wholeEnd, Dk.off, h1, Dk.on]
  · simp [wholeEnd, Dk.off, h1, Dk.on]

theorem wholeEnd_read (ss : List ByteArray) (keep : List Bool) (k i : Nat) (hi : i < 4) : ((wholeEnd ss keep k).read (i : Int)).1 = (wholeWant ss keep k).getD i [] := by
  obtain ⟨h1, h2, h3⟩ := wholeEnd_eq ss keep k
  have hl := wholeWant_length ss keep k
  have hhas : (wholeEnd ss keep k).has (i : Int) = true := by simp [Dk.has, h1, hl]; omega
  simp [Dk.read, h3, hhas, Dk.look, h1, h2]

end Go.Proofs.Ytanjlfppppghpaa
