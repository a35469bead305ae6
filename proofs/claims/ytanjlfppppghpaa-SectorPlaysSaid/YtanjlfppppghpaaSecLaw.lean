/- Helpers of the sector's statements: fill (a text as a sector has it); no condition. -/
import Derived.Test.YtanjlfppppghpaaSecWorks
namespace Go.Proofs.Ytanjlfppppghpaa
open Go.RowKit

theorem info_byte : ∃ i, Try.prog.info? 5 = some i ∧ i.zero = some (.int .u8 0) ∧ i.size = 1 ∧ i.bytes = 1 := by
  have h : (Try.prog.info? 5).map (fun i => (i.zero, i.size, i.bytes)) = some (some (.int .u8 0), 1, 1) := by kernel_rfl
  cases hq : Try.prog.info? 5 with
  | none => simp [hq] at h
  | some i => exact ⟨i, rfl, by simpa [hq] using h⟩

theorem fill_cells (s : ByteArray) : ((splice (List.replicate (64 * 1) (byteV 0)) 0 ((s.data.toList.take 64).map byteV)).drop 0).take 64 = (pad (s.data.toList.take 64)).map byteV := by
  have h : (s.data.toList.take 64).length ≤ 64 := by simp; omega
  generalize s.data.toList.take 64 = l at *
  rw [List.drop_zero, List.take_of_length_le (by simp [splice]; omega)]
  simp only [splice, pad, List.take_zero, List.nil_append, Nat.zero_add, List.length_map, List.map_append, List.map_replicate, Nat.mul_one, List.drop_replicate]

theorem fill_ok (s : ByteArray) (w : World) :
    Calls Try.prog 9 #[.string s] w fun e w' => e = .returned (.string ⟨(pad (s.data.toList.take 64)).toArray⟩) ∧ Pres [] w w' := by
  obtain ⟨i, hi, hz, hs, hb⟩ := info_byte
  have HI := And.intro hi (And.intro hz (And.intro hs hb))
  clear hi hz hs hb
  go_enter Try.func9, Try.ntmps9
  go_wp2_with (first | ((with_reducible refine at_mk ?_); refine wpL_make rfl 62 _ _ rfl 5 i _ (byteV 0) Try.underlying62 HI.1 HI.2.1 (by rw [HI.2.2.1]; rfl) (by rw [HI.2.2.1]; omega) 64 rfl rfl (by rw [HI.2.2.2]; omega) (by omega) ?_; intro w1 A1 P1 S1) | ((with_reducible refine at_copy ?_); refine wpL_copy_string rfl (.tmp 5) (.tmp 6) 62 9 rfl 5 Try.underlying62 (by kernel_rfl) w.heap.size 0 64 64 rfl s rfl _ _ A1 (by simp [HI.2.2.1]) ?_; intro w2 A2 P2 S2) | ((with_reducible refine at_conv ?_); refine wpL_bytes_string rfl 62 9 (.tmp 8) rfl 5 Try.underlying62 Try.underlying5 Try.underlying9 w.heap.size 0 64 64 rfl (pad (s.data.toList.take 64)) (length_pad (by simp; omega)) _ _ A2 (by rw [HI.2.2.1]; exact fill_cells s) ?_))
  go_ret
  exact ⟨rfl, P1.trans P2 (by intro x hx; simp at hx; right; omega)⟩

theorem info_string : ∃ i, Try.prog.info? 9 = some i ∧ i.zero = some (.string ⟨#[]⟩) ∧ i.size = 1 ∧ i.bytes = 16 := by
  have h : (Try.prog.info? 9).map (fun i => (i.zero, i.size, i.bytes)) = some (some (.string ⟨#[]⟩), 1, 16) := by kernel_rfl
  cases hq : Try.prog.info? 9 with
  | none => simp [hq] at h
  | some i => exact ⟨i, rfl, by simpa [hq] using h⟩

/-- What all sectors have, as strings. -/
def allOf (σ : Dk) (n : Nat) : List Value := (List.range n).map fun (i : Nat) => Value.string ⟨(σ.read (i : Int)).1.toArray⟩

theorem allOf_succ (σ : Dk) (n : Nat) : allOf σ (n + 1) = allOf σ n ++ [.string ⟨(σ.read (n : Int)).1.toArray⟩] := by
  simp [allOf, List.range_succ]

theorem all_ok {w : World} {d : Nat} {fp : List Nat} {σ : Dk} (h : DiskAt w d fp σ) :
    Calls Try.prog 13 #[.pointer (some ⟨d, 0, none⟩)] w fun e w' => ∃ v, e = .returned v ∧ Sl w' 9 1 v σ.kept.length (allOf σ σ.kept.length) ∧ Pres [] w w' ∧ ∀ k ∈ fpv v, w.heap.size ≤ k := by
  have hz := fun W (hW : W = w) => hW ▸ disk_size h
  have hm : (σ.kept.length : Int) ≤ 65536 := by have := h.ok.most; omega
  obtain ⟨i, hi, hzr, hs, hb⟩ := info_string
  have HI := And.intro hi (And.intro hzr (And.intro hs hb))
  have HH := hid h
  clear hi hzr hs hb h
  go_enter Try.func13, Try.ntmps13
  go_wp2_with (go_at_call 24; refine (hz _ rfl).mono ?_; rintro e w' ⟨rfl, rfl⟩)
  go_loopw [3, 9] (fun v iv wr => ∃ (k : Nat) (x : Value), x = v ∧ k ≤ σ.kept.length ∧ iv = .int .i64 (k : Int) ∧ Sl wr 9 1 x k (allOf σ k) ∧ Pres [] w wr ∧ ∀ k ∈ fpv x, w.heap.size ≤ k) (fun _ iv _ => σ.kept.length - (intOf iv).toNat)
  case atStart => exact ⟨0, _, rfl, Nat.zero_le _, rfl, Sl.nil _ _ _, Pres.refl _ _, by simp [fpv]⟩
  case round =>
    obtain ⟨k, v, rfl, hk, rfl, hS, hP, hF⟩ := hrel
    by_cases hlt : k < σ.kept.length
    · have hD := HH.out.pres hP (by simp)
      have hlt' : (k : Int) < (σ.kept.length : Int) := by omega
      have hR := fun W (hW : W = wr) => hW ▸ disk_read hD (k : Int)
      clear hz hD
      go_wp2_with (first | (go_at_call 25; refine (hR _ rfl).mono ?_; rintro e w1 ⟨rfl, Q⟩; have hS1 := (hS.pres Q (by simp)).pres ((Pres.refl [] _).alloc (.cells #[.string ⟨(σ.read (k : Int)).1.toArray⟩] 9)) (by simp); have B1 := At.new w1 [.string ⟨(σ.read (k : Int)).1.toArray⟩] 9) | ((with_reducible refine at_append ?_); refine wpL_append rfl (.tmp 18) (.tmp 20) 22 rfl 9 i _ 1 Try.underlying22 HI.1 HI.2.1 HI.2.2.1 rfl v k (allOf σ k) rfl hS1 ⟨w1.heap.size, 0, none⟩ 1 1 [.string ⟨(σ.read (k : Int)).1.toArray⟩] rfl rfl (fun j u hu => by rw [addr_add, Nat.zero_add, B1.cell]; exact hu) (by simp [Value.oneCell']) (by simp only [maxLen]; omega) (by rw [HI.2.2.2]; omega) ?_; intro v' w2 X1 X2 X3))
      go_roundw
      case rel => exact ⟨k + 1, v', rfl, by omega, by go_num, by rw [allOf_succ]; exact X1, ((hP.then Q).alloc _).trans X2 (fun x hx => .inr (hF x hx)), fun k hk => by rcases X3 k hk with h1 | h1; exact hF k h1; have := hP.size; have := Q.size; simp at h1; omega⟩
      case measure => simp [intOf]; omega
    · have hend : ¬ (k : Int) < (σ.kept.length : Int) := by omega
      have ek : k = σ.kept.length := by omega
      subst ek
      go_wp2
      go_ret
      exact ⟨v, rfl, hS, hP, hF⟩

end Go.Proofs.Ytanjlfppppghpaa
