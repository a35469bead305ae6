/- Parts of the proof: A database of pages (layer 10): number, value, none, up, lose, Count come to their data; conditions stand in the theorems. -/
import Derived.Test.YtnffnpndnaofhaaGreatDoorQal
import Derived.Test.YtnffnpndnaofhaaGreatDoorQan
import Derived.Test.YtnffnpndnaofhaaGreatDoorQao

/- A database of pages (layer 10): number, value, none, up, lose, Count come to their data; conditions stand in the theorems. -/
namespace Go.Proofs.YtnffnpndnaofhaaGreatDoor
open Go.RowKit
set_option maxRecDepth 100000

theorem str_z (l : List UInt8) : ∃ z : ByteArray, Hid (z = ⟨l.toArray⟩) ∧ strV l = .string z ∧ z.size = l.length := ⟨_, hid rfl, rfl, by rw [ba_size, ba_mk]⟩

/-- What page 0 has: roots, the high mark, the first free page, how many are free. -/
structure Meta where
  r0 : Nat
  r1 : Nat
  r2 : Nat
  r3 : Nat
  high : Nat
  free : Nat
  count : Nat

def Meta.cells (m : Meta) : List Value := [.int .i64 (m.r0 : Int), .int .i64 (m.r1 : Int), .int .i64 (m.r2 : Int), .int .i64 (m.r3 : Int), .int .i64 (m.high : Int), .int .i64 (m.free : Int), .int .i64 (m.count : Int)]

def dbCells (d l log : Nat) (m : Meta) (opn : Value) (lost : Bool) : List Value :=
  [.pointer (some ⟨d, 0, none⟩), .pointer (some ⟨l, 0, none⟩), .int .i64 (log : Int), .int .i64 (m.r0 : Int), .int .i64 (m.r1 : Int), .int .i64 (m.r2 : Int), .int .i64 (m.r3 : Int), .int .i64 (m.high : Int), .int .i64 (m.free : Int), .int .i64 (m.count : Int), opn, .bool lost]

theorem pd_number (n : Nat) (w : World) (hn : n < 2 ^ 31) :
    Calls Tryz.prog 63 #[.int .i64 (n : Int)] w fun e w' => e = .returned (.string ⟨(numLE n 4).toArray⟩) ∧ Pres [] w w' := by
  have A := hid (At.new w [.int .u8 ((n : Int) % 256), .int .u8 ((n : Int) / 256 % 256), .int .u8 ((n : Int) / 65536 % 256), .int .u8 ((n : Int) / 16777216)] 5)
  have hcell : [Value.int .u8 ((n : Int) % 256), .int .u8 ((n : Int) / 256 % 256), .int .u8 ((n : Int) / 65536 % 256), .int .u8 ((n : Int) / 16777216)] = (numLE n 4).map byteV := by
    have e : (numLE n 4).map byteV = [byteV (UInt8.ofNat (n / 2 ^ (8 * 0))), byteV (UInt8.ofNat (n / 2 ^ (8 * 1))), byteV (UInt8.ofNat (n / 2 ^ (8 * 2))), byteV (UInt8.ofNat (n / 2 ^ (8 * 3)))] := rfl
    rw [e, ← num_cell n 0, ← num_cell n 1, ← num_cell n 2, ← num_cell n 3]
    have q0 : (n : Int) / 2 ^ (8 * 0) % 256 = (n : Int) % 256 := by omega
    have q1 : (n : Int) / 2 ^ (8 * 1) % 256 = (n : Int) / 256 % 256 := by omega
    have q2 : (n : Int) / 2 ^ (8 * 2) % 256 = (n : Int) / 65536 % 256 := by omega
    have q3 : (n : Int) / 2 ^ (8 * 3) % 256 = (n : Int) / 16777216 := by omega
    rw [q0, q1, q2, q3]
  have HC := hid hcell
  have h31 : (n : Int) < 2147483648 := by omega
  have hmod : (n : Int) / 16777216 % 256 = (n : Int) / 16777216 := by omega
  clear hcell
  go_enter Tryz.func63, Tryz.ntmps63
  go_wp2_with (((with_reducible refine at_conv ?_); refine wpL_bytes_string rfl 122 9 _ rfl 5 Tryz.underlying122 Tryz.underlying5 Tryz.underlying9 w.heap.size 0 4 4 rfl (numLE n 4) (length_numLE n 4) _ _ A.out (by rw [List.drop_zero, List.take_of_length_le (by simp)]; exact HC.out) ?_))
  go_ret
  exact ⟨rfl, (Pres.refl _ _).alloc _⟩

theorem bits_or64i {a b i : Nat} (hb : b < 2 ^ i) (h : a * 2 ^ i + b < 2 ^ 32) : bits .or .i64 (b : Int) ((a * 2 ^ i : Nat) : Int) = ((b + a * 2 ^ i : Nat) : Int) := by
  have e1 : (BitVec.ofInt 64 ((a * 2 ^ i : Nat) : Int)).toNat = a * 2 ^ i := by rw [BitVec.toNat_ofInt]; omega
  have e2 : (BitVec.ofInt 64 (b : Int)).toNat = b := by rw [BitVec.toNat_ofInt]; omega
  have e3 : b ||| a * 2 ^ i = b + a * 2 ^ i := by
    have := Nat.two_pow_add_eq_or_of_lt hb a
    rw [Nat.mul_comm, Nat.or_comm] at this
    omega
  have e : (BitVec.ofInt 64 (b : Int) ||| BitVec.ofInt 64 ((a * 2 ^ i : Nat) : Int)).toNat = b + a * 2 ^ i := by rw [BitVec.toNat_or, e1, e2, e3]
  change IntKind.i64.wrap ((BitVec.ofInt 64 (b : Int) ||| BitVec.ofInt 64 ((a * 2 ^ i : Nat) : Int)).toNat : Int) = _
  rw [e, IntKind.wrap_i64]
  omega

theorem pd_value (s : ByteArray) (w : World) (hs : 4 ≤ s.size) :
    Calls Tryz.prog 60 #[.string s] w fun e w' => e = .returned (.int .i64 ((valLE (s.data.toList.take 4) : Nat) : Int)) ∧ w' = w.drew := by
  have hv := valLE_four hs
  obtain ⟨V, hV⟩ : ∃ V, Hid (valLE (s.data.toList.take 4) = V) := ⟨_, hid rfl⟩
  rw [hV.out] at hv ⊢
  have h0 : (0 : Nat) < s.size := by omega
  have h1 : (1 : Nat) < s.size := by omega
  have h2 : (2 : Nat) < s.size := by omega
  have h3 : (3 : Nat) < s.size := by omega
  have b0 : s[0].toNat < 256 := s[0].toNat_lt
  have b1 : s[1].toNat < 256 := s[1].toNat_lt
  have b2 : s[2].toNat < 256 := s[2].toNat_lt
  have b3 : s[3].toNat < 256 := s[3].toNat_lt
  have i0 : (0 : Int) < (s.size : Int) := by omega
  have i1 : (1 : Int) < (s.size : Int) := by omega
  have i2 : (2 : Int) < (s.size : Int) := by omega
  have i3 : (3 : Int) < (s.size : Int) := by omega
  obtain ⟨x0, e0⟩ : ∃ x, s[0].toNat = x := ⟨_, rfl⟩
  obtain ⟨x1, e1⟩ : ∃ x, s[1].toNat = x := ⟨_, rfl⟩
  obtain ⟨x2, e2⟩ : ∃ x, s[2].toNat = x := ⟨_, rfl⟩
  obtain ⟨x3, e3⟩ : ∃ x, s[3].toNat = x := ⟨_, rfl⟩
  rw [e0, e1, e2, e3] at hv
  rw [e0] at b0
  rw [e1] at b1
  rw [e2] at b2
  rw [e3] at b3
  have u0 : IntKind.i64.wrap (x0 : Int) = (x0 : Int) := by rw [IntKind.wrap_i64]; omega
  have u1 : IntKind.i64.wrap (x1 : Int) = (x1 : Int) := by rw [IntKind.wrap_i64]; omega
  have u2 : IntKind.i64.wrap (x2 : Int) = (x2 : Int) := by rw [IntKind.wrap_i64]; omega
  have u3 : IntKind.i64.wrap (x3 : Int) = (x3 : Int) := by rw [IntKind.wrap_i64]; omega
  obtain ⟨y1, f1⟩ : ∃ y, Hid (x1 * 2 ^ 8 = y) := ⟨_, hid rfl⟩
  obtain ⟨y2, f2⟩ : ∃ y, Hid (x2 * 2 ^ 16 = y) := ⟨_, hid rfl⟩
  obtain ⟨y3, f3⟩ : ∃ y, Hid (x3 * 2 ^ 24 = y) := ⟨_, hid rfl⟩
  obtain ⟨z1, g1⟩ : ∃ y, Hid (x0 + y1 = y) := ⟨_, hid rfl⟩
  obtain ⟨z2, g2⟩ : ∃ y, Hid (z1 + y2 = y) := ⟨_, hid rfl⟩
  have m1 : IntKind.i64.wrap ((x1 : Int) * 256) = (y1 : Int) := by rw [IntKind.wrap_i64, ← f1.out]; omega
  have m2 : IntKind.i64.wrap ((x2 : Int) * 65536) = (y2 : Int) := by rw [IntKind.wrap_i64, ← f2.out]; omega
  have m3 : IntKind.i64.wrap ((x3 : Int) * 16777216) = (y3 : Int) := by rw [IntKind.wrap_i64, ← f3.out]; omega
  have o1 : bits .or .i64 (x0 : Int) (y1 : Int) = (z1 : Int) := by
    have := bits_or64i (a := x1) (b := x0) (i := 8) (by omega) (by omega)
    rw [f1.out, g1.out] at this
    exact this
  have o2 : bits .or .i64 (z1 : Int) (y2 : Int) = (z2 : Int) := by
    have := bits_or64i (a := x2) (b := z1) (i := 16) (by rw [← g1.out, ← f1.out]; omega) (by rw [← g1.out, ← f1.out]; omega)
    rw [f2.out, g2.out] at this
    exact this
  have o3 : bits .or .i64 (z2 : Int) (y3 : Int) = (V : Int) := by
    have := bits_or64i (a := x3) (b := z2) (i := 24) (by rw [← g2.out, ← g1.out, ← f1.out, ← f2.out]; omega) (by rw [← g2.out, ← g1.out, ← f1.out, ← f2.out]; omega)
    rw [f3.out] at this
    rw [this]
    have hvv : V = z2 + y3 := by rw [hv, ← g2.out, ← g1.out, ← f1.out, ← f2.out, ← f3.out]
    rw [hvv]
  clear hv hs b0 b1 b2 b3
  go_enter Tryz.func60, Tryz.ntmps60
  go_upto_region 1 with fail
  refine wp_stages (by kernel_rfl) ?_
  refine wp_stage (fun _ => True) [(0, true), (1, true), (2, true), (3, true), (4, true), (5, true), (6, true), (7, true), (8, true), (9, true), (10, true), (11, true), (12, true), (13, true), (14, true), (15, true), (16, true)] 2 rfl (by kernel_rfl) (by intro c a dd v w h; cases dd <;> exact h) (trivial) ?_
  iterate 17 (refine wpOrd_read (v := _) rfl rfl (by intro w' hS; skip; clear hS; go_simp; rfl) ?_; (try simp only [Act.put, List.setIfInBounds_toArray, List.set_cons_succ, List.set_cons_zero, List.getElem_toArray, List.getElem_cons_succ, List.getElem_cons_zero]))
  refine wpOrd_end ?_
  refine wp_stages_end 17 (by rfl) (by kernel_rfl) ?_
  simp only [List.drop_succ_cons, List.drop_zero]
  go_wp2
  go_ret
  exact ⟨rfl, rfl⟩

section
variable {w0 w : World} {ps : List HP} {x d l log : Nat} {m : Meta} {opn : Value} {lost : Bool} {σ : Dk}

theorem pd_none (H : St w0 w (objP x (dbCells d l log m opn lost) 62 :: ps)) :
    Calls Tryz.prog 61 #[.pointer (some ⟨x, 0, none⟩)] w fun e w' => e = .returned (.bool false) ∧ w = w' := by
  have c0 := (H.obj 0 rfl).cell 0
  simp only [dbCells, List.getElem?_cons_zero] at c0
  clear H
  go_enter Tryz.func61, Tryz.ntmps61
  go_wp2
  go_ret
  exact ⟨rfl, rfl⟩

theorem pd_up (H : St w0 w (objP x (dbCells d l log m opn lost) 62 :: diskP d σ :: ps)) :
    Calls Tryz.prog 50 #[.pointer (some ⟨x, 0, none⟩)] w fun e w' => e = .returned (.int .i64 (if lost || σ.down then 10 else 0)) ∧ w = w' := by
  have hn := fun W (hW : W = w) => hW ▸ pd_none H
  have hd := fun W (hW : W = w) => hW ▸ sd_down (H.pull 1 rfl)
  have c0 := (H.obj 0 rfl).cell 0
  have c11 := (H.obj 0 rfl).cell 11
  simp only [dbCells, List.getElem?_cons_succ, List.getElem?_cons_zero] at c0 c11
  clear H
  cases lost
  · cases hdn : σ.down
    all_goals
      rw [hdn] at hd
      clear hdn
      go_enter Tryz.func50, Tryz.ntmps50
      go_wp2_with (first | (go_at_call 61; refine (hn _ rfl).mono ?_; rintro e w' ⟨rfl, rfl⟩) | (go_at_call 33; refine (hd _ rfl).mono ?_; rintro e w' ⟨rfl, rfl⟩))
      go_ret
      exact ⟨rfl, rfl⟩
  · clear hd
    go_enter Tryz.func50, Tryz.ntmps50
    go_wp2_with (go_at_call 61; refine (hn _ rfl).mono ?_; rintro e w' ⟨rfl, rfl⟩)
    go_ret
    exact ⟨rfl, rfl⟩

theorem pd_lose (H : St w0 w (objP x (dbCells d l log m opn lost) 62 :: ps)) (e : Int) :
    Calls Tryz.prog 56 #[.pointer (some ⟨x, 0, none⟩), .int .i64 e] w fun en w' => en = .returned (.int .i64 e) ∧ St w0 w' (objP x (dbCells d l log m opn (lost || e != 0)) 62 :: ps) := by
  have c11 := (H.obj 0 rfl).cell 11
  have f11 := (H.obj 0 rfl).frozen 11
  simp only [dbCells, List.getElem?_cons_succ, List.getElem?_cons_zero] at c11
  have HH := hid H
  clear H
  cases lost
  all_goals
    go_enter Tryz.func56, Tryz.ntmps56
    go_wp2
    go_ret
    exact ⟨rfl, HH.out.set 0 rfl 11 _⟩

theorem pd_count (H : St w0 w (objP x (dbCells d l log m opn lost) 62 :: diskP d σ :: ps)) (hl : log ≤ σ.kept.length) :
    Calls Tryz.prog 24 #[.pointer (some ⟨x, 0, none⟩)] w fun e w' => e = .returned (.int .i64 (((σ.kept.length - log) / 8 : Nat) : Int)) ∧ Pres [] w w' := by
  have hn := fun W (hW : W = w) => hW ▸ pd_none H
  have ok := sd_ok (H.pull 1 rfl)
  have hmost := ok.most
  have c0 := (H.obj 0 rfl).cell 0
  have c2 := (H.obj 0 rfl).cell 2
  simp only [dbCells, List.getElem?_cons_succ, List.getElem?_cons_zero] at c0 c2
  have HH := hid H
  obtain ⟨sz, hsz⟩ : ∃ sz, Hid (σ.kept.length = sz) := ⟨_, hid rfl⟩
  have hs := fun W (h : St w0 W (diskP d σ :: objP x (dbCells d l log m opn lost) 62 :: ps)) => sd_size h
  rw [hsz.out] at hs hl hmost ⊢
  have w1 : IntKind.i64.wrap ((sz : Int) - (log : Int)) = (sz : Int) - (log : Int) := by rw [IntKind.wrap_i64]; omega
  clear H ok
  go_enter Tryz.func24, Tryz.ntmps24
  go_upto_region 3 with (go_at_call 61; refine (hn _ rfl).mono ?_; rintro e w' ⟨rfl, rfl⟩)
  refine wp_stages (by kernel_rfl) ?_
  have HD := hid (HH.out.drew)
  have P0 := hid ((Pres.refl [] w).drew)
  have S0 : w.drew.cell? ⟨x, 0, none⟩ = some (.pointer (some ⟨d, 0, none⟩)) ∧ w.drew.cell? ⟨x, 2, none⟩ = some (.int .i64 (log : Int)) := ⟨c0, c2⟩
  generalize w.drew = wd at *
  refine wp_stage (fun W => W.cell? ⟨x, 0, none⟩ = some (.pointer (some ⟨d, 0, none⟩)) ∧ W.cell? ⟨x, 2, none⟩ = some (.int .i64 (log : Int))) [(0, true), (1, true), (2, true), (3, true), (5, true), (6, true), (7, true), (8, true), (4, false)] 3 rfl (by kernel_rfl) (by intro c a dd v w h; cases dd <;> exact h) (S0) ?_
  iterate 8 (refine wpOrd_read (v := _) rfl rfl (by intro w' hS; obtain ⟨s1, s2⟩ := id hS; clear hS; go_simp; rfl) ?_; (try simp only [Act.put, List.setIfInBounds_toArray, List.set_cons_succ, List.set_cons_zero, List.getElem_toArray, List.getElem_cons_succ, List.getElem_cons_zero]))
  refine wpOrd_do rfl rfl (fun K hK => ?_)
  go_simp
  refine (hs _ (HD.out.pull 1 rfl)).mono ?_
  rintro e w2 ⟨rfl, rfl⟩
  refine hK _ _ ⟨S0, ?_⟩
  clear hK K
  (try simp only [Act.put, List.setIfInBounds_toArray, List.set_cons_succ, List.set_cons_zero, List.getElem_toArray, List.getElem_cons_succ, List.getElem_cons_zero])
  refine wpOrd_end ?_
  refine wp_stages_end 9 (by rfl) (by kernel_rfl) ?_
  simp only [List.drop_succ_cons, List.drop_zero]
  go_wp2
  go_ret
  refine ⟨congrArg (fun v : Int => Ending.returned (.int .i64 v)) ?_, P0.out⟩
  omega
end

end Go.Proofs.YtnffnpndnaofhaaGreatDoor

/- A database of pages (layer 10): image and lay come to their data; conditions stand in the theorems. -/
namespace Go.Proofs.YtnffnpndnaofhaaGreatDoor
open Go.RowKit
set_option maxRecDepth 100000

set_option maxHeartbeats 4000000 in
theorem pd_image {w0 w : World} {ps : List HP} {x d l log : Nat} {m : Meta} {opn : Value} {lost : Bool} {σ : Dk} (H : St w0 w (objP x (dbCells d l log m opn lost) 62 :: diskP d σ :: ps)) (pg : Nat) (hd : σ.down = false) (hr : log + 8 * pg + 8 ≤ σ.kept.length) :
    Calls Tryz.prog 46 #[.pointer (some ⟨x, 0, none⟩), .int .i64 (pg : Int)] w fun e w' => e = .returned (.tuple #[strV (sectorsB σ (log + 8 * pg) 8), .int .i64 0]) ∧ St w0 w' (objP x (dbCells d l log m opn lost) 62 :: diskP d σ :: ps) ∧ Pres [] w w' := by
  have ok := sd_ok (H.pull 1 rfl)
  have hmost := ok.most
  have HH := hid H
  have OK := hid ok
  have HD := hid hd
  obtain ⟨sz, hsz⟩ : ∃ sz, Hid (σ.kept.length = sz) := ⟨_, hid rfl⟩
  rw [hsz.out] at hr hmost
  obtain ⟨B, hB⟩ : ∃ B, Hid (log + 8 * pg = B) := ⟨_, hid rfl⟩
  rw [hB.out] at hr ⊢
  have qa : IntKind.i64.wrap ((pg : Int) * 8) = (pg : Int) * 8 := by have := hB.out; rw [IntKind.wrap_i64]; omega
  have qb : IntKind.i64.wrap (B : Int) = (B : Int) := by rw [IntKind.wrap_i64]; omega
  have qc : (log : Int) + (pg : Int) * 8 = (B : Int) := by have := hB.out; omega
  clear H ok hd
  go_enter Tryz.func46, Tryz.ntmps46
  go_wp2_with fail
  go_loopw [6, 10] (fun sv iv wr => ∃ k : Nat, k ≤ 8 ∧ iv = .int .i64 (k : Int) ∧ sv = strV (sectorsB σ B k) ∧ St w0 wr (objP x (dbCells d l log m opn lost) 62 :: diskP d σ :: ps) ∧ Pres [] w wr) (fun _ iv _ => 8 - (intOf iv).toNat)
  case atStart => exact ⟨0, Nat.zero_le _, rfl, rfl, HH.out, Pres.refl _ _⟩
  case round =>
    obtain ⟨k, hk, rfl, rfl, hM, hP⟩ := hrel
    clear HH
    have HH := hid hM
    have HP := hid hP
    have c0 := (hM.obj 0 rfl).cell 0
    have c2 := (hM.obj 0 rfl).cell 2
    simp only [dbCells, List.getElem?_cons_succ, List.getElem?_cons_zero] at c0 c2
    have hsl := sectorsB_length OK.out B k (by rw [hsz.out]; omega)
    obtain ⟨za, hza, eza, hzas⟩ := str_z (sectorsB σ B k)
    rw [eza]
    rw [hsl] at hzas
    have HZA := hid eza
    clear eza hsl hM hP
    by_cases hlt : k < 8
    · have hlt' : (k : Int) < 8 := by omega
      obtain ⟨I, hI⟩ : ∃ I, B + k = I := ⟨_, rfl⟩
      have qd : IntKind.i64.wrap ((B : Int) + (k : Int)) = (I : Int) := by rw [IntKind.wrap_i64]; omega
      have hIs : I < sz := by omega
      have hread := read_has HD.out (σ := σ) (i := I) (by rw [hsz.out]; exact hIs)
      have hlook := Dk.look_length OK.out (i := I) (by rw [hsz.out]; exact hIs)
      obtain ⟨z1, hz1⟩ : ∃ z : ByteArray, Hid (z = ⟨(σ.look I).toArray⟩) := ⟨_, hid rfl⟩
      have hz1s : z1.size = 64 := by rw [ba_size, hz1.out, ba_mk, hlook]
      have HI := hid hI
      have hza2 : za.size ≤ 512 := by omega
      clear hlook hI hzas
      go_upto_region 5 with (fail)
      refine wp_stages (by kernel_rfl) ?_
      have S0 : wr.drew.cell? ⟨x, 0, none⟩ = some (.pointer (some ⟨d, 0, none⟩)) ∧ wr.drew.cell? ⟨x, 2, none⟩ = some (.int .i64 (log : Int)) := ⟨c0, c2⟩
      refine wp_stage (fun W => W.cell? ⟨x, 0, none⟩ = some (.pointer (some ⟨d, 0, none⟩)) ∧ W.cell? ⟨x, 2, none⟩ = some (.int .i64 (log : Int))) [(0, true), (1, true), (2, true), (3, true), (4, true), (5, true), (6, true), (7, true), (8, true), (9, true), (10, true), (11, true), (12, true), (13, false)] 5 rfl (by kernel_rfl) (by intro c a dd v w h; cases dd <;> exact h) (S0) ?_
      iterate 13 (refine wpOrd_read (v := _) rfl rfl (by intro w' hS; obtain ⟨s1, s2⟩ := id hS; clear hS; go_simp; rfl) ?_; (try simp only [Act.put, List.setIfInBounds_toArray, List.set_cons_succ, List.set_cons_zero, List.getElem_toArray, List.getElem_cons_succ, List.getElem_cons_zero]))
      have HW := hid (HH.out.drew.pull 1 rfl)
      have HPW := hid HP.out.drew
      generalize wr.drew = wd at *
      have hrd := sd_read HW.out (I : Int)
      rw [hread, ← hz1.out] at hrd
      clear hread c0 c2
      refine wpOrd_do rfl rfl (fun K hK => ?_)
      go_simp
      refine hrd.mono ?_
      rintro e w7 ⟨rfl, H7, P7⟩
      refine hK _ _ ⟨⟨P7.cell S0.1 (by simp), P7.cell S0.2 (by simp)⟩, ?_⟩
      clear hK K S0 hrd
      have H7 := hid (H7.pull 1 rfl)
      have P8 := hid (HPW.out.then P7)
      (try simp only [Act.put, List.setIfInBounds_toArray, List.set_cons_succ, List.set_cons_zero, List.getElem_toArray, List.getElem_cons_succ, List.getElem_cons_zero])
      refine wpOrd_end ?_
      refine wp_stage (fun _ => True) [(14, true), (15, true), (16, true), (17, false)] 1 rfl (by kernel_rfl) (by intro c a dd v w h; cases dd <;> exact h) (trivial) ?_
      iterate 3 (refine wpOrd_read (v := _) rfl rfl (by intro w' hS; skip; clear hS; go_simp; rfl) ?_; (try simp only [Act.put, List.setIfInBounds_toArray, List.set_cons_succ, List.set_cons_zero, List.getElem_toArray, List.getElem_cons_succ, List.getElem_cons_zero]))
      refine wpOrd_do rfl rfl (fun K hK => ?_)
      go_simp
      refine hK _ _ ⟨trivial, ?_⟩
      clear hK K
      (try simp only [Act.put, List.setIfInBounds_toArray, List.set_cons_succ, List.set_cons_zero, List.getElem_toArray, List.getElem_cons_succ, List.getElem_cons_zero])
      refine wpOrd_end ?_
      refine wp_stages_end 18 (by rfl) (by kernel_rfl) ?_
      simp only [List.drop_succ_cons, List.drop_zero]
      clear qd
      go_wp2
      go_roundw
      case rel =>
        refine ⟨k + 1, by omega, by go_num, ?_, H7.out, P8.out⟩
        refine congrArg Value.string (ba_ext ?_)
        rw [ba_append, hza.out, hz1.out, ba_mk, ba_mk, ba_mk, sectorsB_succ, HI.out]
      case measure => first | (simp [intOf]; done) | (simp [intOf]; omega)
    · obtain rfl : k = 8 := by omega
      have hend : ¬ ((8 : Nat) : Int) < 8 := by omega
      go_wp2
      go_ret2
      exact ⟨by rw [HZA.out]; rfl, HH.out, HP.out⟩

end Go.Proofs.YtnffnpndnaofhaaGreatDoor

/- A database of pages (layer 10): lay writes a page's sectors as layN says; conditions stand in the theorem. -/
namespace Go.Proofs.YtnffnpndnaofhaaGreatDoor
open Go.RowKit
set_option maxRecDepth 100000

/-- The state at the head of a round: all that is to come is R. -/
structure LayAt (w0 wr : World) (ps : List HP) (x d l log : Nat) (m : Meta) (opn : Value) (lost : Bool) (v : Value) (base : Nat) (img : List UInt8) (R : Int × Dk) (k M : Nat) : Prop where
  st : ∃ τ f, St w0 wr (slP v 9 1 8 ((secList img 8).map strV) :: objP x (dbCells d l log m opn lost) 62 :: diskP d τ :: ps) ∧ layN base img f k τ = R ∧ 9 ≤ f + k ∧ τ.pend.length ≤ M + k

set_option maxHeartbeats 4000000 in
theorem pd_lay {w0 w : World} {ps : List HP} {x d l log : Nat} {m : Meta} {opn : Value} {lost : Bool} {σ : Dk} (H : St w0 w (objP x (dbCells d l log m opn lost) 62 :: diskP d σ :: ps)) (pg : Nat) (s : ByteArray) (img : List UInt8) (hs : s.data.toList = img) (hl : img.length = 512) (h1 : 1 ≤ log) (h2 : log + 8 * pg ≤ 65536) (hroom : σ.pend.length ≤ 800000000) :
    Calls Tryz.prog 82 #[.pointer (some ⟨x, 0, none⟩), .int .i64 (pg : Int), .string s] w fun e w' => e = .returned (.int .i64 (layN (log + 8 * pg - 1) img 9 0 σ).1) ∧ St w0 w' (objP x (dbCells d l log m opn lost) 62 :: diskP d (layN (log + 8 * pg - 1) img 9 0 σ).2 :: ps) := by
  have hsec := pg_sectors H s img hs hl
  obtain ⟨R, hR⟩ : ∃ R, Hid (layN (log + 8 * pg - 1) img 9 0 σ = R) := ⟨_, hid rfl⟩
  rw [hR.out]
  obtain ⟨B, hB⟩ : ∃ B, Hid (log + 8 * pg = B) := ⟨_, hid rfl⟩
  have hb1 : 1 ≤ B := by have := hB.out; omega
  have hb2 : B ≤ 65536 := by have := hB.out; omega
  have qa : IntKind.i64.wrap ((pg : Int) * 8) = (pg : Int) * 8 := by have := hB.out; rw [IntKind.wrap_i64]; omega
  have qb : IntKind.i64.wrap (B : Int) = (B : Int) := by rw [IntKind.wrap_i64]; omega
  have qc : (log : Int) + (pg : Int) * 8 = (B : Int) := by have := hB.out; omega
  have hbase : log + 8 * pg - 1 = B - 1 := by have := hB.out; omega
  have HR := hid (show layN (B - 1) img 9 0 σ = R by rw [← hbase]; exact hR.out)
  have HL := hid hl
  clear H hs hl h1 h2 hbase hR
  go_enter Tryz.func82, Tryz.ntmps82
  go_wp2_with fail
  refine hsec.mono ?_
  rintro e w1 ⟨v, rfl, H1⟩
  obtain ⟨av, cv, rfl, -, -⟩ := (H1.sl 0 rfl).shape
  have HM : LayAt w0 w1 ps x d l log m opn lost (.slice av 8 cv) (B - 1) img R 0 σ.pend.length := ⟨σ, 9, H1, HR.out, by omega, by omega⟩
  have HM := hid HM
  clear H1 hsec
  go_wp2_with fail
  go_loopw [13] (fun iv wr => ∃ k : Nat, k ≤ 8 ∧ iv = .int .i64 (k : Int) ∧ LayAt w0 wr ps x d l log m opn lost (.slice av 8 cv) (B - 1) img R k σ.pend.length) (fun iv _ => 8 - (intOf iv).toNat)
  case atStart => exact ⟨0, Nat.zero_le _, rfl, HM.out⟩
  case round =>
    obtain ⟨k, hk, rfl, ⟨τ, f, hS, hRk, hf, hp⟩⟩ := hrel
    clear HM
    by_cases hlt : k < 8
    · have hlt' : (k : Int) < 8 := by omega
      obtain ⟨I, hI⟩ : ∃ I, B + k = I := ⟨_, rfl⟩
      have qd : IntKind.i64.wrap ((B : Int) + (k : Int)) = (I : Int) := by rw [IntKind.wrap_i64]; omega
      obtain ⟨g, cg, cur, e1, -⟩ := (hS.sl 0 rfl).get (by omega)
      simp only [Value.slice.injEq] at e1
      obtain ⟨rfl, -, rfl⟩ := e1
      obtain ⟨bs, hbs⟩ : ∃ bs, Hid ((img.drop (64 * k)).take 64 = bs) := ⟨_, hid rfl⟩
      have hkth : (secList img 8)[k]? = some bs := by rw [secList, List.getElem?_map, List.getElem?_range hlt, Option.map_some, hbs.out]
      have ck : wr.cell? ⟨g, k, none⟩ = some (strV bs) := sl_cells (hS.sl 0 rfl) (by rw [List.getElem?_map, hkth]; rfl)
      obtain ⟨z, hz, ez, hzs⟩ := str_z bs
      have hzl : z.data.toList = bs := by rw [hz.out, ba_mk]
      rw [ez] at ck
      have hbl : bs.length ≤ 64 := by rw [← hbs.out, List.length_take]; omega
      have c0 := (hS.obj 1 rfl).cell 0
      have c2 := (hS.obj 1 rfl).cell 2
      simp only [dbCells, List.getElem?_cons_succ, List.getElem?_cons_zero] at c0 c2
      have HS := hid hS
      have HI := hid hI
      have HZL := hid hzl
      have HE := hid ez
      clear hS hkth hI hzl ez
      go_upto_region 4 with (fail)
      refine wp_stages (by kernel_rfl) ?_
      have S0 : wr.drew.cell? ⟨x, 0, none⟩ = some (.pointer (some ⟨d, 0, none⟩)) ∧ wr.drew.cell? ⟨x, 2, none⟩ = some (.int .i64 (log : Int)) := ⟨c0, c2⟩
      refine wp_stage (fun W => W.cell? ⟨x, 0, none⟩ = some (.pointer (some ⟨d, 0, none⟩)) ∧ W.cell? ⟨x, 2, none⟩ = some (.int .i64 (log : Int))) [(0, true), (1, true), (2, true), (3, true), (4, true), (5, true), (6, true), (7, true), (8, true), (9, true), (10, true), (11, true), (12, true), (13, true)] 2 rfl (by kernel_rfl) (by intro c a dd v w h; cases dd <;> exact h) (S0) ?_
      iterate 14 (refine wpOrd_read (v := _) rfl rfl (by intro w' hS; obtain ⟨s1, s2⟩ := id hS; clear hS; go_simp; rfl) ?_; (try simp only [Act.put, List.setIfInBounds_toArray, List.set_cons_succ, List.set_cons_zero, List.getElem_toArray, List.getElem_cons_succ, List.getElem_cons_zero]))
      refine wpOrd_end ?_
      refine wp_stages_end 14 (by rfl) (by kernel_rfl) ?_
      simp only [List.drop_succ_cons, List.drop_zero]
      have HD := hid (HS.out.drew.pull 2 rfl)
      generalize wr.drew = wd at *
      clear S0 HS c0 c2 ck qd
      have hwr := sd_write HD.out (I : Int) z (by omega)
      rw [HZL.out] at hwr
      have hstep : layN (B - 1) img f k τ = if (τ.write (I : Int) bs).1 = 0 then layN (B - 1) img (f - 1) (k + 1) (τ.write (I : Int) bs).2 else τ.write (I : Int) bs := by
        obtain ⟨f', rfl⟩ : ∃ f', f = f' + 1 := ⟨f - 1, by omega⟩
        rw [layN_succ (by rw [HL.out]; omega), hbs.out, show ((B - 1 : Nat) : Int) + 1 + (k : Int) = (I : Int) by have := HI.out; omega]
        rfl
      have hpw := Dk.write_pend τ (I : Int) bs
      rw [hRk] at hstep
      generalize τ.write (I : Int) bs = q at *
      obtain ⟨qe, τ2⟩ := q
      simp only [] at hstep hwr hpw
      have HN := hid (And.intro hstep hpw)
      clear hstep hpw hRk
      go_wp2_with fail
      refine hwr.mono ?_
      rintro en w3 ⟨rfl, H3⟩
      have H3 := hid ((H3.pull 2 rfl).pull 2 rfl |>.pull 1 rfl)
      clear HD hwr
      by_cases h0 : qe = 0
      · subst h0
        go_wp2
        go_roundw
        case rel =>
          obtain ⟨hst, hpp⟩ := HN.out
          exact ⟨k + 1, by omega, by go_num, ⟨τ2, f - 1, H3.out.pull 1 rfl, by simpa using hst.symm, by omega, by omega⟩⟩
        case measure => first | (simp [intOf]; done) | (simp [intOf]; omega)
      · have hb0 : (qe != 0) = true := by simpa using h0
        have HN0 := hid h0
        clear h0
        go_wp2
        go_ret
        obtain ⟨hst, hpp⟩ := HN.out
        rw [if_neg HN0.out] at hst
        subst hst
        exact ⟨rfl, (H3.out.pull 1 rfl).drop⟩
    · obtain rfl : k = 8 := by omega
      have hend : ¬ ((8 : Nat) : Int) < 8 := by omega
      rw [layN_done (by rw [HL.out]; omega)] at hRk
      subst hRk
      have HS := hid hS
      clear hS
      go_wp2
      go_ret
      exact ⟨rfl, HS.out.drop⟩

end Go.Proofs.YtnffnpndnaofhaaGreatDoor

/- A database of pages (layer 10): settle and redo come to their data; conditions stand in the theorems. -/
namespace Go.Proofs.YtnffnpndnaofhaaGreatDoor
open Go.RowKit
set_option maxRecDepth 100000

/-- settle: a log with records begins anew, once all is kept. -/
def settleB (l : Lg) (σ : Dk) : Int × Lg × Dk :=
  if l.recs = [] then (0, l, σ) else if σ.flush.1 = 0 then l.reset σ.flush.2 else (σ.flush.1, l, σ.flush.2)

set_option maxHeartbeats 4000000 in
theorem pd_settle {w0 w : World} {ps : List HP} {x d b log : Nat} {m : Meta} {opn : Value} {lost : Bool} {l : Lg} {σ : Dk} (hh : HalfAt w0) (H : St w0 w (objP x (dbCells d b log m opn lost) 62 :: logP b d l :: diskP d σ :: ps)) (hroom : σ.pend.length ≤ 700000000) :
    Calls Tryz.prog 45 #[.pointer (some ⟨x, 0, none⟩)] w fun e w' => e = .returned (.int .i64 (settleB l σ).1) ∧ St w0 w' (objP x (dbCells d b log m opn lost) 62 :: logP b d (settleB l σ).2.1 :: diskP d (settleB l σ).2.2 :: ps) := by
  have c1 := (H.obj 0 rfl).cell 1
  simp only [dbCells, List.getElem?_cons_succ, List.getElem?_cons_zero] at c1
  have hrec := log_records (H.pull 1 rfl)
  obtain ⟨F, hF⟩ : ∃ F, Hid (settleB l σ = F) := ⟨_, hid rfl⟩
  rw [hF.out]
  have hF2 := hF.out
  unfold settleB at hF2
  clear hF H
  by_cases hr : l.recs = []
  · rw [if_pos hr] at hF2
    subst hF2
    have h0 : l.recs.length = 0 := by rw [hr]; rfl
    rw [h0] at hrec
    have HR := hid hr
    clear hr h0
    go_enter Tryz.func45, Tryz.ntmps45
    go_wp2_with fail
    refine hrec.mono ?_
    rintro e w2 ⟨v2, rfl, H2, -⟩
    obtain ⟨a2, k2, rfl, -, -⟩ := (H2.sl 0 rfl).shape
    have H2 := hid (H2.drop.pull 1 rfl)
    clear hrec
    go_wp2
    go_ret
    exact ⟨rfl, H2.out⟩
  · rw [if_neg hr] at hF2
    have hpos : 0 < l.recs.length := List.length_pos_iff.2 hr
    have hne : ((l.recs.length : Int) == 0) = false := by rw [beq_eq_false_iff_ne]; omega
    have hfp := Dk.flush_pend σ
    have hfl := fun W ps' (h : St w0 W (diskP d σ :: ps')) => sd_flush h
    generalize σ.flush = fl at *
    obtain ⟨fe, τ⟩ := fl
    simp only [] at hfl hF2 hfp
    have HF := hid hF2
    have HFL := hid hfl
    have HFP := hid hfp
    clear hr hF2 hfl hfp
    go_enter Tryz.func45, Tryz.ntmps45
    go_wp2_with fail
    refine hrec.mono ?_
    rintro e w2 ⟨v2, rfl, H2, -⟩
    obtain ⟨a2, k2, rfl, -, -⟩ := (H2.sl 0 rfl).shape
    have H2 := hid ((H2.drop.pull 2 rfl))
    have c0 := (H2.out.obj 2 rfl).cell 0
    simp only [dbCells, List.getElem?_cons_zero] at c0
    clear hrec c1
    go_wp2_with fail
    refine (HFL.out _ _ H2.out).mono ?_
    rintro e w3 ⟨rfl, H3⟩
    have H3 := hid (H3.pull 1 rfl)
    have c1 := (H3.out.obj 2 rfl).cell 1
    simp only [dbCells, List.getElem?_cons_succ, List.getElem?_cons_zero] at c1
    clear H2 c0
    by_cases h0 : fe = 0
    · subst h0
      have hF3 := HF.out
      rw [if_pos rfl] at hF3
      have hrs := log_reset hh H3.out (by have := HFP.out; omega)
      rw [hF3] at hrs
      clear hF3
      go_wp2_with fail
      refine hrs.mono ?_
      rintro e w4 ⟨rfl, H4⟩
      have H4 := hid (H4.pull 2 rfl)
      go_wp2
      go_ret
      exact ⟨rfl, H4.out⟩
    · have hb0 : (fe != 0) = true := by simpa using h0
      have hF3 := HF.out
      rw [if_neg h0] at hF3
      subst hF3
      clear h0 HF
      go_wp2
      go_ret
      exact ⟨rfl, H3.out.pull 2 rfl⟩

end Go.Proofs.YtnffnpndnaofhaaGreatDoor

/- A transaction (layer 10): up, of an open one over a database with power; conditions stand in the theorem. -/
namespace Go.Proofs.YtnffnpndnaofhaaGreatDoor
open Go.RowKit
set_option maxRecDepth 100000

def txCells (x : Nat) (m : Meta) (mv : Value) (marked spoilt : Bool) : List Value :=
  [.pointer (some ⟨x, 0, none⟩), .int .i64 (m.r0 : Int), .int .i64 (m.r1 : Int), .int .i64 (m.r2 : Int), .int .i64 (m.r3 : Int), .int .i64 (m.high : Int), .int .i64 (m.free : Int), .int .i64 (m.count : Int), mv, .bool marked, .bool spoilt]

theorem ptr_eqIn (W : World) (t d : Nat) : (Op.equalIn (d + 1) 40 (.pointer (some ⟨t, 0, none⟩)) (.pointer (some ⟨t, 0, none⟩))).run Tryz.prog W = .ok true W := by
  simp [Op.equalIn, run_underlying Tryz.underlying40, sameAddr]

theorem ptr_eq (W : World) (t : Nat) : (Op.equal 40 (.pointer (some ⟨t, 0, none⟩)) (.pointer (some ⟨t, 0, none⟩))).run Tryz.prog W = .ok true W := ptr_eqIn W t 9999

theorem ptr_neq (W : World) (t : Nat) : (binOp .neq 40 (.pointer (some ⟨t, 0, none⟩)) (.pointer (some ⟨t, 0, none⟩))).run Tryz.prog W = .ok (.bool false) W := by
  simp only [binOp]
  simp [ptr_eq W t]

theorem tx_up {w0 w : World} {ps : List HP} {t x d b log : Nat} {m n : Meta} {mv : Value} {marked spoilt : Bool} {σ : Dk} (H : St w0 w (objP t (txCells x n mv marked spoilt) 67 :: objP x (dbCells d b log m (.pointer (some ⟨t, 0, none⟩)) false) 62 :: diskP d σ :: ps)) (hd : σ.down = false) :
    Calls Tryz.prog 53 #[.pointer (some ⟨t, 0, none⟩)] w fun e w' => e = .returned (.int .i64 0) ∧ w = w' := by
  have hu := fun W (hW : W = w) => hW ▸ pd_up (((H.pull 2 rfl).pull 2 rfl))
  rw [hd] at hu
  have c0 := (H.obj 0 rfl).cell 0
  have c10 := (H.obj 1 rfl).cell 10
  simp only [txCells, dbCells, List.getElem?_cons_succ, List.getElem?_cons_zero] at c0 c10
  have hpp := fun W => ptr_neq W t
  clear H hd
  go_enter Tryz.func53, Tryz.ntmps53
  go_wp2_with (go_at_call 50; refine (hu _ rfl).mono ?_; rintro e w' ⟨rfl, rfl⟩)
  go_ret
  exact ⟨rfl, rfl⟩

end Go.Proofs.YtnffnpndnaofhaaGreatDoor
