/- Parts of the proof: A page (layer 9): put, is, get, Seal, Open, Sectors, Blank come to their data; conditions stand in the theorems. -/
import Derived.Test.YtnffnpndnaofhaaGreatDoorQaj

/- A page (layer 9): put, is, get, Seal, Open, Sectors, Blank come to their data; conditions stand in the theorems. -/
namespace Go.Proofs.YtnffnpndnaofhaaGreatDoor
open Go.RowKit
set_option maxRecDepth 100000

theorem pg_put {w : World} {b off len cap : Nat} {cs : List Value} {E : TypeId} (hA : At w b cs E) (h1 : off + 4 ≤ cs.length) (h2 : 4 ≤ len) (n : Nat) (hn : n < 2 ^ 32) :
    Calls Tryz.prog 121 #[.slice (some ⟨b, off, none⟩) len cap, .int .u32 (n : Int)] w fun e w' => e = .returned (.tuple #[]) ∧
      w' = (((w.setCell ⟨b, off, none⟩ (byteV (UInt8.ofNat (n / 2 ^ (8 * 0))))).setCell ⟨b, off + 1, none⟩ (byteV (UInt8.ofNat (n / 2 ^ (8 * 1))))).setCell ⟨b, off + 2, none⟩ (byteV (UInt8.ofNat (n / 2 ^ (8 * 2))))).setCell ⟨b, off + 3, none⟩ (byteV (UInt8.ofNat (n / 2 ^ (8 * 3)))) := by
  have f0 := hA.frozen off
  have f1 := hA.frozen (off + 1)
  have f2 := hA.frozen (off + 2)
  have f3 := hA.frozen (off + 3)
  have g : ∀ j, j < 4 → ∃ v, w.cell? ⟨b, off + j, none⟩ = some v := fun j hj => ⟨_, (hA.cell (off + j)).trans (List.getElem?_eq_getElem (by omega))⟩
  obtain ⟨v0, c0⟩ := g 0 (by omega)
  obtain ⟨v1, c1⟩ := g 1 (by omega)
  obtain ⟨v2, c2⟩ := g 2 (by omega)
  obtain ⟨v3, c3⟩ := g 3 (by omega)
  rw [Nat.add_zero] at c0
  have e0 := hid (num_cell n 0)
  have e1 := hid (num_cell n 1)
  have e2 := hid (num_cell n 2)
  have e3 := hid (num_cell n 3)
  have l0 : (0 : Int) < (len : Int) := by omega
  have l1 : (1 : Int) < (len : Int) := by omega
  have l2 : (2 : Int) < (len : Int) := by omega
  have l3 : (3 : Int) < (len : Int) := by omega
  have hlt := hA.lt
  clear g h1 h2
  go_enter Tryz.func121, Tryz.ntmps121
  go_wp2
  go_end0
  refine ⟨rfl, ?_⟩
  rw [← e0.out, ← e1.out, ← e2.out, ← e3.out]
  have q0 : (n : Int) / 2 ^ (8 * 0) % 256 = (n : Int) % 256 := by omega
  have q1 : (n : Int) / 2 ^ (8 * 1) % 256 = (n : Int) / 256 % 256 := by omega
  have q2 : (n : Int) / 2 ^ (8 * 2) % 256 = (n : Int) / 65536 % 256 := by omega
  have q3 : (n : Int) / 2 ^ (8 * 3) % 256 = (n : Int) / 16777216 := by omega
  rw [q0, q1, q2, q3]

theorem set_four {α : Type _} (a b c d : α) : ∀ (off : Nat) (cs : List α), off + 4 ≤ cs.length → (((cs.set off a).set (off + 1) b).set (off + 2) c).set (off + 3) d = splice cs off [a, b, c, d]
  | 0, x0 :: x1 :: x2 :: x3 :: r, _ => rfl
  | 0, [], h => by simp at h
  | 0, [_], h => by simp at h
  | 0, [_, _], h => by simp at h
  | 0, [_, _, _], h => by simp at h
  | off + 1, [], h => by simp at h
  | off + 1, x :: r, h => by
    have ih := set_four a b c d off r (by simpa using h)
    have e : splice (x :: r) (off + 1) [a, b, c, d] = x :: splice r off [a, b, c, d] := by
      simp only [splice, List.take_succ_cons, List.cons_append]
      rw [show off + 1 + [a, b, c, d].length = (off + [a, b, c, d].length) + 1 by simp, List.drop_succ_cons]
    rw [e, ← ih]
    rfl

/-- put, over the bytes of a block. -/
theorem pg_putB {w : World} {b off len cap : Nat} {L : List UInt8} {E : TypeId} (hA : At w b (L.map byteV) E) (h1 : off + 4 ≤ L.length) (h2 : 4 ≤ len) (n : Nat) (hn : n < 2 ^ 32) :
    Calls Tryz.prog 121 #[.slice (some ⟨b, off, none⟩) len cap, .int .u32 (n : Int)] w fun e w' => e = .returned (.tuple #[]) ∧ At w' b ((splice L off (numLE n 4)).map byteV) E ∧ Pres [b] w w' := by
  refine (pg_put hA (by rw [List.length_map]; exact h1) h2 n hn).mono ?_
  rintro e w' ⟨rfl, rfl⟩
  refine ⟨rfl, ?_, ?_⟩
  · have h := (((hA.setCell off (byteV (UInt8.ofNat (n / 2 ^ (8 * 0))))).setCell (off + 1) (byteV (UInt8.ofNat (n / 2 ^ (8 * 1))))).setCell (off + 2) (byteV (UInt8.ofNat (n / 2 ^ (8 * 2))))).setCell (off + 3) (byteV (UInt8.ofNat (n / 2 ^ (8 * 3))))
    rw [set_four _ _ _ _ off _ (by rw [List.length_map]; exact h1)] at h
    have e : splice (L.map byteV) off [byteV (UInt8.ofNat (n / 2 ^ (8 * 0))), byteV (UInt8.ofNat (n / 2 ^ (8 * 1))), byteV (UInt8.ofNat (n / 2 ^ (8 * 2))), byteV (UInt8.ofNat (n / 2 ^ (8 * 3)))] = (splice L off (numLE n 4)).map byteV := by
      simp only [splice, List.map_append, List.map_take, List.map_drop]
      rfl
    rw [e] at h
    exact h
  · exact ((((Pres.refl _ _).setCell (by simp) _).setCell (by simp) _).setCell (by simp) _).setCell (by simp) _

theorem pg_is (w : World) (n : Nat) (hn : n < 2147483648) :
    Calls Tryz.prog 88 #[.int .i64 (n : Int)] w fun e w' => e = .returned (.bool true) ∧ w = w' := by
  have h1 : (n : Int) < 2147483648 := by omega
  go_enter Tryz.func88, Tryz.ntmps88
  go_wp2
  go_ret
  exact ⟨rfl, rfl⟩

theorem At.part {w : World} {b off len cap : Nat} {cs xs : List Value} {E : TypeId} (h : At w b cs E) (hx : (cs.drop off).take len = xs) (hl : xs.length = len) (hc : len ≤ cap) (hm : cap ≤ maxLen) : Reads w (.slice (some ⟨b, off, none⟩) len cap) xs := by
  refine ⟨_, cap, by rw [hl], by omega, hm, fun j x hj => ⟨b, off, rfl, ?_⟩⟩
  rw [h.cell, ← hj, ← hx, List.getElem?_take, if_pos (by have := (List.getElem?_eq_some_iff.1 hj).1; omega), List.getElem?_drop]

theorem page_steps {id kind : Nat} {body : List UInt8} (h : body.length ≤ 500) :
    let L1 := splice (List.replicate 512 (0 : UInt8)) 0 (numLE id 4)
    let L2 := ((L1.set 4 (UInt8.ofNat kind)).set 6 (UInt8.ofNat body.length)).set 7 (UInt8.ofNat (body.length / 256))
    let L3 := splice L2 8 body
    L3.take 508 = pageTop id kind body ∧ splice L3 508 (sum4 (L3.take 508)) = pageB id kind body ∧ L1.length = 512 ∧ L2.length = 512 ∧ L3.length = 512 := by
  intro L1 L2 L3
  obtain ⟨a0, a1, a2, a3, e4⟩ : ∃ a0 a1 a2 a3, numLE id 4 = [a0, a1, a2, a3] := ⟨_, _, _, _, rfl⟩
  have e1 : L1 = numLE id 4 ++ ([0, 0, 0, 0] ++ List.replicate 504 0) := by
    simp only [L1, splice, length_numLE, List.take_zero, List.nil_append, List.drop_replicate]
    rfl
  have e2 : L2 = numLE id 4 ++ ([UInt8.ofNat kind, 0, UInt8.ofNat body.length, UInt8.ofNat (body.length / 256)] ++ List.replicate 504 0) := by
    simp only [L2, e1, e4]
    rfl
  have e3 : L3 = numLE id 4 ++ ([UInt8.ofNat kind, 0, UInt8.ofNat body.length, UInt8.ofNat (body.length / 256)] ++ (body ++ List.replicate (504 - body.length) 0)) := by
    simp only [L3, e2]
    have h8 : (numLE id 4 ++ [UInt8.ofNat kind, 0, UInt8.ofNat body.length, UInt8.ofNat (body.length / 256)]).length = 8 := by simp [length_numLE]
    rw [← List.append_assoc, splice, List.take_left' h8, List.drop_append, h8, List.drop_eq_nil_of_le (by omega), List.nil_append, show 8 + body.length - 8 = body.length by omega, List.drop_replicate, List.append_assoc]
  have e5 : L3 = pageTop id kind body ++ [0, 0, 0, 0] := by
    rw [e3, pageTop]
    have : List.replicate (504 - body.length) (0 : UInt8) = List.replicate (500 - body.length) 0 ++ [0, 0, 0, 0] := by
      rw [show 504 - body.length = (500 - body.length) + 4 by omega, ← List.replicate_append_replicate]
      rfl
    rw [this]
    simp only [List.append_assoc]
  have hl := length_pageTop (id := id) (kind := kind) h
  have e6 : L3.take 508 = pageTop id kind body := by rw [e5, List.take_left' hl]
  refine ⟨e6, ?_, ?_, ?_, ?_⟩
  · rw [e6, splice, e6, pageB, length_sum4, e5, List.drop_eq_nil_of_le (by simp [hl]), List.append_nil]
  · rw [e1]; simp [length_numLE]
  · rw [e2]; simp [length_numLE]
  · rw [e5]; simp [hl]

theorem zero_page : (Tryz.prog.info? 171).bind (·.zero) = some (.agg ((List.replicate 512 (0 : UInt8)).map byteV).toArray) := by kernel_rfl

theorem byte_val (n : Nat) : byteV (UInt8.ofNat n) = .int .u8 ((n : Int) % 256) := by
  rw [byteV, UInt8.toNat_ofNat']
  rfl

theorem pres_set3 {w w2 : World} {b : Nat} (P : Pres [] w w2) (hb : w.heap.size ≤ b) (i j k : Nat) (x y z : Value) : Pres [] w (((w2.setCell ⟨b, i, none⟩ x).setCell ⟨b, j, none⟩ y).setCell ⟨b, k, none⟩ z) := by
  have h : Pres [b] w2 (((w2.setCell ⟨b, i, none⟩ x).setCell ⟨b, j, none⟩ y).setCell ⟨b, k, none⟩ z) := (((Pres.refl _ _).setCell (by simp) _).setCell (by simp) _).setCell (by simp) _
  exact P.trans h (by intro x hx; simp at hx; subst hx; exact .inr hb)

set_option maxHeartbeats 4000000 in
theorem pg_seal (w : World) (hh : HalfAt w) (id kind : Nat) (s : ByteArray) (h1 : id < 2147483648) (h2 : 1 ≤ kind) (h3 : kind ≤ 255) (h4 : s.size ≤ 500) :
    Calls Tryz.prog 89 #[.int .i64 (id : Int), .int .i64 (kind : Int), .string s] w fun e w' => e = .returned (.tuple #[strV (pageB id kind s.data.toList), .int .i64 0]) ∧ Pres [] w w' := by
  have HH := hid hh
  have hi := fun W => pg_is W id h1
  have k1 : ¬ (kind : Int) < 1 := by omega
  have k2 : ¬ 255 < (kind : Int) := by omega
  have k3 : ¬ 500 < (s.size : Int) := by omega
  have k4 : (id : Int) < 4294967296 := by omega
  have k5 : (kind : Int) ≤ 255 := by omega
  have k6 : (s.size : Int) ≤ 500 := by omega
  have d1 : decide ((kind : Int) < 1) = false := decide_eq_false k1
  have d2 : decide (255 < (kind : Int)) = false := decide_eq_false k2
  have d3 : decide (500 < (s.size : Int)) = false := decide_eq_false k3
  have HB := hid (And.intro h1 (And.intro h2 (And.intro h3 h4)))
  obtain ⟨L0, hL0⟩ : ∃ L0, Hid (List.replicate 512 (0 : UInt8) = L0) := ⟨_, hid rfl⟩
  have hzp := zero_page
  rw [hL0.out] at hzp
  have HZP := hid hzp
  clear hzp
  obtain ⟨bd, hbd⟩ : ∃ bd, Hid (s.data.toList = bd) := ⟨_, hid rfl⟩
  have hbl : bd.length = s.size := by rw [← hbd.out, ← ba_size]
  have HBL := hid hbl
  rw [hbd.out]
  obtain ⟨z, hz⟩ : ∃ z, Hid (pageB id kind bd = z) := ⟨_, hid rfl⟩
  rw [hz.out]
  clear hbl
  clear hh h1 h2 h3 h4 k1 k2 k3
  go_enter Tryz.func89, Tryz.ntmps89
  go_wp2_with (first
    | (go_at_call 88; refine (hi _).mono ?_; rintro e w' ⟨rfl, rfl⟩)
    | ((with_reducible refine at_alloc ?_); refine wpL_alloc rfl 171 rfl _ HZP.out ?_; intro w1 A1 P1 S1; replace A1 := hid A1))
  have l0 : L0.length = 512 := by rw [← hL0.out, List.length_replicate]
  refine (pg_putB A1.out (by omega) (by omega) id (by have := HB.out.1; omega)).mono ?_
  rintro e w2 ⟨rfl, A2, P2⟩
  obtain ⟨b, hb⟩ : ∃ b, w.heap.size = b := ⟨_, rfl⟩
  rw [hb] at A2 P2
  obtain ⟨L1, hL1⟩ : ∃ L1, Hid (splice L0 0 (numLE id 4) = L1) := ⟨_, hid rfl⟩
  rw [hL1.out] at A2
  have hs := page_steps (id := id) (kind := kind) (body := bd) (by rw [HBL.out]; exact HB.out.2.2.2)
  simp only [hL0.out, hL1.out] at hs
  obtain ⟨s1, s2, s3, s4, s5⟩ := hs
  have HS := hid (And.intro s1 (And.intro s2 (And.intro s3 (And.intro s4 s5))))
  have g : ∀ j, j < 512 → ∃ v, w2.cell? ⟨b, j, none⟩ = some v := fun j hj => ⟨_, (A2.cell j).trans (List.getElem?_eq_getElem (by rw [List.length_map, s3]; exact hj))⟩
  obtain ⟨v4, c4⟩ := g 4 (by omega)
  obtain ⟨v6, c6⟩ := g 6 (by omega)
  obtain ⟨v7, c7⟩ := g 7 (by omega)
  have f4 := A2.frozen 4
  have f6 := A2.frozen 6
  have f7 := A2.frozen 7
  have hlt := A2.lt
  have A2 := hid A2
  have PP := hid (Pres.trans P1 P2 (by intro x hx; simp at hx; omega))
  rw [hb]
  clear s1 s2 s3 s4 s5 g P1 P2 A1 S1
  go_upto_region 8 with fail
  have e4 : Value.int IntKind.u8 (kind : Int) = byteV (UInt8.ofNat kind) := by rw [byte_val]; congr 1; omega
  have e6 : Value.int IntKind.u8 ((s.size : Int) % 256) = byteV (UInt8.ofNat bd.length) := by rw [byte_val, HBL.out]
  have e7 : Value.int IntKind.u8 ((s.size : Int) / 256) = byteV (UInt8.ofNat (bd.length / 256)) := by rw [byte_val, HBL.out]; congr 1; omega
  rw [e4, e6, e7]
  have A3 := ((A2.out.setCell 4 (byteV (UInt8.ofNat kind))).setCell 6 (byteV (UInt8.ofNat bd.length))).setCell 7 (byteV (UInt8.ofNat (bd.length / 256)))
  rw [map_byte_set, map_byte_set, map_byte_set] at A3
  have P3 := hid (pres_set3 PP.out (Nat.le_of_eq hb) 4 6 7 (byteV (UInt8.ofNat kind)) (byteV (UInt8.ofNat bd.length)) (byteV (UInt8.ofNat (bd.length / 256))))
  obtain ⟨L2, hL2⟩ : ∃ L2, Hid (((L1.set 4 (UInt8.ofNat kind)).set 6 (UInt8.ofNat bd.length)).set 7 (UInt8.ofNat (bd.length / 256)) = L2) := ⟨_, hid rfl⟩
  obtain ⟨s1, s2, -, s4, s5⟩ := HS.out
  rw [hL2.out] at A3 s1 s2 s4 s5
  generalize ((w2.setCell ⟨b, 4, none⟩ (byteV (UInt8.ofNat kind))).setCell ⟨b, 6, none⟩ (byteV (UInt8.ofNat bd.length))).setCell ⟨b, 7, none⟩ (byteV (UInt8.ofNat (bd.length / 256))) = w3 at *
  generalize byteV (UInt8.ofNat kind) = x4 at *
  generalize byteV (UInt8.ofNat bd.length) = x6 at *
  generalize byteV (UInt8.ofNat (bd.length / 256)) = x7 at *
  obtain ⟨L3, hL3⟩ : ∃ L3, Hid (splice L2 8 bd = L3) := ⟨_, hid rfl⟩
  rw [hL3.out] at s1 s2 s5
  have hbt : s.data.toList.take 504 = bd := by rw [hbd.out, List.take_of_length_le (by rw [HBL.out]; have := HB.out.2.2.2; omega)]
  have HT := hid hbt
  have HS := hid (And.intro s1 (And.intro s2 (And.intro s4 s5)))
  have A3 := hid A3
  clear s1 s2 s4 s5 hbt e4 e6 e7 c4 c6 c7 f4 f6 f7 A2 PP
  go_upto_region 9 with ((with_reducible refine at_copy ?_); refine wpL_copy_string rfl (.tmp 41) (.tmp 42) 122 9 rfl 5 Tryz.underlying122 (by kernel_rfl) b 8 504 504 rfl s rfl _ _ A3.out (by rw [List.length_map, HS.out.2.2.1]; omega) ?_; intro w4 A4 P4 S4; replace A4 := hid A4)
  have A5 : At w4 b (L3.map byteV) 171 := by
    have h := A4.out
    rw [HT.out] at h
    have e : splice (L2.map byteV) 8 (bd.map byteV) = L3.map byteV := by
      rw [← hL3.out]
      simp only [splice, List.map_append, List.map_take, List.map_drop, List.length_map]
    rw [e] at h
    exact h
  have PP := hid (P3.out.trans P4 (by intro x hx; simp at hx; right; omega))
  have A5 := hid A5
  clear A4 A3 P3 P4 S4
  refine wp_stages (by kernel_rfl) ?_
  refine wp_stage (fun _ => True) [(0, true), (1, true), (2, false)] 1 rfl (by kernel_rfl) (by intro c a dd v w h; cases dd <;> exact h) (trivial) ?_
  iterate 2 (refine wpOrd_read (v := _) rfl rfl (by intro w' hS; skip; clear hS; go_simp; rfl) ?_; (try simp only [Act.put, List.setIfInBounds_toArray, List.set_cons_succ, List.set_cons_zero, List.getElem_toArray, List.getElem_cons_succ, List.getElem_cons_zero]))
  have A6 := hid (show At w4.drew b (L3.map byteV) 171 from A5.out)
  have P6 := hid (PP.out.drew)
  have hlt6 := A6.out.lt
  generalize w4.drew = w6 at *
  have hsum := crc_sum w6 (HH.out.pres P6.out) (.slice (some ⟨b, 0, none⟩) 508 512) (pageTop id kind bd) (A6.out.part (by rw [List.drop_zero, ← List.map_take, HS.out.1]) (by rw [List.length_map]; exact length_pageTop (by rw [HBL.out]; exact HB.out.2.2.2)) (by omega) (by unfold maxLen; omega))
  obtain ⟨c, hc⟩ : ∃ c, Hid (crc (pageTop id kind bd) = c) := ⟨_, hid rfl⟩
  have hcl := crc_lt (pageTop id kind bd)
  rw [hc.out] at hsum hcl
  refine wpOrd_do rfl rfl (fun K hK => ?_)
  go_simp
  refine hsum.mono ?_
  rintro e w7 ⟨rfl, rfl⟩
  refine hK _ _ ⟨trivial, ?_⟩
  clear hK K
  (try simp only [Act.put, List.setIfInBounds_toArray, List.set_cons_succ, List.set_cons_zero, List.getElem_toArray, List.getElem_cons_succ, List.getElem_cons_zero])
  refine wpOrd_end ?_
  refine wp_stages_end 3 (by rfl) (by kernel_rfl) ?_
  simp only [List.drop_succ_cons, List.drop_zero]
  have hpt := pg_putB (off := 508) (len := 4) (cap := 4) A6.out (by have := HS.out.2.2.2; omega) (by omega) c hcl
  have hfin : splice L3 508 (numLE c 4) = z := by
    have h := HS.out.2.1
    rw [HS.out.1, sum4, hc.out, hz.out] at h
    exact h
  rw [hfin] at hpt
  have hzl : z.length = 512 := by rw [← hz.out]; exact length_pageB (by rw [HBL.out]; exact HB.out.2.2.2)
  have HZL := hid hzl
  clear hfin hzl hsum
  go_wp2_with (first
    | (go_at_call 121; refine hpt.mono ?_; rintro e w8 ⟨rfl, A8, P8⟩; replace A8 := hid A8)
    | ((with_reducible refine at_conv ?_); refine wpL_bytes_string rfl 122 9 _ rfl 5 Tryz.underlying122 Tryz.underlying5 Tryz.underlying9 b 0 512 512 rfl z HZL.out _ _ A8.out (by rw [List.drop_zero, List.take_of_length_le (by rw [List.length_map, HZL.out]; omega)]) ?_))
  go_ret2
  exact ⟨rfl, P6.out.trans P8 (by intro x hx; simp at hx; right; omega)⟩

end Go.Proofs.YtnffnpndnaofhaaGreatDoor

/- A page (layer 9): get, Open, Blank, Sectors come to their data; conditions stand in the theorems. -/
namespace Go.Proofs.YtnffnpndnaofhaaGreatDoor
open Go.RowKit
set_option maxRecDepth 100000

theorem bits_or32 {a b i : Nat} (hb : b < 2 ^ i) (h : a * 2 ^ i + b < 2 ^ 32) : bits .or .u32 (b : Int) ((a * 2 ^ i : Nat) : Int) = ((b + a * 2 ^ i : Nat) : Int) := by
  have e1 : (BitVec.ofInt 32 ((a * 2 ^ i : Nat) : Int)).toNat = a * 2 ^ i := ofInt_nat32 (by omega)
  have e2 : (BitVec.ofInt 32 (b : Int)).toNat = b := ofInt_nat32 (by omega)
  have e3 : b ||| a * 2 ^ i = b + a * 2 ^ i := by
    have := Nat.two_pow_add_eq_or_of_lt hb a
    rw [Nat.mul_comm, Nat.or_comm] at this
    omega
  have e : (BitVec.ofInt 32 (b : Int) ||| BitVec.ofInt 32 ((a * 2 ^ i : Nat) : Int)).toNat = b + a * 2 ^ i := by rw [BitVec.toNat_or, e1, e2, e3]
  change IntKind.u32.wrap ((BitVec.ofInt 32 (b : Int) ||| BitVec.ofInt 32 ((a * 2 ^ i : Nat) : Int)).toNat : Int) = _
  rw [e, IntKind.wrap_u32]
  omega

theorem valLE_four {s : ByteArray} (h : 4 ≤ s.size) : valLE (s.data.toList.take 4) = s[0].toNat + s[1].toNat * 2 ^ 8 + s[2].toNat * 2 ^ 16 + s[3].toNat * 2 ^ 24 := by
  have hl : 4 ≤ s.data.toList.length := by simpa using h
  match hm : s.data.toList, hl with
  | x0 :: x1 :: x2 :: x3 :: r, _ =>
    have g : ∀ (j : Nat) (hj : j < s.size) (x : UInt8), s.data.toList[j]? = some x → s[j] = x := by
      intro j hj x e
      have : s.data.toList[j]? = some s[j] := by rw [List.getElem?_eq_getElem (by simpa using hj)]; rfl
      rw [this] at e
      exact Option.some.inj e
    rw [g 0 (by omega) x0 (by rw [hm]; rfl), g 1 (by omega) x1 (by rw [hm]; rfl), g 2 (by omega) x2 (by rw [hm]; rfl), g 3 (by omega) x3 (by rw [hm]; rfl)]
    simp only [List.take_succ_cons, List.take_zero, valLE]
    omega

theorem pg_get (s : ByteArray) (w : World) (hs : 4 ≤ s.size) :
    Calls Tryz.prog 87 #[.string s] w fun e w' => e = .returned (.int .u32 ((valLE (s.data.toList.take 4) : Nat) : Int)) ∧ w' = w.drew := by
  have hv := valLE_four hs
  obtain ⟨V, hV⟩ : ∃ V, Hid (valLE (s.data.toList.take 4) = V) := ⟨_, hid rfl⟩
  rw [hV.out] at hv ⊢
  have h0 : (0 : Nat) < s.size := by omega
  have h1 : (1 : Nat) < s.size := by omega
  have h2 : (2 : Nat) < s.size := by omega
  have h3 : (3 : Nat) < s.size := by omega
  have b0 : s[0].toNat < 256 := s[0].toNat_lt
  have b1 : s[1].toNat < 256 := s[1].toNat_lt
  have b2 : s[2].toNat < 256 := s[2].toNat_lt
  have b3 : s[3].toNat < 256 := s[3].toNat_lt
  have i0 : (0 : Int) < (s.size : Int) := by omega
  have i1 : (1 : Int) < (s.size : Int) := by omega
  have i2 : (2 : Int) < (s.size : Int) := by omega
  have i3 : (3 : Int) < (s.size : Int) := by omega
  obtain ⟨x0, e0⟩ : ∃ x, s[0].toNat = x := ⟨_, rfl⟩
  obtain ⟨x1, e1⟩ : ∃ x, s[1].toNat = x := ⟨_, rfl⟩
  obtain ⟨x2, e2⟩ : ∃ x, s[2].toNat = x := ⟨_, rfl⟩
  obtain ⟨x3, e3⟩ : ∃ x, s[3].toNat = x := ⟨_, rfl⟩
  rw [e0, e1, e2, e3] at hv
  rw [e0] at b0
  rw [e1] at b1
  rw [e2] at b2
  rw [e3] at b3
  have u0 : IntKind.u32.wrap (x0 : Int) = (x0 : Int) := by rw [IntKind.wrap_u32]; omega
  have u1 : IntKind.u32.wrap (x1 : Int) = (x1 : Int) := by rw [IntKind.wrap_u32]; omega
  have u2 : IntKind.u32.wrap (x2 : Int) = (x2 : Int) := by rw [IntKind.wrap_u32]; omega
  have u3 : IntKind.u32.wrap (x3 : Int) = (x3 : Int) := by rw [IntKind.wrap_u32]; omega
  obtain ⟨y1, f1⟩ : ∃ y, Hid (x1 * 2 ^ 8 = y) := ⟨_, hid rfl⟩
  obtain ⟨y2, f2⟩ : ∃ y, Hid (x2 * 2 ^ 16 = y) := ⟨_, hid rfl⟩
  obtain ⟨y3, f3⟩ : ∃ y, Hid (x3 * 2 ^ 24 = y) := ⟨_, hid rfl⟩
  obtain ⟨z1, g1⟩ : ∃ y, Hid (x0 + y1 = y) := ⟨_, hid rfl⟩
  obtain ⟨z2, g2⟩ : ∃ y, Hid (z1 + y2 = y) := ⟨_, hid rfl⟩
  have m1 : IntKind.u32.wrap ((x1 : Int) * 256) = (y1 : Int) := by rw [IntKind.wrap_u32, ← f1.out]; omega
  have m2 : IntKind.u32.wrap ((x2 : Int) * 65536) = (y2 : Int) := by rw [IntKind.wrap_u32, ← f2.out]; omega
  have m3 : IntKind.u32.wrap ((x3 : Int) * 16777216) = (y3 : Int) := by rw [IntKind.wrap_u32, ← f3.out]; omega
  have o1 : bits .or .u32 (x0 : Int) (y1 : Int) = (z1 : Int) := by
    have := bits_or32 (a := x1) (b := x0) (i := 8) (by omega) (by omega)
    rw [f1.out, g1.out] at this
    exact this
  have o2 : bits .or .u32 (z1 : Int) (y2 : Int) = (z2 : Int) := by
    have := bits_or32 (a := x2) (b := z1) (i := 16) (by rw [← g1.out, ← f1.out]; omega) (by rw [← g1.out, ← f1.out]; omega)
    rw [f2.out, g2.out] at this
    exact this
  have o3 : bits .or .u32 (z2 : Int) (y3 : Int) = (V : Int) := by
    have := bits_or32 (a := x3) (b := z2) (i := 24) (by rw [← g2.out, ← g1.out, ← f1.out, ← f2.out]; omega) (by rw [← g2.out, ← g1.out, ← f1.out, ← f2.out]; omega)
    rw [f3.out] at this
    rw [this]
    have hvv : V = z2 + y3 := by rw [hv, ← g2.out, ← g1.out, ← f1.out, ← f2.out, ← f3.out]
    rw [hvv]
  clear hv hs b0 b1 b2 b3
  go_enter Tryz.func87, Tryz.ntmps87
  go_upto_region 1 with fail
  refine wp_stages (by kernel_rfl) ?_
  refine wp_stage (fun _ => True) [(0, true), (1, true), (2, true), (3, true), (4, true), (5, true), (6, true), (7, true), (8, true), (9, true), (10, true), (11, true), (12, true), (13, true), (14, true), (15, true), (16, true)] 2 rfl (by kernel_rfl) (by intro c a dd v w h; cases dd <;> exact h) (trivial) ?_
  iterate 17 (refine wpOrd_read (v := _) rfl rfl (by intro w' hS; skip; clear hS; go_simp; rfl) ?_; (try simp only [Act.put, List.setIfInBounds_toArray, List.set_cons_succ, List.set_cons_zero, List.getElem_toArray, List.getElem_cons_succ, List.getElem_cons_zero]))
  refine wpOrd_end ?_
  refine wp_stages_end 17 (by rfl) (by kernel_rfl) ?_
  simp only [List.drop_succ_cons, List.drop_zero]
  go_wp2
  go_ret
  exact ⟨rfl, rfl⟩

theorem trimB_zero (n : Nat) : Lib.trimB (List.replicate n (0 : UInt8)) 0 = [] := by
  have h : ∀ n, (List.replicate n (0 : UInt8)).dropWhile (· == 0) = [] := by
    intro n
    induction n with
    | zero => rfl
    | succ n ih => rw [List.replicate_succ, List.dropWhile_cons_of_pos (by simp)]; exact ih
  unfold Lib.trimB Lib.trimRightB Lib.trimLeftB
  rw [List.reverse_replicate, h]
  rfl

theorem dropWhile_all {α : Type _} {p : α → Bool} : ∀ {l : List α}, l.dropWhile p = [] → ∀ x ∈ l, p x = true
  | [], _, x, hx => by cases hx
  | y :: l, h, x, hx => by
    cases hp : p y with
    | true =>
      rw [List.dropWhile_cons_of_pos hp] at h
      rcases List.mem_cons.1 hx with rfl | hx
      · exact hp
      · exact dropWhile_all h x hx
    | false => rw [List.dropWhile_cons_of_neg (by simp [hp])] at h; cases h

theorem dropWhile_first {α : Type _} {p : α → Bool} : ∀ {l : List α}, l.dropWhile p ≠ [] → ∃ x ∈ l.dropWhile p, p x = false
  | [], h => absurd rfl h
  | y :: l, h => by
    cases hp : p y with
    | true =>
      rw [List.dropWhile_cons_of_pos hp] at h ⊢
      exact dropWhile_first h
    | false =>
      rw [List.dropWhile_cons_of_neg (by simp [hp])]
      exact ⟨y, by simp, hp⟩

theorem trimB_ne {l : List UInt8} (h : ∃ x ∈ l, x ≠ 0) : Lib.trimB l 0 ≠ [] := by
  obtain ⟨x, hx, hne⟩ := h
  unfold Lib.trimB Lib.trimRightB Lib.trimLeftB
  intro e
  have e2 : ∀ y ∈ l.reverse.dropWhile (· == 0), (y == 0) = true := fun y hy => dropWhile_all e y (List.mem_reverse.2 hy)
  by_cases hd : l.reverse.dropWhile (· == 0) = []
  · have := dropWhile_all hd x (List.mem_reverse.2 hx)
    simp at this
    exact hne this
  · obtain ⟨y, hy, h1⟩ := dropWhile_first hd
    rw [e2 y hy] at h1
    cases h1

theorem pg_blank (s : ByteArray) (w : World) (hs : s.size = 512) (b : Bool) (hb : if b then s.data.toList = zeroPg else ∃ x ∈ s.data.toList, x ≠ 0) :
    Calls Tryz.prog 47 #[.string s] w fun e w' => e = .returned (.bool b) ∧ Pres [] w w' := by
  have ht := Tryz.strings_Trim_one s 0 (by decide) w (by omega)
  obtain ⟨z, hz⟩ : ∃ z : ByteArray, Hid (z = ⟨(Lib.trimB s.data.toList 0).toArray⟩) := ⟨_, hid rfl⟩
  rw [← hz.out] at ht
  have hs' : (s.size : Int) = 512 := by omega
  cases b with
  | true =>
    rw [if_pos rfl] at hb
    obtain rfl : z = ⟨#[]⟩ := by rw [hz.out, hb, zeroPg, trimB_zero]
    clear hb
    go_enter Tryz.func47, Tryz.ntmps47
    go_wp2_with (go_at_call 85; refine ht.mono ?_; rintro e w1 ⟨rfl, hw⟩)
    go_ret
    rcases hw with rfl | rfl
    · exact ⟨rfl, Pres.refl _ _⟩
    · exact ⟨rfl, (Pres.refl _ _).drew⟩
  | false =>
    rw [if_neg (by simp)] at hb
    have hne := trimB_ne hb
    have hze : z.toList.isEmpty = false := by
      rw [hz.out, ByteArray.toList_eq]
      simpa using hne
    clear hb hne
    go_enter Tryz.func47, Tryz.ntmps47
    go_wp2_with (go_at_call 85; refine ht.mono ?_; rintro e w1 ⟨rfl, hw⟩)
    go_ret
    rcases hw with rfl | rfl
    · exact ⟨rfl, Pres.refl _ _⟩
    · exact ⟨rfl, (Pres.refl _ _).drew⟩

end Go.Proofs.YtnffnpndnaofhaaGreatDoor

/- A page (layer 9): Open of a page that is whole; conditions stand in the theorem. -/
namespace Go.Proofs.YtnffnpndnaofhaaGreatDoor
open Go.RowKit
set_option maxRecDepth 100000

theorem wp_string_bytes {P : Program} {o : Oper} {a : Act} {w : World} {Q : Exit → Act → World → Prop} {K : Act → World → Prop} (src dst : TypeId) (x : Operand) (ho : o.op = .convert src dst x) (e : TypeId) (hs : P.underlying src = some .string) (hd : P.underlying dst = some (.slice e)) (he : P.underlying e = some (.int .u8))
    (s : ByteArray) (hx : a.eval x = .string s) (hb : s.size ≤ maxLen)
    (hk : ∀ cap w', Reads w' (.slice (some ⟨w.heap.size, 0, none⟩) s.size cap) (s.data.toList.map byteV) → Pres [] w w' → K (a.put o.dst (.slice (some ⟨w.heap.size, 0, none⟩) s.size cap)) w') : o.wp P a w K Q := by
  have hr := run_bytes_of_string (P := P) w src dst e s hs hd he
  refine wp_value (v := .slice (some ⟨w.heap.size, 0, none⟩) s.size (grownCap w s.size 0 e)) (w' := w.drew.alloc (.cells (bytesRow s (grownCap w s.size 0 e)) e ((bytesRow s (grownCap w s.size 0 e)).size, (bytesRow s (grownCap w s.size 0 e)).size + 1))) ?_ (hk _ _ ?_ ?_)
  · unfold execOp
    simp only [ho, hx, Sem.run_bind, Sem.run_pure, Result.andThen_ok, hr]
  · have hge := grownCap_ge w s.size 0 e
    have hle := grownCap_le_maxLen w s.size 0 e hb
    refine ⟨some ⟨w.heap.size, 0, none⟩, grownCap w s.size 0 e, by simp, by simpa using hge, hle, fun j v hj => ⟨w.heap.size, 0, rfl, ?_⟩⟩
    have hn := heap_alloc_new w.drew (.cells (bytesRow s (grownCap w s.size 0 e)) e ((bytesRow s (grownCap w s.size 0 e)).size, (bytesRow s (grownCap w s.size 0 e)).size + 1))
    rw [show w.drew.heap.size = w.heap.size from rfl] at hn
    rw [Nat.zero_add, cell_of_row _ w.heap.size j _ e _ hn]
    have hjl : j < s.data.toList.length := by
      have := (List.getElem?_eq_some_iff.1 hj).1
      simpa using this
    rw [← hj]
    simp only [Array.length_toList] at hjl
    simp only [bytesRow, Array.getElem?_append, Array.size_map, List.getElem?_map, Array.getElem?_map, Array.getElem?_toList]
    rw [if_pos hjl]
    rfl
  · exact ((Pres.refl _ _).drew).alloc _

theorem byte_at {s : ByteArray} {j : Nat} (hj : j < s.size) {x : UInt8} (e : s.data.toList[j]? = some x) : s[j] = x := by
  have : s.data.toList[j]? = some s[j] := by rw [List.getElem?_eq_getElem (by simpa using hj)]; rfl
  rw [this] at e
  exact Option.some.inj e

theorem wrap64_nat {n : Nat} (h : n < 9223372036854775808) : wrap64 (n : Int) = (n : Int) := by unfold wrap64; omega

theorem bits_orI {a b : Nat} (hb : b < 256) (h : a < 256) : bits .or .i64 (b : Int) ((a : Int) * 256) = ((b + 256 * a : Nat) : Int) := by
  have e1 : (BitVec.ofInt 64 ((a : Int) * 256)).toNat = a * 256 := by rw [BitVec.toNat_ofInt]; omega
  have e2 : (BitVec.ofInt 64 (b : Int)).toNat = b := by rw [BitVec.toNat_ofInt]; omega
  have e3 : b ||| a * 256 = b + 256 * a := by
    have := Nat.two_pow_add_eq_or_of_lt (i := 8) hb a
    rw [Nat.or_comm, show (2 : Nat) ^ 8 = 256 from rfl, Nat.mul_comm 256 a] at this
    omega
  have e : (BitVec.ofInt 64 (b : Int) ||| BitVec.ofInt 64 ((a : Int) * 256)).toNat = b + 256 * a := by rw [BitVec.toNat_or, e1, e2, e3]
  change IntKind.i64.wrap ((BitVec.ofInt 64 (b : Int) ||| BitVec.ofInt 64 ((a : Int) * 256)).toNat : Int) = _
  rw [e, IntKind.wrap_i64]
  omega

set_option maxHeartbeats 8000000 in
theorem pg_open (w : World) (hh : HalfAt w) (id kind : Nat) (body : List UInt8) (s : ByteArray) (hs : s.data.toList = pageB id kind body) (h1 : id < 2147483648) (h2 : 1 ≤ kind) (h3 : kind ≤ 255) (h4 : body.length ≤ 500) :
    Calls Tryz.prog 48 #[.int .i64 (id : Int), .string s] w fun e w' => e = .returned (.tuple #[.int .i64 (kind : Int), strV body, .int .i64 0]) ∧ Pres [] w w' := by
  have hsz : s.size = 512 := by rw [ba_size, hs, length_pageB h4]
  have hi := fun W => pg_is W id h1
  obtain ⟨L, hL⟩ : ∃ L, body.length = L := ⟨_, rfl⟩
  obtain ⟨x1, hx1⟩ : ∃ x, s.extract 0 508 = x := ⟨_, rfl⟩
  obtain ⟨x2, hx2⟩ : ∃ x, s.extract 508 512 = x := ⟨_, rfl⟩
  obtain ⟨x3, hx3⟩ : ∃ x, s.extract (8 + L) 508 = x := ⟨_, rfl⟩
  obtain ⟨x4, hx4⟩ : ∃ x, s.extract 8 (8 + L) = x := ⟨_, rfl⟩
  have e1 : x1.data.toList = pageTop id kind body := by rw [← hx1, ba_take, List.drop_zero, hs, pageB_top h4]
  have e2 : x2.data.toList = sum4 (pageTop id kind body) := by rw [← hx2, ba_take, List.take_of_length_le (by rw [hs, length_pageB h4]; omega), hs, pageB_sum h4]
  have e3 : x3.data.toList = List.replicate (500 - L) 0 := by
    rw [← hx3, ba_take, hs, List.drop_take, ← hL, show 508 - (8 + body.length) = 500 - body.length by omega, pageB_noughts h4]
  have e4 : x4.data.toList = body := by
    rw [← hx4, ba_take, hs, List.drop_take, ← hL, show 8 + body.length - 8 = body.length by omega, pageB_body]
  have q1 : x1.size = 508 := by rw [ba_size, e1, length_pageTop h4]
  have q2 : x2.size = 4 := by rw [ba_size, e2, length_sum4]
  have hx4' : strV body = .string x4 := by rw [← e4]; exact congrArg Value.string (ba_ext (ba_mk _))
  rw [hx4']
  have g4 : s[4] = UInt8.ofNat kind := byte_at (by omega) (by rw [hs]; exact pageB_byte 0 (by omega))
  have g5 : s[5] = 0 := byte_at (by omega) (by rw [hs]; exact pageB_byte 1 (by omega))
  have g6 : s[6] = UInt8.ofNat body.length := byte_at (by omega) (by rw [hs]; exact pageB_byte 2 (by omega))
  have g7 : s[7] = UInt8.ofNat (body.length / 256) := byte_at (by omega) (by rw [hs]; exact pageB_byte 3 (by omega))
  have k4 : s[4].toNat = kind := by rw [g4, UInt8.toNat_ofNat']; omega
  have k5 : s[5].toNat = 0 := by rw [g5]; rfl
  obtain ⟨A, hA⟩ : ∃ A, Hid (L % 256 = A) := ⟨_, hid rfl⟩
  obtain ⟨B, hB⟩ : ∃ B, Hid (L / 256 = B) := ⟨_, hid rfl⟩
  have k6 : s[6].toNat = A := by rw [g6, UInt8.toNat_ofNat', hL, ← hA.out]
  have k7 : s[7].toNat = B := by rw [g7, UInt8.toNat_ofNat', hL, ← hB.out]; omega
  have hA2 : A < 256 := by rw [← hA.out]; omega
  have hB2 : B < 256 := by rw [← hB.out]; omega
  have hor : bits .or .i64 (A : Int) ((B : Int) * 256) = (L : Int) := by
    rw [bits_orI hA2 hB2, ← hA.out, ← hB.out]
    congr 1
    omega
  have hL5 : L ≤ 500 := by omega
  have wA : IntKind.i64.wrap (A : Int) = (A : Int) := by rw [IntKind.wrap_i64]; omega
  have wB : IntKind.i64.wrap (B : Int) = (B : Int) := by rw [IntKind.wrap_i64]; omega
  have wB2 : IntKind.i64.wrap ((B : Int) * 256) = (B : Int) * 256 := by rw [IntKind.wrap_i64]; omega
  have w8L : IntKind.i64.wrap (8 + (L : Int)) = 8 + (L : Int) := by rw [IntKind.wrap_i64]; omega
  have w8n : ((8 : Int) + (L : Int)).toNat = 8 + L := by omega
  have wk : IntKind.i64.wrap (kind : Int) = (kind : Int) := by rw [IntKind.wrap_i64]; omega
  have d500 : decide (500 < (L : Int)) = false := decide_eq_false (by omega)
  have dk : ((kind : Int) == 0) = false := by rw [beq_eq_false_iff_ne]; omega
  have hz : (s.size : Int) = 512 := by omega
  have hLi : (L : Int) ≤ 500 := by omega
  have hk5 : (kind : Int) ≤ 255 := by omega
  obtain ⟨c, hc⟩ : ∃ c, Hid (crc (pageTop id kind body) = c) := ⟨_, hid rfl⟩
  have hcl := crc_lt (pageTop id kind body)
  rw [hc.out] at hcl
  have hget2 := fun W => pg_get x2 W (by omega)
  rw [List.take_of_length_le (by rw [e2, length_sum4]; omega), e2, sum4, valLE_numLE, hc.out, Nat.mod_eq_of_lt (by omega)] at hget2
  have hget1 := fun W => pg_get s W (by omega)
  rw [hs, pageB_id, valLE_numLE, Nat.mod_eq_of_lt (by omega)] at hget1
  have htr := fun W => Tryz.strings_Trim_one x3 0 (by decide) W (by rw [ba_size, e3, List.length_replicate]; omega)
  rw [e3, trimB_zero] at htr
  have HE1 := hid e1
  have HH := hid hh
  have hq3 : x3.size = 500 - L := by rw [ba_size, e3, List.length_replicate]
  have wid := wrap64_nat (n := id) (by omega)
  clear hs e1 e2 e3 e4 hx4' g4 g5 g6 g7 hh h1 h2 h3 h4 hL hA2 hB2 hL5 hq3
  go_enter Tryz.func48, Tryz.ntmps48
  go_upto_region 3 with fail
  refine wp_stages (by kernel_rfl) ?_
  refine wp_pures [(0, true), (1, true), (4, true), (5, true)] 5 rfl (by kernel_rfl) (by kernel_rfl) (by intro c a dd v w h; cases dd <;> exact h) ?_
  iterate 4 (refine wpOrd_read (v := _) rfl rfl (by intro w' hS; skip; clear hS; go_simp; rfl) ?_; (try simp only [Act.put, List.setIfInBounds_toArray, List.set_cons_succ, List.set_cons_zero, List.getElem_toArray, List.getElem_cons_succ, List.getElem_cons_zero]))
  refine wpOrd_end ?_
  refine wp_stage (fun _ => True) [(2, false), (3, false)] 3 rfl (by kernel_rfl) (by intro c a dd v w h; cases dd <;> exact h) (trivial) ?_
  refine wpOrd_do rfl rfl (fun K hK => ?_)
  refine wp_string_bytes 9 122 _ rfl 5 Tryz.underlying9 Tryz.underlying122 Tryz.underlying5 x1 rfl (by rw [q1]; unfold maxLen; omega) ?_
  intro cap w1 R1 P1
  rw [HE1.out, q1, show w.drew.heap.size = w.heap.size from rfl] at R1
  have hsum := crc_sum w1 (HH.out.pres ((Pres.refl [] w).drew.then P1)) _ _ R1
  rw [hc.out] at hsum
  have P1 := hid ((Pres.refl [] w).drew.then P1)
  clear R1
  refine hK _ _ ⟨trivial, ?_⟩
  clear hK K
  (try simp only [Act.put, List.setIfInBounds_toArray, List.set_cons_succ, List.set_cons_zero, List.getElem_toArray, List.getElem_cons_succ, List.getElem_cons_zero])
  refine wpOrd_do rfl rfl (fun K hK => ?_)
  go_simp
  refine hsum.mono ?_
  rintro e w2 ⟨rfl, rfl⟩
  refine hK _ _ ⟨trivial, ?_⟩
  clear hK K hsum
  (try simp only [Act.put, List.setIfInBounds_toArray, List.set_cons_succ, List.set_cons_zero, List.getElem_toArray, List.getElem_cons_succ, List.getElem_cons_zero])
  refine wpOrd_end ?_
  refine wp_stages_end 6 (by rfl) (by kernel_rfl) ?_
  simp only [List.drop_succ_cons, List.drop_zero]
  go_upto_region 5 with (go_at_call 87; refine (hget2 _).mono ?_; rintro e w3 ⟨rfl, rfl⟩)
  clear hget2
  refine wp_stages (by kernel_rfl) ?_
  refine wp_stage (fun _ => True) [(0, true), (1, true), (2, true), (3, true), (4, true), (5, true), (6, true)] 2 rfl (by kernel_rfl) (by intro c a dd v w h; cases dd <;> exact h) (trivial) ?_
  iterate 7 (refine wpOrd_read (v := _) rfl rfl (by intro w' hS; skip; clear hS; go_simp; rfl) ?_; (try simp only [Act.put, List.setIfInBounds_toArray, List.set_cons_succ, List.set_cons_zero, List.getElem_toArray, List.getElem_cons_succ, List.getElem_cons_zero]))
  refine wpOrd_end ?_
  refine wp_stages_end 7 (by rfl) (by kernel_rfl) ?_
  simp only [List.drop_succ_cons, List.drop_zero]
  have P5 := hid (P1.out.drew.drew)
  generalize w1.drew.drew = w5 at *
  go_upto_region 8 with (first
    | (go_at_call 88; refine (hi _).mono ?_; rintro e w' ⟨rfl, rfl⟩)
    | (go_at_call 87; refine (hget1 _).mono ?_; rintro e w6 ⟨rfl, rfl⟩)
    | (go_at_call 85; refine (htr _).mono ?_; rintro e w7 ⟨rfl, hw7⟩))
  have P7 : Hid (Pres [] w w7) := by
    rcases hw7 with rfl | rfl
    · exact hid P5.out.drew
    · exact hid P5.out.drew.drew
  clear hw7 htr hget1 hi
  have j1 : (0 : Int) ≤ 8 + (L : Int) := by omega
  have j2 : (8 : Int) + (L : Int) ≤ 512 := by omega
  have j3 : (8 : Int) ≤ 8 + (L : Int) := by omega
  refine wp_stages (by kernel_rfl) ?_
  refine wp_stage (fun _ => True) [(0, true), (1, true), (2, true), (3, true), (4, true), (5, true), (6, true), (7, false)] 2 rfl (by kernel_rfl) (by intro c a dd v w h; cases dd <;> exact h) (trivial) ?_
  iterate 7 (refine wpOrd_read (v := _) rfl rfl (by intro w' hS; skip; clear hS; go_simp; rfl) ?_; (try simp only [Act.put, List.setIfInBounds_toArray, List.set_cons_succ, List.set_cons_zero, List.getElem_toArray, List.getElem_cons_succ, List.getElem_cons_zero]))
  refine wpOrd_do rfl rfl (fun K hK => ?_)
  go_simp
  refine hK _ _ ⟨trivial, ?_⟩
  clear hK K
  (try simp only [Act.put, List.setIfInBounds_toArray, List.set_cons_succ, List.set_cons_zero, List.getElem_toArray, List.getElem_cons_succ, List.getElem_cons_zero])
  refine wpOrd_end ?_
  refine wp_stages_end 8 (by rfl) (by kernel_rfl) ?_
  simp only [List.drop_succ_cons, List.drop_zero]
  go_wp2
  go_ret3
  exact ⟨rfl, P7.out.drew⟩

end Go.Proofs.YtnffnpndnaofhaaGreatDoor
