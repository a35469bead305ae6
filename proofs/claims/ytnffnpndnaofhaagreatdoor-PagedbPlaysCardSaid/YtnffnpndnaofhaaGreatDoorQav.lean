/- Parts of the proof: A transaction (layer 10): record; conditions stand in the theorem. -/
import Derived.Test.YtnffnpndnaofhaaGreatDoorQat
import Derived.Test.YtnffnpndnaofhaaGreatDoorQau
import Derived.Test.YtnffnpndnaofhaaGreatDoorQap

/- A transaction (layer 10): record; conditions stand in the theorem. -/
namespace Go.Proofs.YtnffnpndnaofhaaGreatDoor
open Go.RowKit
set_option maxRecDepth 100000

/-- The images of what a transaction has put, and of page 0. -/
def imgM (M : Nat → Option Leaf) (n : Meta) (marked : Bool) : Nat → Option (List UInt8) := fun k => if k = 0 ∧ marked = true then some (pageB 0 1 (metaB n)) else (M k).map fun p => pageB k p.1 p.2

def imgOf (k : Nat) (p : Leaf) : List UInt8 := pageB k p.1 p.2

/-- What can be sealed. -/
def Sealable (M : Nat → Option Leaf) : Prop := ∀ k p, M k = some p → 1 ≤ k ∧ k < 2147483648 ∧ 1 ≤ p.1 ∧ p.1 ≤ 255 ∧ p.2.length ≤ 500

/-- The images so far: of the keys that have come. -/
def imgTo (M : Nat → Option Leaf) (left : Lit → Bool) : Nat → Option (List UInt8) := fun k => if left (.int .i64 (k : Int)) then none else (M k).map fun p => pageB k p.1 p.2

theorem sameKey_int (a b : Nat) : Lit.sameKey (.int .i64 (a : Int)) (.int .i64 (b : Int)) = decide (a = b) := by
  by_cases h : a = b
  · subst h
    rw [WideAt.sameKey_self (isKeyLit_int _)]
    simp
  · rw [Maps.sameKey_ne (fun e => h (by injection e with _ e; omega))]
    simp [h]

theorem imgTo_put {M : Nat → Option Leaf} {left : Lit → Bool} {k : Nat} {p : Leaf} (hM : M k = some p) : putM (imgTo M left) k (pageB k p.1 p.2) = imgTo M (fun z => left z && !z.sameKey (.int .i64 (k : Int))) := by
  funext j
  simp only [putM, imgTo, sameKey_int]
  by_cases h : j = k
  · subst h
    simp [hM]
  · simp [h]

theorem imgTo_start {M : Nat → Option Leaf} {left : Lit → Bool} (h : ∀ k : Nat, left (.int .i64 (k : Int)) = (M k).isSome) : imgTo M left = fun _ => none := by
  funext k
  simp only [imgTo, h]
  cases hM : M k <;> simp

theorem imgTo_end {M : Nat → Option Leaf} {left : Lit → Bool} (h : ∀ kl, left kl = false) : imgTo M left = fun k => (M k).map fun p => pageB k p.1 p.2 := by
  funext k
  simp [imgTo, h]

theorem length_recs {f : Nat → List UInt8} : ∀ {l : List Nat}, (∀ j ∈ l, (f j).length = 512) → (l.flatMap fun j => recE (j, f j)).length = 516 * l.length
  | [], _ => rfl
  | a :: l, h => by
    have h1 := h a (by simp)
    have h2 := length_recs (f := f) (l := l) (fun j hj => h j (by simp [hj]))
    rw [List.flatMap_cons, List.length_append, h2, recE, List.length_append, length_numLE, h1, List.length_cons]
    omega

theorem imgM_good {M : Nat → Option Leaf} {n : Meta} {marked : Bool} (hM : Sealable M) {j : Nat} (h : imgM M n marked j ≠ none) : j < 2147483648 ∧ ((imgM M n marked j).getD []).length = 512 := by
  unfold imgM at h ⊢
  split at h
  · rename_i hc
    rw [if_pos hc]
    exact ⟨by omega, by simp only [Option.getD_some]; exact length_pageB (by rw [length_metaB]; omega)⟩
  · rename_i hc
    rw [if_neg hc]
    cases hm : M j with
    | none => rw [hm] at h; simp at h
    | some p =>
      obtain ⟨-, q2, -, -, q5⟩ := hM j p hm
      exact ⟨q2, by simp only [Option.map_some, Option.getD_some]; exact length_pageB q5⟩

theorem text_look {w0 w : World} {ps : List HP} {mb : Nat} {M : Nat → Option (List UInt8)} {ks : List Nat} (H : St w0 w ps) (i : Nat) (h : ps[i]? = some (mapP textR textD mb M ks)) (k : Nat) (hk : k < 9223372036854775808) (hm : M k ≠ none) :
    (Instr.lookup 104 (.map (some mb)) (.int .i64 (k : Int)) false).run Tryz.prog w = .ok (strV ((M k).getD [])) w := by
  obtain ⟨D, h1, h2⟩ := H.map i h
  obtain ⟨v, zs, hr, hv⟩ := h1.lookup (t := 104) (e := 9) int_key Tryz.underlying104 (z := .string ⟨#[]⟩) (by kernel_rfl) (zd := textD []) (zp := []) (by simp [textR, textD]) (key_of k hk)
  obtain ⟨p, hp⟩ := Option.ne_none_iff_exists'.1 hm
  rw [hp]
  rw [(h2.there k p hp).2] at hv
  rw [hr, textR_eq hv]
  rfl

structure RecAt (w0 wr : World) (ps : List HP) (t x mb ib rb : Nat) (n : Meta) (M : Nat → Option Leaf) (ks : List Nat) (marked spoilt : Bool) (left : Lit → Bool) (cnt : Nat) (is : List Nat) : Prop where
  st : St w0 wr (rangeP leafR leafD mb rb M ks left cnt :: mapP textR textD ib (imgTo M left) is :: objP t (txCells x n (.map (some mb)) marked spoilt) 67 :: ps)
  few : is.length + cnt ≤ ks.length

section
variable {w0 w : World} {ps : List HP} {t x mb : Nat} {n : Meta} {M : Nat → Option Leaf} {ks : List Nat} {marked spoilt : Bool}

set_option maxHeartbeats 8000000 in
theorem tx_record (hh : HalfAt w0) (H : St w0 w (objP t (txCells x n (.map (some mb)) marked spoilt) 67 :: mapP leafR leafD mb M ks :: ps)) (hM : Sealable M) (hn : marked = true → n.Ok) (hks : ks.length ≤ 900000) :
    Calls Tryz.prog 54 #[.pointer (some ⟨t, 0, none⟩)] w fun e w' => ∃ (ss is : List Nat) (ib : Nat), e = .returned (.tuple #[strV (recB (ss.map fun k => (k, (imgM M n marked k).getD []))), .map (some ib)]) ∧ ss.Perm is ∧ is.Nodup ∧ (∀ k, k ∈ is ↔ imgM M n marked k ≠ none) ∧ is.length ≤ 900001 ∧
      St w0 w' (mapP textR textD ib (imgM M n marked) is :: objP t (txCells x n (.map (some mb)) marked spoilt) 67 :: mapP leafR leafD mb M ks :: ps) := by
  have hmm : ∀ W, (Instr.makeMap 104 none).run Tryz.prog W = .ok (.map (some W.heap.size)) (W.alloc (.map #[] 0)) := fun W => run_makeMap _ W
  have H1 := hid ((H.mapNew textR textD).pull 1 rfl)
  have c8 := (H1.out.obj 0 rfl).cell 8
  simp only [txCells, List.getElem?_cons_succ, List.getElem?_cons_zero] at c8
  obtain ⟨Post, hPost⟩ : ∃ Post : Ending → World → Prop, Hid (Post = fun e w' => ∃ (ss is : List Nat) (ib : Nat), e = .returned (.tuple #[strV (recB (ss.map fun k => (k, (imgM M n marked k).getD []))), .map (some ib)]) ∧ ss.Perm is ∧ is.Nodup ∧ (∀ k, k ∈ is ↔ imgM M n marked k ≠ none) ∧ is.length ≤ 900001 ∧
      St w0 w' (mapP textR textD ib (imgM M n marked) is :: objP t (txCells x n (.map (some mb)) marked spoilt) 67 :: mapP leafR leafD mb M ks :: ps)) := ⟨_, hid rfl⟩
  rw [← hPost.out]
  have HX := hid (And.intro hM hn)
  clear H hM hn
  go_enter Tryz.func54, Tryz.ntmps54
  go_upto_region 2 with fail
  generalize w.heap.size = ib at *
  generalize (w.alloc (.map #[] 0)) = w1 at *
  have H2 := hid (H1.out.pull 2 rfl)
  clear H1
  go_wp2_with ((with_reducible refine at_range' ?_); refine wpL_range rfl rfl _ 65 101 rfl Tryz.underlying65 rfl H2.out ?_; intro w2 rb left0 H3 hl0)
  have HM : RecAt w0 w2 ps t x mb ib rb n M ks marked spoilt left0 ks.length [] := ⟨by rw [imgTo_start hl0]; exact H3.pull 2 rfl |>.pull 1 rfl, by simp⟩
  have HM := hid HM
  clear H2 H3 hl0 c8
  go_frame
  go_loopw [16] (fun _ wr => ∃ (left : Lit → Bool) (cnt : Nat) (is : List Nat), RecAt w0 wr ps t x mb ib rb n M ks marked spoilt left cnt is) (fun _ wr => wr.rangeLeft mb rb)
  case atStart => exact ⟨left0, ks.length, [], HM.out⟩
  case round =>
    obtain ⟨left, cnt, is, hS, hfew⟩ := hrel
    clear HM
    have hleft := hS.rangeLeft
    have HS := hid hS
    clear hS
    go_wp2_with ((with_reducible refine at_next' ?_); refine wpL_next_leaf rfl rfl _ rfl rfl HS.out ?_ ?_)
    · intro hc0 hl0
      have H3 := hid (show St w0 wr (mapP leafR leafD mb M ks :: mapP textR textD ib (fun k => (M k).map fun p => pageB k p.1 p.2) is :: objP t (txCells x n (.map (some mb)) marked spoilt) 67 :: ps) by
        have h := HS.out.rangeDone
        rw [imgTo_end hl0] at h
        exact h)
      clear HS hleft
      go_upto_region 6 with fail
      cases marked
      · have HT := hid (show St w0 wr (mapP textR textD ib (imgM M n false) is :: mapP leafR leafD mb M ks :: objP t (txCells x n (.map (some mb)) false spoilt) 67 :: ps) by
          rw [show imgM M n false = fun k => (M k).map fun p => pageB k p.1 p.2 by funext k; simp [imgM]]
          exact H3.out.pull 1 rfl)
        have HF := hid (show is.length ≤ 900001 by omega)
        have c9 := (HT.out.obj 2 rfl).cell 9
        simp only [txCells, List.getElem?_cons_succ, List.getElem?_cons_zero] at c9
        clear H3
        go_upto_region 8 with fail
        have hln := HT.out.map 0 rfl
        obtain ⟨D8, hown8, hmi8⟩ := hln
        have hlen := fun ty => hown8.len Tryz.underlying104 ty
        rw [hmi8.size] at hlen
        have HI := hid (And.intro hmi8.nodup hmi8.mem)
        clear hown8 hmi8
        obtain ⟨L, hL⟩ : ∃ L, Hid (is.length = L) := ⟨_, hid rfl⟩
        rw [hL.out] at hlen
        have hLb : L ≤ 900001 := by have := hL.out; have := HF.out; omega
        have hnum := fun W => pd_number L W (by omega)
        obtain ⟨zl, hzl, ezl, -⟩ := str_z (numLE L 4)
        rw [← hzl.out] at hnum
        clear ezl
        go_upto_region 9 with (go_at_call 63; refine (hnum _).mono ?_; rintro e w5 ⟨rfl, P5⟩)
        have H5 := hid (HT.out.quiet P5)
        clear P5 hnum hlen HT
        have hkc := keys_call (some ib) w5
        have H6 := hid (H5.out.alloc [.map (some ib)] 104)
        have hsc := sorted_call (H6.out.pull 1 rfl) w5.heap.size (by simp) ((H6.out.obj 0 rfl).cell 0) (by have := hL.out; omega)
        rw [hL.out] at hsc
        clear H5
        go_upto_region 10 with (first
          | (go_at_call 92; refine hkc.mono ?_; rintro e w6 ⟨rfl, rfl⟩)
          | (go_at_call 91; refine hsc.mono ?_; rintro e w7 ⟨v, ss, rfl, hperm, H7⟩; obtain ⟨av, cv, rfl, -, -⟩ := (H7.sl 0 rfl).shape))
        have hsl : ss.length = L := by rw [hperm.length_eq]; exact hL.out
        have H7 := hid H7
        have HP := hid hperm
        clear hkc hsc H6 hperm
        have HM : ∃ (k : Nat) (z : ByteArray), k ≤ L ∧ Value.int .i64 0 = .int .i64 (k : Int) ∧ Value.string zl = .string z ∧ z.data.toList = numLE L 4 ++ (ss.take k).flatMap (fun j => recE (j, (imgM M n false j).getD [])) ∧ St w0 w7 (slP (.slice av L cv) 3 1 L (ss.map fun k : Nat => Value.int .i64 (k : Int)) :: mapP textR textD ib (imgM M n false) is :: mapP leafR leafD mb M ks :: objP t (txCells x n (.map (some mb)) false spoilt) 67 :: ps) :=
          ⟨0, zl, Nat.zero_le _, rfl, rfl, by rw [hzl.out, ba_mk]; simp, (H7.out.pull 2 rfl).drop⟩
        have HM := hid HM
        clear H7 hzl
        go_wp2
        go_loopw [7, 53] (fun rv iv wr => ∃ (k : Nat) (z : ByteArray), k ≤ L ∧ iv = .int .i64 (k : Int) ∧ rv = .string z ∧ z.data.toList = numLE L 4 ++ (ss.take k).flatMap (fun j => recE (j, (imgM M n false j).getD [])) ∧ St w0 wr (slP (.slice av L cv) 3 1 L (ss.map fun k : Nat => Value.int .i64 (k : Int)) :: mapP textR textD ib (imgM M n false) is :: mapP leafR leafD mb M ks :: objP t (txCells x n (.map (some mb)) false spoilt) 67 :: ps)) (fun _ iv _ => L - (intOf iv).toNat)
        case atStart => exact HM.out
        case round =>
          obtain ⟨k, z, hk, rfl, rfl, hz, hS⟩ := hrel
          clear HM
          have HS := hid hS
          have HZ := hid hz
          clear hS hz
          by_cases hlt : k < L
          · have hlt' : (k : Int) < (L : Int) := by omega
            obtain ⟨j, hj⟩ : ∃ j, ss[k]? = some j := ⟨_, List.getElem?_eq_getElem (by omega)⟩
            obtain ⟨g, cg, cur, e1, -⟩ := (HS.out.sl 0 rfl).get (by omega)
            simp only [Value.slice.injEq] at e1
            obtain ⟨rfl, -, rfl⟩ := e1
            have ck : wr.cell? ⟨g, k, none⟩ = some (.int .i64 (j : Int)) := sl_cells (HS.out.sl 0 rfl) (by rw [List.getElem?_map, hj]; rfl)
            have hjm : imgM M n false j ≠ none := (HI.out.2 j).1 (HP.out.mem_iff.1 (List.mem_of_getElem? hj))
            obtain ⟨hj31, hj512⟩ := imgM_good HX.out.1 hjm
            obtain ⟨img, himg⟩ : ∃ img, Hid ((imgM M n false j).getD [] = img) := ⟨_, hid rfl⟩
            rw [himg.out] at hj512
            obtain ⟨zi, hzi, ezi, hzis⟩ := str_z img
            rw [hj512] at hzis
            have hlk : ∀ W, St w0 W (slP (.slice (some ⟨g, 0, none⟩) L cv) 3 1 L (ss.map fun k : Nat => Value.int .i64 (k : Int)) :: mapP textR textD ib (imgM M n false) is :: mapP leafR leafD mb M ks :: objP t (txCells x n (.map (some mb)) false spoilt) 67 :: ps) → (Instr.lookup 104 (.map (some ib)) (.int .i64 (j : Int)) false).run Tryz.prog W = .ok (.string zi) W := by
              intro W hW
              have := text_look hW 1 rfl j (by omega) hjm
              rw [himg.out, ezi] at this
              exact this
            have hnum := fun W => pd_number j W (by omega)
            obtain ⟨zn, hzn, ezn, hzns⟩ := str_z (numLE j 4)
            rw [← hzn.out] at hnum
            rw [length_numLE] at hzns
            have hzs : z.size = 4 + 516 * k := by
              rw [ba_size, HZ.out, List.length_append, length_numLE, length_recs (fun a ha => (imgM_good HX.out.1 ((HI.out.2 a).1 (HP.out.mem_iff.1 (List.mem_of_mem_take ha)))).2), List.length_take]
              omega
            have HJ := hid hj
            clear ezn ezi hj hjm
            go_upto_region 12 with fail
            refine wp_stages (by kernel_rfl) ?_
            have HS2 := hid HS.out.drew
            clear HS ck
            generalize wr.drew = wd at *
            have S0 := hlk wd HS2.out
            refine wp_stage (fun W => (Instr.lookup 104 (.map (some ib)) (.int .i64 (j : Int)) false).run Tryz.prog W = .ok (.string zi) W) [(0, true), (1, true), (3, true), (4, true), (5, true), (2, false), (6, true)] 2 rfl (by kernel_rfl) (by intro c a dd v w h; cases dd <;> exact h) (S0) ?_
            iterate 5 (refine wpOrd_read (v := _) rfl rfl (by intro w' hS; have s1 := hS; clear hS; go_simp; rfl) ?_; (try simp only [Act.put, List.setIfInBounds_toArray, List.set_cons_succ, List.set_cons_zero, List.getElem_toArray, List.getElem_cons_succ, List.getElem_cons_zero]))
            refine wpOrd_do rfl rfl (fun K hK => ?_)
            go_simp
            refine (hnum _).mono ?_
            rintro e w8 ⟨rfl, P8⟩
            have H8 := hid (HS2.out.quiet P8)
            refine hK _ _ ⟨hlk _ H8.out, ?_⟩
            clear hK K
            (try simp only [Act.put, List.setIfInBounds_toArray, List.set_cons_succ, List.set_cons_zero, List.getElem_toArray, List.getElem_cons_succ, List.getElem_cons_zero])
            iterate 1 (refine wpOrd_read (v := _) rfl rfl (by intro w' hS; skip; clear hS; go_simp; rfl) ?_; (try simp only [Act.put, List.setIfInBounds_toArray, List.set_cons_succ, List.set_cons_zero, List.getElem_toArray, List.getElem_cons_succ, List.getElem_cons_zero]))
            refine wpOrd_end ?_
            refine wp_stages_end 7 (by rfl) (by kernel_rfl) ?_
            simp only [List.drop_succ_cons, List.drop_zero]
            clear S0 HS2 P8 hnum hlk
            go_wp2
            go_roundw
            case rel =>
              refine ⟨k + 1, z ++ (zn ++ zi), by omega, by go_num, rfl, ?_, H8.out⟩
              have htk : ss.take (k + 1) = ss.take k ++ [j] := by rw [List.take_add_one, HJ.out]; rfl
              rw [ba_append, ba_append, HZ.out, hzn.out, hzi.out, ba_mk, ba_mk, htk, List.flatMap_append, List.flatMap_cons, List.flatMap_nil, List.append_nil, himg.out, recE, List.append_assoc]
            case measure => first | (simp [intOf]; done) | (simp [intOf]; omega)
          · obtain rfl : k = L := by omega
            have hend : ¬ (k : Int) < (k : Int) := by omega
            go_wp2
            rw [hPost.out]
            refine ⟨ss, is, ib, ?_, HP.out, HI.out.1, HI.out.2, HF.out, HS.out.drop.pull 2 rfl |>.pull 1 rfl⟩
            refine congrArg Ending.returned (congrArg Value.tuple (congrArg (fun v => #[v, _]) ?_))
            refine congrArg Value.string (ba_ext ?_)
            rw [HZ.out, ba_mk, recB, List.length_map, hsl, List.take_of_length_le (by omega), List.flatMap_map]
      · have HB := hid (H3.out.pull 2 rfl)
        clear H3
        have nok := HX.out.2 rfl
        have hbd := fun W => pd_body n W nok
        have c9 := (HB.out.obj 0 rfl).cell 9
        simp only [txCells, List.getElem?_cons_succ, List.getElem?_cons_zero] at c9
        have hse := fun W (hW : HalfAt W) => pg_seal W hW 0 1 ⟨(metaB n).toArray⟩ (by omega) (by omega) (by omega) (by rw [ba_size, ba_mk, length_metaB]; omega)
        rw [ba_mk] at hse
        obtain ⟨zi, hzi, ezi, -⟩ := str_z (pageB 0 1 (metaB n))
        rw [ezi] at hse
        have HV := hid (show textR (.string zi) = some (textD (pageB 0 1 (metaB n)), []) by rw [← ezi]; exact textR_mk _)
        obtain ⟨zm, hzm⟩ : ∃ zm : ByteArray, (⟨(metaB n).toArray⟩ : ByteArray) = zm := ⟨_, rfl⟩
        rw [hzm] at hse hbd
        have hkey := hid (key_of 0 (by omega))
        clear ezi hzi hzm
        go_upto_region 8 with (first
          | ((with_reducible refine at_load ?_); refine wpL_load rfl 60 (.tmp 40) rfl t 1 7 rfl _ 67 (HB.out.obj 0 rfl) meta_agg meta_size (by simp [txCells]) ?_; rw [show ((txCells x n (.map (some mb)) true spoilt).drop 1).take 7 = n.cells from rfl])
          | (go_at_call 90; refine (hbd _).mono ?_; rintro e w5 ⟨rfl, P5⟩; have HB2 := hid (HB.out.quiet P5))
          | (go_at_call 89; refine (hse _ (hh.pres HB2.out.pres)).mono ?_; rintro e w6 ⟨rfl, P6⟩; have HB3 := hid (HB2.out.quiet P6); obtain ⟨D, hown, hmi⟩ := HB3.out.map 2 rfl; have HO := hid hown; have HM := hid hmi; clear hown hmi)
          | (at_mapUpdate; refine wpList_mapUpdate_own _ rfl _ _ _ 104 rfl 3 9 int_key Tryz.underlying104 textR ib is.length D rfl HO.out (by unfold maxLen; omega) _ _ _ rfl rfl hkey.out (textD (pageB 0 1 (metaB n))) [] HV.out ?_; intro w7 hown7 hg7; have HB4 := hid (HB3.out.mapPut 2 rfl HM.out hown7 hg7)))
        have hle : (putK is 0).length ≤ is.length + 1 := by
          unfold putK
          split
          · omega
          · simp
        obtain ⟨is2, his2⟩ : ∃ is2, putK is 0 = is2 := ⟨_, rfl⟩
        rw [his2] at hle
        have HT := hid (show St w0 w7 (mapP textR textD ib (imgM M n true) is2 :: mapP leafR leafD mb M ks :: objP t (txCells x n (.map (some mb)) true spoilt) 67 :: ps) by
          rw [show imgM M n true = putM (fun k => (M k).map fun p => pageB k p.1 p.2) 0 (pageB 0 1 (metaB n)) by funext k; simp [imgM, putM], ← his2]
          exact HB4.out.pull 1 rfl |>.pull 2 rfl)
        have HF := hid (show is2.length ≤ 900001 by omega)
        clear HB HB2 HB3 HB4 HO HM hown7 hg7 hse hbd his2 c9 nok P5 P6
        have hln := HT.out.map 0 rfl
        obtain ⟨D8, hown8, hmi8⟩ := hln
        have hlen := fun ty => hown8.len Tryz.underlying104 ty
        rw [hmi8.size] at hlen
        have HI := hid (And.intro hmi8.nodup hmi8.mem)
        clear hown8 hmi8
        obtain ⟨L, hL⟩ : ∃ L, Hid (is2.length = L) := ⟨_, hid rfl⟩
        rw [hL.out] at hlen
        have hLb : L ≤ 900001 := by have := hL.out; have := HF.out; omega
        have hnum := fun W => pd_number L W (by omega)
        obtain ⟨zl, hzl, ezl, -⟩ := str_z (numLE L 4)
        rw [← hzl.out] at hnum
        clear ezl
        go_upto_region 9 with (go_at_call 63; refine (hnum _).mono ?_; rintro e w5 ⟨rfl, P5⟩)
        have H5 := hid (HT.out.quiet P5)
        clear P5 hnum hlen HT
        have hkc := keys_call (some ib) w5
        have H6 := hid (H5.out.alloc [.map (some ib)] 104)
        have hsc := sorted_call (H6.out.pull 1 rfl) w5.heap.size (by simp) ((H6.out.obj 0 rfl).cell 0) (by have := hL.out; omega)
        rw [hL.out] at hsc
        clear H5
        go_upto_region 10 with (first
          | (go_at_call 92; refine hkc.mono ?_; rintro e w6 ⟨rfl, rfl⟩)
          | (go_at_call 91; refine hsc.mono ?_; rintro e w7 ⟨v, ss, rfl, hperm, H7⟩; obtain ⟨av, cv, rfl, -, -⟩ := (H7.sl 0 rfl).shape))
        have hsl : ss.length = L := by rw [hperm.length_eq]; exact hL.out
        have H7 := hid H7
        have HP := hid hperm
        clear hkc hsc H6 hperm
        have HM : ∃ (k : Nat) (z : ByteArray), k ≤ L ∧ Value.int .i64 0 = .int .i64 (k : Int) ∧ Value.string zl = .string z ∧ z.data.toList = numLE L 4 ++ (ss.take k).flatMap (fun j => recE (j, (imgM M n true j).getD [])) ∧ St w0 w7 (slP (.slice av L cv) 3 1 L (ss.map fun k : Nat => Value.int .i64 (k : Int)) :: mapP textR textD ib (imgM M n true) is2 :: mapP leafR leafD mb M ks :: objP t (txCells x n (.map (some mb)) true spoilt) 67 :: ps) :=
          ⟨0, zl, Nat.zero_le _, rfl, rfl, by rw [hzl.out, ba_mk]; simp, (H7.out.pull 2 rfl).drop⟩
        have HM := hid HM
        clear H7 hzl
        go_wp2
        go_loopw [7, 53] (fun rv iv wr => ∃ (k : Nat) (z : ByteArray), k ≤ L ∧ iv = .int .i64 (k : Int) ∧ rv = .string z ∧ z.data.toList = numLE L 4 ++ (ss.take k).flatMap (fun j => recE (j, (imgM M n true j).getD [])) ∧ St w0 wr (slP (.slice av L cv) 3 1 L (ss.map fun k : Nat => Value.int .i64 (k : Int)) :: mapP textR textD ib (imgM M n true) is2 :: mapP leafR leafD mb M ks :: objP t (txCells x n (.map (some mb)) true spoilt) 67 :: ps)) (fun _ iv _ => L - (intOf iv).toNat)
        case atStart => exact HM.out
        case round =>
          obtain ⟨k, z, hk, rfl, rfl, hz, hS⟩ := hrel
          clear HM
          have HS := hid hS
          have HZ := hid hz
          clear hS hz
          by_cases hlt : k < L
          · have hlt' : (k : Int) < (L : Int) := by omega
            obtain ⟨j, hj⟩ : ∃ j, ss[k]? = some j := ⟨_, List.getElem?_eq_getElem (by omega)⟩
            obtain ⟨g, cg, cur, e1, -⟩ := (HS.out.sl 0 rfl).get (by omega)
            simp only [Value.slice.injEq] at e1
            obtain ⟨rfl, -, rfl⟩ := e1
            have ck : wr.cell? ⟨g, k, none⟩ = some (.int .i64 (j : Int)) := sl_cells (HS.out.sl 0 rfl) (by rw [List.getElem?_map, hj]; rfl)
            have hjm : imgM M n true j ≠ none := (HI.out.2 j).1 (HP.out.mem_iff.1 (List.mem_of_getElem? hj))
            obtain ⟨hj31, hj512⟩ := imgM_good HX.out.1 hjm
            obtain ⟨img, himg⟩ : ∃ img, Hid ((imgM M n true j).getD [] = img) := ⟨_, hid rfl⟩
            rw [himg.out] at hj512
            obtain ⟨zi, hzi, ezi, hzis⟩ := str_z img
            rw [hj512] at hzis
            have hlk : ∀ W, St w0 W (slP (.slice (some ⟨g, 0, none⟩) L cv) 3 1 L (ss.map fun k : Nat => Value.int .i64 (k : Int)) :: mapP textR textD ib (imgM M n true) is2 :: mapP leafR leafD mb M ks :: objP t (txCells x n (.map (some mb)) true spoilt) 67 :: ps) → (Instr.lookup 104 (.map (some ib)) (.int .i64 (j : Int)) false).run Tryz.prog W = .ok (.string zi) W := by
              intro W hW
              have := text_look hW 1 rfl j (by omega) hjm
              rw [himg.out, ezi] at this
              exact this
            have hnum := fun W => pd_number j W (by omega)
            obtain ⟨zn, hzn, ezn, hzns⟩ := str_z (numLE j 4)
            rw [← hzn.out] at hnum
            rw [length_numLE] at hzns
            have hzs : z.size = 4 + 516 * k := by
              rw [ba_size, HZ.out, List.length_append, length_numLE, length_recs (fun a ha => (imgM_good HX.out.1 ((HI.out.2 a).1 (HP.out.mem_iff.1 (List.mem_of_mem_take ha)))).2), List.length_take]
              omega
            have HJ := hid hj
            clear ezn ezi hj hjm
            go_upto_region 12 with fail
            refine wp_stages (by kernel_rfl) ?_
            have HS2 := hid HS.out.drew
            clear HS ck
            generalize wr.drew = wd at *
            have S0 := hlk wd HS2.out
            refine wp_stage (fun W => (Instr.lookup 104 (.map (some ib)) (.int .i64 (j : Int)) false).run Tryz.prog W = .ok (.string zi) W) [(0, true), (1, true), (3, true), (4, true), (5, true), (2, false), (6, true)] 2 rfl (by kernel_rfl) (by intro c a dd v w h; cases dd <;> exact h) (S0) ?_
            iterate 5 (refine wpOrd_read (v := _) rfl rfl (by intro w' hS; have s1 := hS; clear hS; go_simp; rfl) ?_; (try simp only [Act.put, List.setIfInBounds_toArray, List.set_cons_succ, List.set_cons_zero, List.getElem_toArray, List.getElem_cons_succ, List.getElem_cons_zero]))
            refine wpOrd_do rfl rfl (fun K hK => ?_)
            go_simp
            refine (hnum _).mono ?_
            rintro e w8 ⟨rfl, P8⟩
            have H8 := hid (HS2.out.quiet P8)
            refine hK _ _ ⟨hlk _ H8.out, ?_⟩
            clear hK K
            (try simp only [Act.put, List.setIfInBounds_toArray, List.set_cons_succ, List.set_cons_zero, List.getElem_toArray, List.getElem_cons_succ, List.getElem_cons_zero])
            iterate 1 (refine wpOrd_read (v := _) rfl rfl (by intro w' hS; skip; clear hS; go_simp; rfl) ?_; (try simp only [Act.put, List.setIfInBounds_toArray, List.set_cons_succ, List.set_cons_zero, List.getElem_toArray, List.getElem_cons_succ, List.getElem_cons_zero]))
            refine wpOrd_end ?_
            refine wp_stages_end 7 (by rfl) (by kernel_rfl) ?_
            simp only [List.drop_succ_cons, List.drop_zero]
            clear S0 HS2 P8 hnum hlk
            go_wp2
            go_roundw
            case rel =>
              refine ⟨k + 1, z ++ (zn ++ zi), by omega, by go_num, rfl, ?_, H8.out⟩
              have htk : ss.take (k + 1) = ss.take k ++ [j] := by rw [List.take_add_one, HJ.out]; rfl
              rw [ba_append, ba_append, HZ.out, hzn.out, hzi.out, ba_mk, ba_mk, htk, List.flatMap_append, List.flatMap_cons, List.flatMap_nil, List.append_nil, himg.out, recE, List.append_assoc]
            case measure => first | (simp [intOf]; done) | (simp [intOf]; omega)
          · obtain rfl : k = L := by omega
            have hend : ¬ (k : Int) < (k : Int) := by omega
            go_wp2
            rw [hPost.out]
            refine ⟨ss, is2, ib, ?_, HP.out, HI.out.1, HI.out.2, HF.out, HS.out.drop.pull 2 rfl |>.pull 1 rfl⟩
            refine congrArg Ending.returned (congrArg Value.tuple (congrArg (fun v => #[v, _]) ?_))
            refine congrArg Value.string (ba_ext ?_)
            rw [HZ.out, ba_mk, recB, List.length_map, hsl, List.take_of_length_le (by omega), List.flatMap_map]
    · intro k pk pl w3 cnt3 hMk hlk H3 hcnt hen
      have H3 := hid H3
      clear HS
      obtain ⟨z, hz, ez⟩ := leafV_str pk pl
      rw [ez] at hen ⊢
      obtain ⟨q1, q2, q3, q4, q5⟩ := HX.out.1 k (pk, pl) hMk
      simp only [] at q3 q4 q5
      have hzl : z.data.toList = pl := by rw [hz.out, ba_mk]
      have hkey := hid (key_of k (by omega))
      have hse := fun W (hW : HalfAt W) => pg_seal W hW k pk z q2 q3 q4 (by rw [ba_size, hzl]; exact q5)
      rw [hzl] at hse
      go_upto_region 5 with fail
      have H4 := hid (H3.out.alloc [.int .i64 (pk : Int), .string z] 101)
      generalize (w3.alloc _) = w4 at *
      generalize w3.heap.size = q at *
      have e0 := (H4.out.obj 0 rfl).cell 0
      have e1 := (H4.out.obj 0 rfl).cell 1
      simp only [List.getElem?_cons_succ, List.getElem?_cons_zero] at e0 e1
      have hse := hse w4 (hh.pres H4.out.pres)
      obtain ⟨zi, hzi, ezi, -⟩ := str_z (pageB k pk pl)
      rw [ezi] at hse
      have HV := hid (show textR (.string zi) = some (textD (pageB k pk pl), []) by rw [← ezi]; exact textR_mk _)
      have HC := hid (And.intro hMk (And.intro hcnt hleft))
      clear hen H3 ez hz hzi ezi hzl q1 q2 q3 q4 q5 hlk hMk hcnt hleft
      go_wp2_with (first
        | (go_at_call 89; refine hse.mono ?_; rintro e w5 ⟨rfl, P5⟩; have H5 := hid (H4.out.quiet P5); obtain ⟨D, hown, hmi⟩ := H5.out.map 2 rfl; have HO := hid hown; have HM := hid hmi; clear hown hmi)
        | (at_mapUpdate; refine wpList_mapUpdate_own _ rfl _ _ _ 104 rfl 3 9 int_key Tryz.underlying104 textR ib is.length D rfl HO.out (by unfold maxLen; omega) _ _ _ rfl rfl hkey.out (textD (pageB k pk pl)) [] HV.out ?_; intro w6 hown6 hg6; have H6 := hid (H5.out.mapPut 2 rfl HM.out hown6 hg6)))
      go_frame
      have H7 := hid (show St w0 w6 (rangeP leafR leafD mb rb M ks (fun z => left z && !z.sameKey (.int .i64 (k : Int))) cnt3 :: mapP textR textD ib (imgTo M (fun z => left z && !z.sameKey (.int .i64 (k : Int)))) (putK is k) :: objP t (txCells x n (.map (some mb)) marked spoilt) 67 :: ps) by
        rw [← imgTo_put HC.out.1]
        exact H6.out.drop)
      clear H6 H5 H4 HO HM hown6 hg6 hse e0 e1
      go_roundw
      case rel =>
        refine ⟨_, cnt3, putK is k, ⟨H7.out, ?_⟩⟩
        have h1 : (putK is k).length ≤ is.length + 1 := by
          unfold putK
          split
          · omega
          · simp
        have h2 := HC.out.2.1
        omega
      case measure => rw [H7.out.rangeLeft, HC.out.2.2]; exact HC.out.2.1
end

end Go.Proofs.YtnffnpndnaofhaaGreatDoor

/- A database of pages (layer 10): Checkpoint of one with power, and without a transaction; conditions stand in the theorem. -/
namespace Go.Proofs.YtnffnpndnaofhaaGreatDoor
open Go.RowKit
set_option maxRecDepth 100000

set_option maxHeartbeats 4000000 in
theorem pd_checkpoint {w0 w : World} {ps : List HP} {x d b log : Nat} {m : Meta} {l : Lg} {σ : Dk} (hh : HalfAt w0) (H : St w0 w (objP x (dbCells d b log m (.pointer none) false) 62 :: logP b d l :: diskP d σ :: ps)) (hd : σ.down = false) (hroom : σ.pend.length ≤ 700000000) :
    Calls Tryz.prog 23 #[.pointer (some ⟨x, 0, none⟩)] w fun e w' => e = .returned (.int .i64 (settleB l σ).1) ∧ St w0 w' (objP x (dbCells d b log m (.pointer none) ((settleB l σ).1 != 0)) 62 :: logP b d (settleB l σ).2.1 :: diskP d (settleB l σ).2.2 :: ps) := by
  have hu := fun W (hW : W = w) => hW ▸ pd_up (((H.pull 2 rfl).pull 1 rfl))
  rw [hd] at hu
  have c10 := (H.obj 0 rfl).cell 10
  simp only [dbCells, List.getElem?_cons_succ, List.getElem?_cons_zero] at c10
  have hs := pd_settle hh H hroom
  generalize settleB l σ = F at *
  obtain ⟨fe, l2, τ⟩ := F
  simp only [] at hs ⊢
  have HS := hid hs
  clear H hd hs
  go_enter Tryz.func23, Tryz.ntmps23
  go_wp2_with (go_at_call 50; refine (hu _ rfl).mono ?_; rintro e w' ⟨rfl, rfl⟩)
  refine HS.out.mono ?_
  rintro e w2 ⟨rfl, H2⟩
  have hl := pd_lose H2 fe
  clear H2 HS c10 hu
  go_wp2_with fail
  refine hl.mono ?_
  rintro e w3 ⟨rfl, H3⟩
  have H3 := hid H3
  go_wp2
  go_ret
  exact ⟨rfl, by simpa using H3.out⟩

end Go.Proofs.YtnffnpndnaofhaaGreatDoor
