/- The document's log (aquiferref08): Split, and its methods: each comes to what Lg says; conditions stand in the theorems. -/
import Derived.Test.YtjaabhdgahljcaaDoorWalF
import Derived.Test.YtjaabhdgahljcaaDoorRefA
import Derived.Test.YtjaabhdgahljcaaDoorRef07B
namespace Go.Proofs.YtjaabhdgahljcaaDoor
open Go.RowKit
set_option maxRecDepth 100000

theorem take_parts (b : List UInt8) (n : Nat) : b.take (8 + n) = b.take 4 ++ ((b.drop 4).take 4 ++ (b.drop 8).take n) := by
  rw [show 8 + n = 4 + (4 + n) by omega, List.take_add, List.take_add, List.drop_drop]

theorem unframe_iff {b : List UInt8} {n : Nat} (h8 : 8 ≤ b.length) (hn : valLE (b.take 4) = n) (h1 : n ≤ 65536) (h2 : n ≤ b.length - 8) :
    unframeB b = if frameB ((b.drop 8).take n) = b.take (8 + n) then some ((b.drop 8).take n, 8 + n) else none := by
  have hl : ((b.drop 8).take n).length = n := by rw [List.length_take, List.length_drop]; omega
  have h4 : (b.take 4).length = 4 := by rw [List.length_take]; omega
  have e4 : numLE n 4 = b.take 4 := by rw [← hn]; have := numLE_valLE (b.take 4); rwa [h4] at this
  unfold unframeB
  rw [if_neg (by omega), hn, if_neg (by omega)]
  have hiff : sum4 (b.take 4 ++ (b.drop 8).take n) = (b.drop 4).take 4 ↔ frameB ((b.drop 8).take n) = b.take (8 + n) := by
    rw [take_parts, frameB, hl, e4, List.append_assoc]
    constructor
    · intro h; rw [h]
    · intro h
      have h2 := List.append_cancel_left h
      exact List.append_cancel_right h2
  by_cases hq : sum4 (b.take 4 ++ (b.drop 8).take n) = (b.drop 4).take 4
  · rw [if_pos hq, if_pos (hiff.1 hq)]
  · rw [if_neg hq, if_neg (fun h => hq (hiff.2 h))]

/-- What Split answers. -/
def SplitEnd (w0 w' : World) (ps : List HP) (en : Ending) : Option (List (List UInt8)) → Prop
  | none => en = .returned (.tuple #[.slice none 0 0, .bool false]) ∧ St w0 w' ps
  | some l => ∃ v, en = .returned (.tuple #[v, .bool true]) ∧ St w0 w' (slP v 9 1 l.length (l.map strV) :: ps)

set_option maxHeartbeats 4000000 in
theorem rf_split {w0 w : World} {ps : List HP} (H : St w0 w ps) (s : ByteArray) (hs : s.size ≤ 4194304) :
    Calls Tryd.prog 74 #[.string s] w fun en w' => SplitEnd w0 w' ps en (splitB s.data.toList) := by
  obtain ⟨F, hF⟩ : ∃ F, Hid (splitB s.data.toList = F) := ⟨_, hid rfl⟩
  rw [hF.out]
  have HM := hid (H.nil 9 1)
  have hzs := hid (show s.data.toList.length ≤ 4194304 by rw [← ba_size]; exact hs)
  obtain ⟨j, hj, hjz, hjs, hjb⟩ := info_str
  have HJ := hid (And.intro hj (And.intro hjz (And.intro hjs hjb)))
  clear hj hjz hjs hjb H hs
  go_enter Tryd.func74, Tryd.ntmps74
  go_wp2_with fail
  go_loopw [0, 4] (fun bvv rv wr => ∃ (zr : ByteArray) (done : List (List UInt8)), bvv = .string zr ∧ Splits s.data.toList done zr.data.toList ∧ St w0 wr (slP rv 9 1 done.length (done.map strV) :: ps)) (fun bvv _ _ => strLen bvv)
  case atStart => exact ⟨s, [], rfl, Splits.start _, HM.out⟩
  case round =>
    obtain ⟨zr, done, rfl, hsp, hM⟩ := hrel
    clear HM
    have HSP := hid hsp
    have HH := hid hM
    obtain ⟨arv, crv, rfl, -, -⟩ := (hM.sl 0 rfl).shape
    clear hM
    have hzl : zr.data.toList.length = zr.size := by simp
    have hzle : zr.size ≤ 4194304 ∧ done.length ≤ 4194304 := by
      obtain ⟨f, -, -, h⟩ := hsp
      have := hzs.out
      omega
    clear hsp
    by_cases hne : zr.data.toList = []
    · obtain rfl : zr = ⟨#[]⟩ := ba_ext (by rw [hne])
      have hF3 := hF.out
      rw [(show Splits s.data.toList done [] from HSP.out).done] at hF3
      have HF3 := hid hF3
      clear hF3 hF hne hzl hzle
      go_wp2
      go_ret2
      rw [← HF3.out]
      exact ⟨_, rfl, HH.out⟩
    · have hpos : 0 < zr.size := by rw [← hzl]; exact List.length_pos_iff.2 hne
      have HNE := hid hne
      have hpos' : (0 : Int) < (zr.size : Int) := by omega
      have hzi : (zr.size : Int) ≤ 4194304 := by omega
      have fbad := fun (hu : unframeB zr.data.toList = none) => (HSP.out.bad HNE.out hu).symm.trans hF.out
      have FBAD := hid fbad
      clear fbad hne
      by_cases h8 : zr.size < 8
      · have hu : unframeB zr.data.toList = none := by unfold unframeB; rw [if_pos (by omega)]
        have HFN := hid (FBAD.out hu)
        have h8' : (zr.size : Int) < 8 := by omega
        clear hu h8
        go_wp2
        go_ret2
        rw [← HFN.out]
        exact ⟨rfl, HH.out.drop⟩
      · have h8' : ¬ (zr.size : Int) < 8 := by omega
        have hg := fun W => rf_get (zr.extract 0 4) W (by rw [ByteArray.size_extract]; omega)
        obtain ⟨n, hn⟩ : ∃ n, Hid (valLE ((zr.extract 0 4).data.toList) = n) := ⟨_, hid rfl⟩
        have hn4 : n < 2 ^ 32 := by
          rw [← hn.out]
          have := valLE_lt (zr.extract 0 4).data.toList
          have h4 : (zr.extract 0 4).data.toList.length = 4 := by rw [← ba_size, ByteArray.size_extract]; omega
          rw [h4] at this
          omega
        have hgb : getB (zr.extract 0 4).data.toList = (n : Int) := by unfold getB; rw [hn.out, if_pos (by omega)]
        rw [hgb] at hg
        have e4 : (zr.extract 0 4).data.toList = zr.data.toList.take 4 := by rw [ba_take]; simp
        have hn' : valLE (zr.data.toList.take 4) = n := by rw [← e4]; exact hn.out
        by_cases hbig : n > 65536 ∨ n > zr.size - 8
        · have hu : unframeB zr.data.toList = none := by unfold unframeB; rw [if_neg (by omega), hn', if_pos (by omega)]
          have HFN := hid (FBAD.out hu)
          clear hu e4 hn' hgb
          by_cases hb1 : n > 65536
          · have hb1' : 65536 < (n : Int) := by omega
            clear hbig hb1 h8 hn4
            go_wp2_with (go_at_call 72; refine (hg _).mono ?_; rintro e w1 ⟨rfl, rfl⟩)
            go_ret2
            rw [← HFN.out]
            exact ⟨rfl, HH.out.drop⟩
          · have hb1' : ¬ 65536 < (n : Int) := by omega
            have hb2' : (zr.size : Int) - 8 < (n : Int) := by omega
            have d1 : decide (65536 < (n : Int)) = false := by simpa using hb1'
            clear hbig hb1 h8 hn4
            go_wp2_with (go_at_call 72; refine (hg _).mono ?_; rintro e w1 ⟨rfl, rfl⟩)
            go_ret2
            rw [← HFN.out]
            exact ⟨rfl, HH.out.drop⟩
        · have hb1' : ¬ 65536 < (n : Int) := by omega
          have hb2' : ¬ (zr.size : Int) - 8 < (n : Int) := by omega
          have d1 : decide (65536 < (n : Int)) = false := by simpa using hb1'
          have d2 : decide ((zr.size : Int) - 8 < (n : Int)) = false := by simp; omega
          have hb3 : 8 + (n : Int) ≤ (zr.size : Int) := by omega
          have hw8 : ((8 : Int) + (n : Int)).toNat = 8 + n := by omega
          have hu := unframe_iff (b := zr.data.toList) (n := n) (by omega) hn' (by omega) (by omega)
          obtain ⟨x4, hx4⟩ : ∃ x, zr.extract 0 4 = x := ⟨_, rfl⟩
          obtain ⟨xr, hxr⟩ : ∃ x, zr.extract 8 (8 + n) = x := ⟨_, rfl⟩
          obtain ⟨xf, hxf⟩ : ∃ x, zr.extract 0 (8 + n) = x := ⟨_, rfl⟩
          obtain ⟨xt, hxt⟩ : ∃ x, zr.extract (8 + n) zr.size = x := ⟨_, rfl⟩
          have er : xr.data.toList = (zr.data.toList.drop 8).take n := by rw [← hxr, ba_take, ← List.take_drop]
          have ef : xf.data.toList = zr.data.toList.take (8 + n) := by rw [← hxf, ba_take, List.drop_zero]
          have et : xt.data.toList = zr.data.toList.drop (8 + n) := by rw [← hxt, ba_take, List.take_of_length_le (by omega)]
          rw [← er, ← ef] at hu
          have qr : xr.size = n := by rw [ba_size, er]; simp; omega
          have qt : xt.size = zr.size - (8 + n) := by rw [ba_size, et]; simp
          have hfr := fun W => rf_frame xr W (by omega)
          obtain ⟨zf, hzf⟩ : ∃ z : ByteArray, Hid (z = ⟨(frameB xr.data.toList).toArray⟩) := ⟨_, hid rfl⟩
          rw [← hzf.out] at hfr
          have hzfl : zf.data.toList = frameB xr.data.toList := by rw [hzf.out, ba_mk]
          rw [hx4] at hg
          rw [← hzfl] at hu
          have HU := hid hu
          have QT := hid qt
          have ET := hid et
          have HDN := hid hzle
          have hwn : IntKind.i64.wrap (8 + (n : Int)) = 8 + (n : Int) := by rw [IntKind.wrap_i64]; omega
          have hn1 : (n : Int) ≤ 65536 := by omega
          clear hbig er ef et hn' hgb hu qt hn4 e4 hzfl hzl hzle h8
          by_cases hq : zf = xf
          · subst hq
            have HUF := hid (HU.out.trans (if_pos rfl))
            go_upto_region 9 with (go_at_call 72; refine (hg _).mono ?_; rintro e w1 ⟨rfl, rfl⟩)
            refine wp_stages (by kernel_rfl) ?_
            refine wp_stage (fun _ => True) [(0, true), (2, true), (3, true), (4, true), (5, true), (1, false)] 1 rfl (by kernel_rfl) (by intro c a dd v w h; cases dd <;> exact h) (trivial) ?_
            iterate 5 (refine wpOrd_read (v := _) rfl rfl (by intro w' hS; skip; clear hS; go_simp; rfl) ?_; (try simp only [Act.put, List.setIfInBounds_toArray, List.set_cons_succ, List.set_cons_zero, List.getElem_toArray, List.getElem_cons_succ, List.getElem_cons_zero]))
            refine wpOrd_do rfl rfl (fun K hK => ?_)
            go_simp
            refine (hfr _).mono ?_
            rintro e w2 ⟨rfl, P2⟩
            refine hK _ _ ⟨trivial, ?_⟩
            clear hK K
            (try simp only [Act.put, List.setIfInBounds_toArray, List.set_cons_succ, List.set_cons_zero, List.getElem_toArray, List.getElem_cons_succ, List.getElem_cons_zero])
            refine wpOrd_end ?_
            refine wp_stages_end 6 (by rfl) (by kernel_rfl) ?_
            simp only [List.drop_succ_cons, List.drop_zero]
            have H2 := hid (HH.out.drew.quiet P2)
            clear P2 HH hfr hg
            have A3 := At.new w2 [.string xr] 9
            have H4 := hid (H2.out.quiet ((Pres.refl [] w2).alloc (.cells #[.string xr] 9)))
            have X3 := H4.out.sl 0 rfl
            clear H2
            go_wp2_with (((with_reducible refine at_append ?_); go_must (refine wpL_app rfl (.tmp 36) (.tmp 38) 31 31 rfl 9 j _ 1 Tryd.underlying31 HJ.out.1 HJ.out.2.1 HJ.out.2.2.1 rfl (.slice arv done.length crv) done.length _ rfl X3 1 [.string xr] (Src.at Tryd.underlying31 A3 rfl (by simp [Value.oneCell'])) (by have := HDN.out; simp only [maxLen]; omega) (by have := HDN.out; rw [HJ.out.2.2.2]; omega) ?_); intro v5 w5 Y1 Y2 Y3; have H5 := hid (St.grow H4.out 0 rfl Y1 Y2 Y3); clear Y1 Y2 Y3))
            go_roundw
            case rel =>
              refine ⟨xt, done ++ [xr.data.toList], rfl, ?_, ?_⟩
              · rw [ET.out]
                exact HSP.out.next HNE.out HUF.out
              · have e1 : strV xr.data.toList = .string xr := congrArg Value.string (ba_ext (ba_mk _))
                rw [List.length_append, List.map_append, List.map_cons, List.map_nil, e1]
                exact H5.out
            case measure =>
              have := QT.out
              simp only [strLen]
              omega
          · have hqb : (zf.toList == xf.toList) = false := toList_ne hq
            have HQ := hid (show ¬ zf.data.toList = xf.data.toList from fun e => hq (ba_ext e))
            clear hq
            have HFN := hid (FBAD.out (HU.out.trans (if_neg HQ.out)))
            go_upto_region 9 with (go_at_call 72; refine (hg _).mono ?_; rintro e w1 ⟨rfl, rfl⟩)
            refine wp_stages (by kernel_rfl) ?_
            refine wp_stage (fun _ => True) [(0, true), (2, true), (3, true), (4, true), (5, true), (1, false)] 1 rfl (by kernel_rfl) (by intro c a dd v w h; cases dd <;> exact h) (trivial) ?_
            iterate 5 (refine wpOrd_read (v := _) rfl rfl (by intro w' hS; skip; clear hS; go_simp; rfl) ?_; (try simp only [Act.put, List.setIfInBounds_toArray, List.set_cons_succ, List.set_cons_zero, List.getElem_toArray, List.getElem_cons_succ, List.getElem_cons_zero]))
            refine wpOrd_do rfl rfl (fun K hK => ?_)
            go_simp
            refine (hfr _).mono ?_
            rintro e w2 ⟨rfl, P2⟩
            refine hK _ _ ⟨trivial, ?_⟩
            clear hK K
            (try simp only [Act.put, List.setIfInBounds_toArray, List.set_cons_succ, List.set_cons_zero, List.getElem_toArray, List.getElem_cons_succ, List.getElem_cons_zero])
            refine wpOrd_end ?_
            refine wp_stages_end 6 (by rfl) (by kernel_rfl) ?_
            simp only [List.drop_succ_cons, List.drop_zero]
            have H2 := hid (HH.out.drew.quiet P2)
            clear P2 HH hfr hg
            go_wp2
            go_ret2
            rw [← HFN.out]
            exact ⟨rfl, H2.out.drop⟩

end Go.Proofs.YtjaabhdgahljcaaDoor
