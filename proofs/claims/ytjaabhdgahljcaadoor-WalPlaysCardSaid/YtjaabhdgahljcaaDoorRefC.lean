/- The document's log (aquiferref08): its Room, Add, head and Reset: each comes to what Lg says; conditions stand in the theorems. -/
import Derived.Test.YtjaabhdgahljcaaDoorRefB
namespace Go.Proofs.YtjaabhdgahljcaaDoor
open Go.RowKit
set_option maxRecDepth 100000

/-- The struct's own cells. -/
def qCells (r : Nat) (rv wv : Value) (l : Lg) : List Value :=
  [.pointer (some ⟨r, 0, none⟩), .int .i64 (l.base : Int), .int .i64 (l.n : Int), .int .i64 (l.epoch : Int), strV l.bytes, rv, wv, .bool l.lost]

/-- The document's log at block b over its disk at block r. -/
def qlogP (b r : Nat) (l : Lg) : HP := exP fun v : Value × Value => ifP l.Ok (sepP (objP b (qCells r v.1 v.2 l) 98) (sepP (slP v.1 9 1 l.recs.length (l.recs.map strV)) (slP v.2 9 1 l.waiting.length (l.waiting.map strV))))

section
variable {w0 w : World} {ps : List HP} {b r : Nat} {l : Lg}

theorem q_open (H : St w0 w (qlogP b r l :: ps)) : ∃ rv wv, l.Ok ∧ St w0 w (objP b (qCells r rv wv l) 98 :: slP rv 9 1 l.recs.length (l.recs.map strV) :: slP wv 9 1 l.waiting.length (l.waiting.map strV) :: ps) := by
  obtain ⟨⟨rv, wv⟩, H⟩ := H.ex
  obtain ⟨ok, H⟩ := H.fact
  have H1 := (H.split.pull 1 rfl).split
  exact ⟨rv, wv, ok, H1.pull 2 rfl⟩

theorem q_close {rv wv : Value} (ok : l.Ok) (H : St w0 w (objP b (qCells r rv wv l) 98 :: slP rv 9 1 l.recs.length (l.recs.map strV) :: slP wv 9 1 l.waiting.length (l.waiting.map strV) :: ps)) : St w0 w (qlogP b r l :: ps) := by
  refine St.any (rv, wv) (St.with ok ?_)
  have H1 := ((H.pull 2 rfl).pull 2 rfl).join
  exact (H1.pull 1 rfl).join
end

theorem bytes_z (l : List UInt8) : ∃ z : ByteArray, Hid (z = ⟨l.toArray⟩) ∧ strV l = .string z ∧ z.size = l.length := ⟨_, hid rfl, rfl, by rw [ba_size, ba_mk]⟩

theorem q_room {w0 w : World} {ps : List HP} {b r : Nat} {l : Lg} (H : St w0 w (qlogP b r l :: ps)) :
    Calls Tryd.prog 61 #[.pointer (some ⟨b, 0, none⟩)] w fun e w' => e = .returned (.int .i64 l.room) ∧ Pres [] w w' := by
  obtain ⟨rv, wv, ok, H⟩ := q_open H
  obtain ⟨ao, cap, rfl, -, -⟩ := (H.sl 2 rfl).shape
  obtain ⟨zb, -, hzb, hzs⟩ := bytes_z l.bytes
  have c2 := (H.obj 0 rfl).cell 2
  have c4 := (H.obj 0 rfl).cell 4
  have c6 := (H.obj 0 rfl).cell 6
  simp only [qCells, List.getElem?_cons_succ, List.getElem?_cons_zero, hzb] at c2 c4 c6
  have hmost := ok.most
  have htwo := ok.two
  have hfit := ok.fits
  have hroom := Lg.room_eq ok
  have h8 := frames_eight l.waiting
  have HH := hid (And.intro ok H)
  clear H ok hzb
  go_enter Tryd.func61, Tryd.ntmps61
  go_upto_region 1 with fail
  refine wp_stages (by kernel_rfl) ?_
  have S0 : w.drew.cell? ⟨b, 2, none⟩ = some (.int .i64 (l.n : Int)) ∧ w.drew.cell? ⟨b, 4, none⟩ = some (.string zb) := ⟨c2, c4⟩
  have hw1 : IntKind.i64.wrap ((l.n : Int) - 1) = (l.n : Int) - 1 := by rw [IntKind.wrap_i64]; omega
  have hw2 : IntKind.i64.wrap (64 * ((l.n : Int) - 1)) = 64 * ((l.n : Int) - 1) := by rw [IntKind.wrap_i64]; omega
  have hw3 : IntKind.i64.wrap (64 * ((l.n : Int) - 1) - (l.bytes.length : Int)) = 64 * ((l.n : Int) - 1) - (l.bytes.length : Int) := by rw [IntKind.wrap_i64]; omega
  refine wp_stage (fun W => W.cell? ⟨b, 2, none⟩ = some (.int .i64 (l.n : Int)) ∧ W.cell? ⟨b, 4, none⟩ = some (.string zb)) [(0, true), (1, true), (2, true), (3, true), (4, true), (5, true), (6, true), (7, true), (8, true), (9, true), (10, true)] 2 rfl (by kernel_rfl) (by intro c a dd v w h; cases dd <;> exact h) (S0) ?_
  iterate 11 (refine wpOrd_read (v := _) rfl rfl (by intro w' hS; obtain ⟨s1, s2⟩ := id hS; clear hS; go_simp; rfl) ?_; (try simp only [Act.put, List.setIfInBounds_toArray, List.set_cons_succ, List.set_cons_zero, List.getElem_toArray, List.getElem_cons_succ, List.getElem_cons_zero]))
  refine wpOrd_end ?_
  refine wp_stages_end 11 (by rfl) (by kernel_rfl) ?_
  simp only [List.drop_succ_cons, List.drop_zero]
  clear hw1 hw2 hw3 S0
  have c6' : w.drew.cell? ⟨b, 6, none⟩ = some (.slice ao l.waiting.length cap) := c6
  have HD := hid HH.out.2.drew
  have HP := hid ((Pres.refl [] w).drew)
  generalize w.drew = wd at *
  clear c2 c4 c6
  go_wp2
  go_loop [3, 4] (fun rv iv => ∃ k : Nat, k ≤ l.waiting.length ∧ iv = .int .i64 (k : Int) ∧ rv = .int .i64 (64 * ((l.n : Int) - 1) - (l.bytes.length : Int) - (sumTo l k : Int))) (fun _ iv => l.waiting.length - (intOf iv).toNat)
  case atStart => exact ⟨0, Nat.zero_le _, rfl, by simp [sumTo, frames]⟩
  case round =>
    obtain ⟨k, hk, rfl, rfl⟩ := hrel
    have hs := sumTo_le l k
    by_cases hlt : k < l.waiting.length
    · obtain ⟨r, hr⟩ : ∃ r, l.waiting[k]? = some r := ⟨_, List.getElem?_eq_getElem hlt⟩
      have hst := sumTo_succ hr
      have hs' := sumTo_le l (k + 1)
      obtain ⟨g, cg, cur, e1, -⟩ := (HD.out.sl 2 rfl).get (by omega)
      simp only [Value.slice.injEq] at e1
      obtain ⟨rfl, -, rfl⟩ := e1
      have ck : wd.cell? ⟨g, k, none⟩ = some (strV r) := sl_cells (HD.out.sl 2 rfl) (by rw [List.getElem?_map, hr]; rfl)
      unfold strV at ck
      have hrl : (⟨r.toArray⟩ : ByteArray).size = r.length := by simp [ByteArray.size]
      obtain ⟨z, hz⟩ : ∃ z : ByteArray, Hid ((⟨r.toArray⟩ : ByteArray) = z) := ⟨_, hid rfl⟩
      rw [hz.out] at ck hrl
      have hlt' : (k : Int) < (l.waiting.length : Int) := by omega
      obtain ⟨q, hq⟩ : ∃ q, Hid (r.length = q) := ⟨_, hid rfl⟩
      rw [hq.out] at hrl hst
      have HS := hid hst
      have hq64 : q ≤ 4194304 := by omega
      clear hst hr
      go_wp2
      go_round
      case rel => exact ⟨k + 1, by omega, by go_num, by rw [HS.out]; congr 1; omega⟩
      case measure => first | (simp [intOf]; done) | (simp [intOf]; omega)
    · have hend : ¬ (k : Int) < (l.waiting.length : Int) := by omega
      have ek : k = l.waiting.length := by omega
      have HS := hid (show sumTo l k = (frames l.waiting).length by rw [ek]; unfold sumTo; rw [List.take_length])
      have HR := hid hroom
      clear hroom ek
      go_wp2
      go_ret
      refine ⟨congrArg (fun x : Int => Ending.returned (.int .i64 x)) ?_, HP.out⟩
      rw [HR.out, HS.out]
      omega

theorem q_add {w0 w : World} {ps : List HP} {b r : Nat} {l : Lg} (H : St w0 w (qlogP b r l :: ps)) (s : ByteArray) (hs : s.size ≤ maxLen) :
    Calls Tryd.prog 54 #[.pointer (some ⟨b, 0, none⟩), .string s] w fun e w' => e = .returned (.int .i64 (l.add s.data.toList).1) ∧ St w0 w' (qlogP b r (l.add s.data.toList).2 :: ps) := by
  have hr := fun W (hW : W = w) => hW ▸ q_room H
  have HX := hid H
  obtain ⟨rv, wv, ok, H⟩ := q_open H
  have hok := Lg.add_ok ok s.data.toList
  have hl : s.data.toList.length = s.size := by simp
  have hcn := ok.counts
  have hroom := Lg.room_eq ok
  have hfit := ok.fits
  have hmost := ok.most
  have c7 := (H.obj 0 rfl).cell 7
  simp only [qCells, List.getElem?_cons_succ, List.getElem?_cons_zero] at c7
  have HH := hid (And.intro hok H)
  unfold maxLen at hs
  clear H hok ok
  cases hlost : l.lost
  · rw [hlost] at c7
    by_cases hlong : 65536 < s.size
    · have e : l.add s.data.toList = (3, l) := by simp only [Lg.add, hlost, hl, if_pos hlong, Bool.false_eq_true, if_false]
      rw [e]
      have hlong' : 65536 < (s.size : Int) := by omega
      clear e hlost hl hlong HH hcn hroom hfit hmost hr
      go_enter Tryd.func54, Tryd.ntmps54
      go_wp2
      go_ret
      exact ⟨rfl, HX.out⟩
    · have hlong' : ¬ 65536 < (s.size : Int) := by omega
      obtain ⟨q, hq⟩ : ∃ q : Int, Hid (l.room = q) := ⟨_, hid rfl⟩
      rw [hq.out] at hroom hr
      by_cases hfull : (8 + s.size : Int) > q
      · have e : l.add s.data.toList = (7, l) := by
          simp only [Lg.add, hlost, hl, if_neg hlong, hq.out, if_pos hfull, Bool.false_eq_true, if_false]
        rw [e]
        have hfull' : q - 8 < (s.size : Int) := by omega
        have hq1 : -9223372036854775000 ≤ q := by omega
        have hq2 : q ≤ 9223372036854775807 := by omega
        clear e hlost hl hlong HH hcn hroom hfit hmost hfull
        go_enter Tryd.func54, Tryd.ntmps54
        go_wp2_with (go_at_call 61; refine (hr _ rfl).mono ?_; rintro e w2 ⟨rfl, P2⟩)
        go_ret
        exact ⟨rfl, HX.out.quiet P2⟩
      · have e : l.add s.data.toList = (0, { l with waiting := l.waiting ++ [s.data.toList] }) := by
          simp only [Lg.add, hlost, hl, if_neg hlong, hq.out, if_neg hfull, Bool.false_eq_true, if_false]
        rw [e] at HH ⊢
        have hfull' : ¬ q - 8 < (s.size : Int) := by omega
        have hq1 : -9223372036854775000 ≤ q := by omega
        have hq2 : q ≤ 9223372036854775807 := by omega
        obtain ⟨i, hi, hz, hs', hb'⟩ := info_str
        have HI := hid (And.intro hi (And.intro hz (And.intro hs' hb')))
        have hwl : l.waiting.length ≤ 4194304 := by omega
        obtain ⟨awv, cwv, rfl, -, -⟩ := (HH.out.2.sl 2 rfl).shape
        clear e hlost hl hlong hcn hroom hfit hmost hfull hi hz hs' hb'
        go_enter Tryd.func54, Tryd.ntmps54
        go_upto_region 7 with (go_at_call 61; refine (hr _ rfl).mono ?_; rintro e w2 ⟨rfl, P2⟩)
        have H2 := hid (HH.out.2.quiet P2)
        have A0 : Sl (w2.alloc (.cells #[] 9)) 9 1 (.slice (some ⟨w2.heap.size, 0, none⟩) 0 0) 0 [] := ⟨rfl, .inr ⟨_, 0, [], rfl, At.new w2 [] _, Nat.le_refl _, by simp [maxLen], rfl, rfl⟩⟩
        have H3 := hid (H2.out.slice A0 ((Pres.refl [] w2).alloc (.cells #[] 9)) (by simp [fpv]))
        clear A0 H2 P2 c7
        have c6 := (H3.out.obj 1 rfl).cell 6
        simp only [qCells, List.getElem?_cons_succ, List.getElem?_cons_zero] at c6
        have X3 := H3.out.sl 0 rfl
        have Z3 := H3.out.sl 3 rfl
        go_wp2_with (first
          | ((with_reducible refine at_append ?_); refine wpL_app rfl (.tmp 19) (.tmp 23) 31 31 rfl 9 i _ 1 Tryd.underlying31 HI.out.1 HI.out.2.1 HI.out.2.2.1 rfl _ 0 [] rfl X3 l.waiting.length _ (Src.sl Tryd.underlying31 Z3 (strs_one _)) (by simp only [maxLen]; omega) (by rw [HI.out.2.2.2]; omega) ?_; intro v4 w4 Y1 Y2 Y3; simp only [Nat.zero_add, List.nil_append] at Y1; have H4 := hid (H3.out.grow 0 rfl Y1 Y2 Y3); have A5 := At.new w4 [.string s] 9; have H5 := hid (H4.out.quiet ((Pres.refl [] w4).alloc (.cells #[.string s] 9))); have X5 := H5.out.sl 0 rfl; clear Y1 Y2 Y3)
          | ((with_reducible refine at_append ?_); go_must (refine wpL_app rfl (.tmp 24) (.tmp 26) 31 31 rfl 9 i _ 1 Tryd.underlying31 HI.out.1 HI.out.2.1 HI.out.2.2.1 rfl _ l.waiting.length _ rfl X5 1 [.string s] (Src.at Tryd.underlying31 A5 rfl (by simp [Value.oneCell'])) (by simp only [maxLen]; omega) (by rw [HI.out.2.2.2]; omega) ?_); intro v6 w6 Y1 Y2 Y3; have H6 := hid (H5.out.grow 0 rfl Y1 Y2 Y3); obtain ⟨ao6, cap6, rfl, -, -⟩ := Y1.shape; have f6 := (H6.out.obj 1 rfl).frozen 6; have c8 := (H6.out.obj 1 rfl).cell 6; simp only [qCells, List.getElem?_cons_succ, List.getElem?_cons_zero] at c8; clear Y1 Y2 Y3))
        go_ret
        refine ⟨rfl, q_close HH.out.1 (rv := rv) (wv := .slice ao6 (l.waiting.length + 1) cap6) ?_⟩
        have H7 := H6.out.set 1 rfl 6 (.slice ao6 (l.waiting.length + 1) cap6)
        have e1 : strV s.data.toList = .string s := congrArg Value.string (ba_ext (ba_mk _))
        simp only [List.length_append, List.length_cons, List.length_nil, List.map_append, List.map_cons, List.map_nil, e1]
        have H8 := (H7.pull 3 rfl).drop
        exact (H8.pull 2 rfl).pull 2 rfl
  · rw [hlost] at c7
    have e : l.add s.data.toList = (10, l) := by simp [Lg.add, hlost]
    rw [e]
    clear e hlost hl HH hcn hroom hfit hmost hr
    go_enter Tryd.func54, Tryd.ntmps54
    go_wp2
    go_ret
    exact ⟨rfl, HX.out⟩

end Go.Proofs.YtjaabhdgahljcaaDoor
