/- Parts of the proof: What a []Act (aquiferlaw10) reads as: a list of calls. No condition. -/
import Derived.Test.YtnffnpndnaofhaaGreatDoorQaa
import Derived.Test.YtnffnpndnaofhaaGreatDoorChecked
import Derived.Test.YtnffnpndnaofhaaGreatDoorQaj

/- What a []Act (aquiferlaw10) reads as: a list of calls. No condition. -/
namespace Go.Proofs.YtnffnpndnaofhaaGreatDoor
open Go.RowKit Go.WideShapes Go.ChangeShapes Go.Deep
set_option maxRecDepth 100000

structure ActD where
  kind : Int
  pid : Int
  kd : Int
  s : ByteArray
  kv : Value
  keep : List Bool

def ActD.cells (a : ActD) : List Value := [.int .i64 a.kind, .int .i64 a.pid, .int .i64 a.kd, .string a.s, a.kv]

structure ActD.Ok (w : World) (a : ActD) : Prop where
  kind : (Lit.int .i64 a.kind).wf = true
  pid : (Lit.int .i64 a.pid).wf = true
  kd : (Lit.int .i64 a.kd).wf = true
  s : a.s.size ≤ maxLen
  keep : Reads w a.kv (a.keep.map Value.bool)

/-- Slice v reads as these calls. -/
def ActsAt (w : World) (v : Value) (l : List ActD) : Prop := ReadsN w v 5 (l.map ActD.cells) ∧ ∀ a ∈ l, a.Ok w

theorem act_of_trod {H : Type} {enc : TypeId × Value → H} {w : World} {held : Bool} {n : Nat} {cs : List Value} {x : DataW H × List MemPlace}
    (h : DataW.trod enc Tryz.prog w 0 (fun _ => true) held n 46 cs = some x) : ∃ a : ActD, cs = a.cells ∧ a.Ok w := by
  obtain ⟨xs, m, _, _, hl, hlen, hf⟩ := DataW.trod_struct Tryz.underlying46 h
  have hc : Tryz.prog.cellsOf 46 = 5 := by kernel_rfl
  have ci : Tryz.prog.cellsOf 3 = 1 := by kernel_rfl
  have cst : Tryz.prog.cellsOf 9 = 1 := by kernel_rfl
  have cb : Tryz.prog.cellsOf 44 = 1 := by kernel_rfl
  have cbo : Tryz.prog.cellsOf 4 = 1 := by kernel_rfl
  rw [hc] at hl
  obtain ⟨c0, c1, c2, c3, c4, rfl⟩ : ∃ c0 c1 c2 c3 c4, cs = [c0, c1, c2, c3, c4] := by
    match cs, hl with
    | [c0, c1, c2, c3, c4], _ => exact ⟨c0, c1, c2, c3, c4, rfl⟩
  have f0 : DataW.trod enc Tryz.prog w 0 (fun _ => true) held m 3 (([c0, c1, c2, c3, c4].drop 0).take (Tryz.prog.cellsOf 3)) = xs[0]? := hf 0 _ rfl
  have f1 : DataW.trod enc Tryz.prog w 0 (fun _ => true) held m 3 (([c0, c1, c2, c3, c4].drop 1).take (Tryz.prog.cellsOf 3)) = xs[1]? := hf 1 _ rfl
  have f2 : DataW.trod enc Tryz.prog w 0 (fun _ => true) held m 3 (([c0, c1, c2, c3, c4].drop 2).take (Tryz.prog.cellsOf 3)) = xs[2]? := hf 2 _ rfl
  have f3 : DataW.trod enc Tryz.prog w 0 (fun _ => true) held m 9 (([c0, c1, c2, c3, c4].drop 3).take (Tryz.prog.cellsOf 9)) = xs[3]? := hf 3 _ rfl
  have f4 : DataW.trod enc Tryz.prog w 0 (fun _ => true) held m 44 (([c0, c1, c2, c3, c4].drop 4).take (Tryz.prog.cellsOf 44)) = xs[4]? := hf 4 _ rfl
  rw [ci] at f0 f1 f2
  rw [cst] at f3
  rw [cb] at f4
  have hx : ∀ i, i < 5 → ∃ y, xs[i]? = some y := fun i hi => ⟨_, List.getElem?_eq_getElem (by rw [hlen]; exact hi)⟩
  obtain ⟨y0, e0⟩ := hx 0 (by omega)
  obtain ⟨y1, e1⟩ := hx 1 (by omega)
  obtain ⟨y2, e2⟩ := hx 2 (by omega)
  obtain ⟨y3, e3⟩ := hx 3 (by omega)
  obtain ⟨y4, e4⟩ := hx 4 (by omega)
  rw [e0] at f0
  rw [e1] at f1
  rw [e2] at f2
  rw [e3] at f3
  rw [e4] at f4
  obtain ⟨a, ea, _, wa⟩ := DataW.trod_int Tryz.underlying3 f0
  obtain ⟨b, eb, _, wb⟩ := DataW.trod_int Tryz.underlying3 f1
  obtain ⟨c, ec, _, wc⟩ := DataW.trod_int Tryz.underlying3 f2
  obtain ⟨s, es, _, hs⟩ := DataW.trod_string Tryz.underlying9 f3
  simp only [List.drop_zero, List.drop_succ_cons, List.take_succ_cons, List.take_zero, List.cons.injEq, and_true] at ea eb ec es f4
  subst ea eb ec es
  obtain ⟨bs, hb⟩ := bools_of_slice Tryz.underlying44 Tryz.underlying4 cbo f4
  exact ⟨⟨a, b, c, s, c4, bs⟩, rfl, ⟨wa, wb, wc, hs, hb⟩⟩

theorem acts_of_slice {H : Type} {enc : TypeId × Value → H} {w : World} {held : Bool} {fuel : Nat} {v : Value} {x : DataW H × List MemPlace}
    (h : DataW.trod enc Tryz.prog w 0 (fun _ => true) held fuel 32 [v] = some x) : ∃ l : List ActD, ActsAt w v l := by
  have hc : Tryz.prog.cellsOf 46 = 5 := by kernel_rfl
  obtain ⟨cs, h1, h2⟩ := readsN_of_slice Tryz.underlying32 (by omega) h
  rw [hc] at h1
  obtain ⟨l, rfl, hl⟩ := map_of_forall (f := ActD.cells) (p := fun a => a.Ok w) (fun y hy => by
    obtain ⟨n, d, hd⟩ := h2 y hy
    exact act_of_trod hd)
  exact ⟨l, h1, hl⟩

theorem ActsAt.pres {fp : List Nat} {w w' : World} {v : Value} {l : List ActD} (h : ActsAt w v l) (hp : Pres fp w w') (hn : ∀ k < w.heap.size, k ∉ fp) : ActsAt w' v l := by
  have hlt : ∀ {m : Nat} {cs : List (List Value)}, 0 < m → ReadsN w v m cs → cs ≠ [] → ∀ k ∈ fpv v, k < w.heap.size := by
    intro m cs hm h hc k hk
    obtain ⟨ao, cap, rfl, _, _, h3⟩ := h
    obtain ⟨x, r, rfl⟩ := List.exists_cons_of_ne_nil hc
    obtain ⟨hl, b, off, rfl, h4⟩ := h3 0 x rfl
    simp [fpv] at hk
    subst hk
    obtain ⟨y, hy⟩ : ∃ y, x[0]? = some y := ⟨_, List.getElem?_eq_getElem (by omega)⟩
    exact World.block_lt_of_cell? w _ (h4 0 y hy)
  exact ⟨h.1.pres hp (fun hc k hk => hn k (hlt (by omega) h.1 hc k hk)), fun a ha => ⟨(h.2 a ha).kind, (h.2 a ha).pid, (h.2 a ha).kd, (h.2 a ha).s, (h.2 a ha).keep.pres hp (fun hc k hk => hn k ((h.2 a ha).keep.lt hc k hk))⟩⟩

/-- One call's cells. -/
theorem ActsAt.get {w : World} {v : Value} {l : List ActD} (h : ActsAt w v l) {k : Nat} {a : ActD} (ha : l[k]? = some a) :
    ∃ b off cap, v = .slice (some ⟨b, off, none⟩) l.length cap ∧ l.length ≤ cap ∧ cap ≤ maxLen ∧ (∀ i x, a.cells[i]? = some x → w.cell? ⟨b, off + k * 5 + i, none⟩ = some x) ∧ b < w.heap.size := by
  obtain ⟨ao, cap, rfl, h1, h2, h3⟩ := h.1
  rw [List.length_map] at h1
  obtain ⟨_, b, off, rfl, h4⟩ := h3 k a.cells (by simp [ha])
  exact ⟨b, off, cap, by simp, h1, h2, h4, World.block_lt_of_cell? w _ (h4 0 _ rfl)⟩

end Go.Proofs.YtnffnpndnaofhaaGreatDoor

/- aquiferlaw10.change and build: some changes by one call, and transactions of them; conditions stand in the theorems. -/
namespace Go.Proofs.YtnffnpndnaofhaaGreatDoor
open Go.RowKit
set_option maxRecDepth 100000

theorem cut_extract (s : ByteArray) (m M : Nat) (h : M = min m s.size) : (s.extract 0 M).data.toList = s.data.toList.take m := by
  subst h
  rw [ba_take, List.drop_zero]
  rcases Nat.le_total m s.size with h | h
  · rw [Nat.min_eq_left h]
  · rw [Nat.min_eq_right h, List.take_of_length_le (by rw [← ba_size]; omega), List.take_of_length_le (by rw [← ba_size]; omega)]

/-- A transaction as data. -/
structure TS where
  T : PSt
  tk : Nat → Bool
  mark : Bool

def TS.alloc (X : TS) (cnt : Nat) : TS := ⟨(X.T.alloc cnt).2.2, if (X.T.alloc cnt).2.1 = 0 then tchK X.tk (X.T.alloc cnt).1 else X.tk, if (X.T.alloc cnt).2.1 = 0 then true else X.mark⟩
def TS.write (X : TS) (k kind : Int) (s : List UInt8) : TS := ⟨if X.T.writeE k kind s.length = 0 then X.T.write k.toNat (kind.toNat, s) else X.T, if X.T.writeE k kind s.length = 0 then tchK X.tk k.toNat else X.tk, X.mark⟩
def TS.free (X : TS) (k : Int) : TS := ⟨if X.T.there k = 0 then X.T.free k.toNat else X.T, if X.T.there k = 0 then tchK X.tk k.toNat else X.tk, if X.T.there k = 0 then true else X.mark⟩
def TS.root (X : TS) (i v : Nat) : TS := ⟨X.T.setRoot i v, X.tk, true⟩

def actS (a : ActD) : List UInt8 := a.s.data.toList.take 100
theorem cat120 (xs : ByteArray) : (xs ++ (⟨#[120]⟩ : ByteArray)).data.toList = xs.data.toList ++ [120] := by simp

def wrp (x m : Int) : Int := (x.tmod m + m).tmod m
def othK (a : ActD) (k : Nat) : Int := 1 + (wrp a.pid 9 + (k : Int)).tmod 9

/-- One round of changes. -/
def TS.chg1 (X : TS) (cnt : Nat) (a : ActD) (k : Nat) : TS :=
  let Y := if (X.T.alloc cnt).2.1 = 0 then (X.alloc cnt).write ((X.T.alloc cnt).1 : Int) (1 + wrp a.kd 200) (actS a) else X.alloc cnt
  if a.kind.tmod 3 = 0 then Y.free (othK a k) else Y.write (othK a k) 7 (actS a ++ [120])

def TS.chgTo (X : TS) (cnt : Nat) (a : ActD) : Nat → TS
  | 0 => X
  | k + 1 => (X.chgTo cnt a k).chg1 cnt a k

def TS.chg (X : TS) (cnt : Nat) (a : ActD) : TS := (X.chgTo cnt a (1 + wrp a.kd 3).toNat).root (wrp a.pid 4).toNat (wrp a.kd 100).toNat

theorem wrp_bounds (x : Int) {m : Int} (h : 0 < m) : 0 ≤ wrp x m ∧ wrp x m < m := by
  unfold wrp
  have h1 := Int.lt_tmod_of_pos x h
  have h2 : 0 ≤ x.tmod m + m := by omega
  exact ⟨Int.tmod_nonneg _ h2, Int.tmod_lt_of_pos _ h⟩

section
variable {w0 w : World} {ps : List HP} {x d t N log cnt E : Nat} {arm sp : Bool} {S : PSt}

theorem txP_pa {tk : Nat → Bool} {mk : Bool} {T : PSt} (H : St w0 w (txP x d t N log cnt E arm S T tk mk sp :: ps)) : (T.alloc cnt).1 ≤ 8192 := by
  obtain ⟨X, h1, h2, -⟩ := txP_open H
  have hm := h2.views.most
  have hc := h1.rest.sh.few
  unfold PSt.alloc
  split
  · split <;> simp only [] <;> omega
  · rename_i hf
    simp only []
    have hl : T.freed.getLastD 0 ∈ T.freed := by
      rw [List.getLastD_eq_getLast?, List.getLast?_eq_some_getLast hf]
      exact List.getLast_mem hf
    have := (h2.views.mem hl).2
    omega

set_option maxHeartbeats 8000000 in
theorem law_change (hh : HalfAt w0) (X : TS) (a : ActD) (hs : a.s.size ≤ maxLen) (H : St w0 w (txP x d t N log cnt E arm S X.T X.tk X.mark sp :: ps)) :
    Calls Tryz.prog 16 #[.pointer (some ⟨t, 0, none⟩), .agg a.cells.toArray] w fun e w' => e = .returned (.tuple #[]) ∧
      St w0 w' (txP x d t N log cnt E arm S (X.chg cnt a).T (X.chg cnt a).tk (X.chg cnt a).mark sp :: ps) := by
  have H0 := hid (H.alloc a.cells 46)
  simp only [ActD.cells] at H0
  obtain ⟨Y, hY⟩ : ∃ Y, Hid (X.chg cnt a = Y) := ⟨_, hid rfl⟩
  rw [hY.out]
  unfold ActD.cells
  have HA := hid hs
  clear H
  obtain ⟨M, hM⟩ : ∃ M : Nat, M = min 100 a.s.size := ⟨_, rfl⟩
  have hM1 : min (a.s.size : Int) 100 = (M : Int) := by omega
  have hM2 : M ≤ a.s.size := by omega
  have hM3 : M ≤ 100 := by omega
  have hxl := hid (cut_extract a.s 100 (min 100 a.s.size) rfl)
  have hxsz := hid (show (a.s.extract 0 (min 100 a.s.size)).size ≤ 100 by rw [ByteArray.size_extract]; omega)
  obtain ⟨r3, hr3⟩ : ∃ r, a.kd.tmod 3 = r := ⟨_, rfl⟩
  have r3b := Int.lt_tmod_of_pos a.kd (show (0 : Int) < 3 by omega)
  have r3c := Int.tmod_lt_of_pos a.kd (show (0 : Int) < 3 by omega)
  rw [hr3] at r3b r3c
  obtain ⟨n3, hn3⟩ : ∃ n : Nat, 1 + r3 % 3 = (n : Int) := ⟨(1 + r3 % 3).toNat, by omega⟩
  have e3 : (r3 + 3).tmod 3 = (r3 + 3) % 3 := Int.tmod_eq_emod_of_nonneg (by omega)
  go_enter Tryz.func16, Tryz.ntmps16
  go_upto_region 1 with fail
  generalize w.heap.size = ab at *
  generalize (w.alloc _) = w1 at *
  have d0 := (H0.out.obj 0 rfl).cell 0
  have d1 := (H0.out.obj 0 rfl).cell 1
  have d2 := (H0.out.obj 0 rfl).cell 2
  have d3 := (H0.out.obj 0 rfl).cell 3
  simp only [List.getElem?_cons_succ, List.getElem?_cons_zero] at d0 d1 d2 d3
  have e0 : X.chgTo cnt a 0 = X := rfl
  rw [← e0] at H0
  clear e0
  obtain ⟨r200, hr200⟩ : ∃ r, a.kd.tmod 200 = r := ⟨_, rfl⟩
  have r200b := Int.lt_tmod_of_pos a.kd (show (0 : Int) < 200 by omega)
  have r200c := Int.tmod_lt_of_pos a.kd (show (0 : Int) < 200 by omega)
  rw [hr200] at r200b r200c
  have e200 : (r200 + 200).tmod 200 = (r200 + 200) % 200 := Int.tmod_eq_emod_of_nonneg (by omega)
  obtain ⟨n200, hn200⟩ : ∃ n : Nat, r200 % 200 = (n : Int) := ⟨(r200 % 200).toNat, by omega⟩
  obtain ⟨r9, hr9⟩ : ∃ r, a.pid.tmod 9 = r := ⟨_, rfl⟩
  have r9b := Int.lt_tmod_of_pos a.pid (show (0 : Int) < 9 by omega)
  have r9c := Int.tmod_lt_of_pos a.pid (show (0 : Int) < 9 by omega)
  rw [hr9] at r9b r9c
  have e9 : (r9 + 9).tmod 9 = (r9 + 9) % 9 := Int.tmod_eq_emod_of_nonneg (by omega)
  obtain ⟨n9, hn9⟩ : ∃ n : Nat, r9 % 9 = (n : Int) := ⟨(r9 % 9).toNat, by omega⟩
  have w3 : 1 + wrp a.kd 3 = (n3 : Int) := by unfold wrp; rw [hr3, e3, ← hn3]; omega
  have w200 : wrp a.kd 200 = (n200 : Int) := by unfold wrp; rw [hr200, e200, ← hn200]; omega
  have w9 : wrp a.pid 9 = (n9 : Int) := by unfold wrp; rw [hr9, e9, ← hn9]; omega
  have W200 := hid w200
  have W9 := hid w9
  have W3 := hid w3
  clear w3 w200 w9
  go_wp2
  generalize a.s.extract 0 (min 100 a.s.size) = xs at *
  go_loopw [22] (fun kv wr => ∃ k : Nat, k ≤ n3 ∧ kv = .int .i64 (k : Int) ∧ St w0 wr (objP ab a.cells 46 :: txP x d t N log cnt E arm S (X.chgTo cnt a k).T (X.chgTo cnt a k).tk (X.chgTo cnt a k).mark sp :: ps)) (fun kv _ => n3 - (intOf kv).toNat)
  case atStart => exact ⟨0, Nat.zero_le _, rfl, H0.out⟩
  case round =>
    obtain ⟨k, hk, rfl, hM⟩ := hrel
    clear H0
    have HH := hid hM
    clear hM
    have d0 := (HH.out.obj 0 rfl).cell 0
    have d1 := (HH.out.obj 0 rfl).cell 1
    have d2 := (HH.out.obj 0 rfl).cell 2
    simp only [ActD.cells, List.getElem?_cons_succ, List.getElem?_cons_zero] at d0 d1 d2
    by_cases hlt : k < n3
    · have hl1 : (k : Int) < (n3 : Int) := by omega
      have hal := tp_alloc hh (HH.out.pull 1 rfl)
      clear d0 d1 d2
      obtain ⟨Z, hZ⟩ : ∃ Z, Hid (X.chgTo cnt a k = Z) := ⟨_, hid rfl⟩
      rw [hZ.out] at hal HH
      have hA : (Z.T.alloc cnt).2.1 = 0 ∨ (Z.T.alloc cnt).2.1 = 7 := by
        unfold PSt.alloc
        split
        · split
          · exact .inr rfl
          · exact .inl rfl
        · exact .inl rfl
      have hn3b : (n3 : Int) ≤ 3 := by omega
      have hn9b : (n9 : Int) < 9 := by omega
      have hn9c : n9 < 9 := by omega
      clear hr3 r3b r3c e3 hn3 hM1 hM2 hM3
      obtain ⟨o, ho⟩ : ∃ o : Nat, ((n9 : Int) + (k : Int)).tmod 9 = (o : Int) := ⟨(n9 + k) % 9, by rw [Int.tmod_eq_emod_of_nonneg (by omega)]; omega⟩
      have ho9 : o < 9 := by rw [Int.tmod_eq_emod_of_nonneg (by omega)] at ho; omega
      have g1 := txP_pa (HH.out.pull 1 rfl)
      obtain ⟨pa, ea, Ta, hpe⟩ : ∃ p e T, Hid (Z.T.alloc cnt = (p, e, T)) := ⟨(Z.T.alloc cnt).1, (Z.T.alloc cnt).2.1, (Z.T.alloc cnt).2.2, hid rfl⟩
      rw [hpe.out] at hal hA g1
      simp only [] at hal hA g1
      rcases hA with rfl | rfl
      · simp only [if_true] at hal
        obtain ⟨nk, hnk⟩ : ∃ n : Nat, 1 + (n200 : Int) = (n : Int) := ⟨1 + n200, by omega⟩
        have g3 : (1 : Int) + (o : Int) < 9223372036854775808 := by omega
        obtain ⟨rk, hrk⟩ : ∃ r, a.kind.tmod 3 = r := ⟨_, rfl⟩
        by_cases hk0 : rk = 0
        · have hk1 : (rk == 0) = true := by simpa using hk0
          go_wp2_with (first
            | (go_at_call 21; refine hal.mono ?_; rintro e w2 ⟨rfl, H2⟩; have H2 := hid (H2.pull 1 rfl); have d2 : w2.cell? _ = _ := (H2.out.obj 0 rfl).cell 2; simp only [ActD.cells, List.getElem?_cons_succ, List.getElem?_cons_zero] at d2; have hwr := tp_write hh (H2.out.pull 1 rfl) (pa : Int) (nk : Int) (by omega) xs)
            | (go_at_call 22; refine hwr.mono ?_; rintro e w3 ⟨rfl, H3⟩; have H3 := hid (H3.pull 1 rfl); clear hwr; have d0 : w3.cell? _ = _ := (H3.out.obj 0 rfl).cell 0; have d1 : w3.cell? _ = _ := (H3.out.obj 0 rfl).cell 1; simp only [ActD.cells, List.getElem?_cons_succ, List.getElem?_cons_zero] at d0 d1; have hop := tp_free hh (H3.out.pull 1 rfl) (1 + (o : Int)) (by omega))
            | (go_at_call 28; refine hop.mono ?_; rintro e w4 ⟨rfl, H4⟩; have H4 := hid (H4.pull 1 rfl)))
          go_roundw
          case rel =>
            refine ⟨k + 1, by omega, by go_num, ?_⟩
            have ea := hxl.out.symm
            have eo : othK a k = 1 + (o : Int) := by unfold othK; rw [W9.out, ho]
            have ek : 1 + wrp a.kd 200 = (nk : Int) := by rw [W200.out, hnk]
            have H5 := H4.out
            rw [show X.chgTo cnt a (k + 1) = Z.chg1 cnt a k by rw [TS.chgTo, hZ.out]]
            unfold TS.chg1 TS.alloc TS.free TS.write actS
            rw [hpe.out, ea, hrk, ek, eo]
            try simp only [ba_size] at H5
            simp only [if_true, if_pos hk0]
            exact H5
          case measure => first | (simp [intOf]; done) | (simp [intOf]; omega)
        · have hk1 : (rk == 0) = false := by simpa using hk0
          have hcat : xs.size + (⟨#[120]⟩ : ByteArray).size ≤ 9223372036854775807 := by have h1 := hxsz.out; have h2 : (⟨#[120]⟩ : ByteArray).size = 1 := rfl; omega
          go_wp2_with (first
            | (go_at_call 21; refine hal.mono ?_; rintro e w2 ⟨rfl, H2⟩; have H2 := hid (H2.pull 1 rfl); have d2 : w2.cell? _ = _ := (H2.out.obj 0 rfl).cell 2; simp only [ActD.cells, List.getElem?_cons_succ, List.getElem?_cons_zero] at d2; have hwr := tp_write hh (H2.out.pull 1 rfl) (pa : Int) (nk : Int) (by omega) xs)
            | (go_at_call 22; refine hwr.mono ?_; rintro e w3 ⟨rfl, H3⟩; have H3 := hid (H3.pull 1 rfl); clear hwr; have d0 : w3.cell? _ = _ := (H3.out.obj 0 rfl).cell 0; have d1 : w3.cell? _ = _ := (H3.out.obj 0 rfl).cell 1; simp only [ActD.cells, List.getElem?_cons_succ, List.getElem?_cons_zero] at d0 d1; have hop := tp_write hh (H3.out.pull 1 rfl) (1 + (o : Int)) 7 (by omega) (xs ++ ⟨#[120]⟩))
            | (go_at_call 22; refine hop.mono ?_; rintro e w4 ⟨rfl, H4⟩; have H4 := hid (H4.pull 1 rfl)))
          go_roundw
          case rel =>
            refine ⟨k + 1, by omega, by go_num, ?_⟩
            have ea := hxl.out.symm
            have eo : othK a k = 1 + (o : Int) := by unfold othK; rw [W9.out, ho]
            have ek : 1 + wrp a.kd 200 = (nk : Int) := by rw [W200.out, hnk]
            have H5 := H4.out
            rw [show X.chgTo cnt a (k + 1) = Z.chg1 cnt a k by rw [TS.chgTo, hZ.out]]
            unfold TS.chg1 TS.alloc TS.free TS.write actS
            rw [hpe.out, ea, hrk, ek, eo]
            simp only [ba_size, cat120] at H5
            simp only [if_true, if_neg hk0]
            exact H5
          case measure => first | (simp [intOf]; done) | (simp [intOf]; omega)
      · simp only [show ((7 : Int) = 0) = False by simp, if_false] at hal
        have g3 : (1 : Int) + (o : Int) < 9223372036854775808 := by omega
        obtain ⟨rk, hrk⟩ : ∃ r, a.kind.tmod 3 = r := ⟨_, rfl⟩
        by_cases hk0 : rk = 0
        · have hk1 : (rk == 0) = true := by simpa using hk0
          go_wp2_with (first
            | (go_at_call 21; refine hal.mono ?_; rintro e w3 ⟨rfl, H3⟩; have H3 := hid (H3.pull 1 rfl); have d0 : w3.cell? _ = _ := (H3.out.obj 0 rfl).cell 0; have d1 : w3.cell? _ = _ := (H3.out.obj 0 rfl).cell 1; simp only [ActD.cells, List.getElem?_cons_succ, List.getElem?_cons_zero] at d0 d1; have hop := tp_free hh (H3.out.pull 1 rfl) (1 + (o : Int)) (by omega))
            | (go_at_call 28; refine hop.mono ?_; rintro e w4 ⟨rfl, H4⟩; have H4 := hid (H4.pull 1 rfl)))
          go_roundw
          case rel =>
            refine ⟨k + 1, by omega, by go_num, ?_⟩
            have ea := hxl.out.symm
            have eo : othK a k = 1 + (o : Int) := by unfold othK; rw [W9.out, ho]
            have H5 := H4.out
            rw [show X.chgTo cnt a (k + 1) = Z.chg1 cnt a k by rw [TS.chgTo, hZ.out]]
            unfold TS.chg1 TS.alloc TS.free TS.write actS
            rw [hpe.out, ea, hrk, eo]
            try simp only [ba_size] at H5
            simp only [if_true, if_pos hk0, show ((7 : Int) = 0) = False by simp, if_false]
            exact H5
          case measure => first | (simp [intOf]; done) | (simp [intOf]; omega)
        · have hk1 : (rk == 0) = false := by simpa using hk0
          have hcat : xs.size + (⟨#[120]⟩ : ByteArray).size ≤ 9223372036854775807 := by have h1 := hxsz.out; have h2 : (⟨#[120]⟩ : ByteArray).size = 1 := rfl; omega
          go_wp2_with (first
            | (go_at_call 21; refine hal.mono ?_; rintro e w3 ⟨rfl, H3⟩; have H3 := hid (H3.pull 1 rfl); have d0 : w3.cell? _ = _ := (H3.out.obj 0 rfl).cell 0; have d1 : w3.cell? _ = _ := (H3.out.obj 0 rfl).cell 1; simp only [ActD.cells, List.getElem?_cons_succ, List.getElem?_cons_zero] at d0 d1; have hop := tp_write hh (H3.out.pull 1 rfl) (1 + (o : Int)) 7 (by omega) (xs ++ ⟨#[120]⟩))
            | (go_at_call 22; refine hop.mono ?_; rintro e w4 ⟨rfl, H4⟩; have H4 := hid (H4.pull 1 rfl)))
          go_roundw
          case rel =>
            refine ⟨k + 1, by omega, by go_num, ?_⟩
            have ea := hxl.out.symm
            have eo : othK a k = 1 + (o : Int) := by unfold othK; rw [W9.out, ho]
            have H5 := H4.out
            rw [show X.chgTo cnt a (k + 1) = Z.chg1 cnt a k by rw [TS.chgTo, hZ.out]]
            unfold TS.chg1 TS.alloc TS.free TS.write actS
            rw [hpe.out, ea, hrk, eo]
            simp only [ba_size, cat120] at H5
            simp only [if_true, if_neg hk0, show ((7 : Int) = 0) = False by simp, if_false]
            exact H5
          case measure => first | (simp [intOf]; done) | (simp [intOf]; omega)
    · have hl1 : ¬ (k : Int) < (n3 : Int) := by omega
      obtain rfl : k = n3 := by omega
      clear hlt
      obtain ⟨r4, hr4⟩ : ∃ r, a.pid.tmod 4 = r := ⟨_, rfl⟩
      have r4b := Int.lt_tmod_of_pos a.pid (show (0 : Int) < 4 by omega)
      have r4c := Int.tmod_lt_of_pos a.pid (show (0 : Int) < 4 by omega)
      rw [hr4] at r4b r4c
      have e4 : (r4 + 4).tmod 4 = (r4 + 4) % 4 := Int.tmod_eq_emod_of_nonneg (by omega)
      obtain ⟨n4, hn4⟩ : ∃ n : Nat, r4 % 4 = (n : Int) := ⟨(r4 % 4).toNat, by omega⟩
      obtain ⟨r100, hr100⟩ : ∃ r, a.kd.tmod 100 = r := ⟨_, rfl⟩
      have r100b := Int.lt_tmod_of_pos a.kd (show (0 : Int) < 100 by omega)
      have r100c := Int.tmod_lt_of_pos a.kd (show (0 : Int) < 100 by omega)
      rw [hr100] at r100b r100c
      have e100 : (r100 + 100).tmod 100 = (r100 + 100) % 100 := Int.tmod_eq_emod_of_nonneg (by omega)
      obtain ⟨n100, hn100⟩ : ∃ n : Nat, r100 % 100 = (n : Int) := ⟨(r100 % 100).toNat, by omega⟩
      have W4 := hid (show (wrp a.pid 4).toNat = n4 by unfold wrp; rw [hr4, e4]; omega)
      have W100 := hid (show (wrp a.kd 100).toNat = n100 by unfold wrp; rw [hr100, e100]; omega)
      have hsr := tp_setroot (HH.out.pull 1 rfl) n4 n100 (by omega) (by omega)
      clear hr3 r3b r3c e3 hr200 r200b r200c e200 hn200 hr9 r9b r9c e9 hn9 hn3 hM1 hM2 hM3
      go_wp2_with (go_at_call 30; refine hsr.mono ?_; rintro e w2 ⟨rfl, H2⟩)
      go_wp2
      go_end0
      refine ⟨rfl, ?_⟩
      rw [← hY.out]
      unfold TS.chg TS.root
      rw [W4.out, W100.out, W3.out, Int.toNat_natCast]
      exact (H2.pull 1 rfl).drop
end

end Go.Proofs.YtnffnpndnaofhaaGreatDoor

/- aquiferlaw10.build: transactions, each of one call's changes; conditions stand in the theorem. -/
namespace Go.Proofs.YtnffnpndnaofhaaGreatDoor
open Go.RowKit
set_option maxRecDepth 100000

theorem act_agg : IsAgg Tryz.prog 46 := ⟨_, Tryz.underlying46, rfl⟩
theorem act_size : (Tryz.prog.info? 46).map (·.size) = some 5 := by kernel_rfl

theorem commitE_no {log K : Nat} : commitE log false K = 0 ∨ commitE log false K = 7 := by
  unfold commitE
  simp only [Bool.false_eq_true, if_false]
  split
  · exact .inr rfl
  · exact .inl rfl

section
variable {w0 w : World} {ps : List HP} {x d N log cnt E : Nat} {S : PSt}

set_option maxHeartbeats 8000000 in
theorem law_build (hh : HalfAt w0) (H : St w0 w (dbP x d N log cnt E false S :: ps)) (v : Value) (acts : List ActD) (ha : ActsAt w0 v acts) (most : Nat) (hm : E + most < 1000000) :
    Calls Tryz.prog 13 #[.pointer (some ⟨x, 0, none⟩), v, .int .i64 (most : Int)] w fun e w' => e = .returned (.bool true) ∧ ∃ E' S', E' ≤ E + most ∧ St w0 w' (dbP x d N log cnt E' false S' :: ps) := by
  obtain ⟨am, capm, em, hm1, hm2, -⟩ := id ha.1
  rw [List.length_map] at em hm1
  subst em
  have hmax : acts.length ≤ 9223372036854775807 := by simp only [maxLen] at hm2; omega
  have HA := hid ha
  have H0 := hid H
  clear H ha hm1 hm2
  go_enter Tryz.func13, Tryz.ntmps13
  go_wp2_with fail
  go_loopw [7] (fun iv wr => ∃ (k E' : Nat) (S' : PSt), k ≤ most ∧ E' ≤ E + k ∧ iv = .int .i64 (k : Int) ∧ St w0 wr (dbP x d N log cnt E' false S' :: ps)) (fun iv _ => most - (intOf iv).toNat)
  case atStart => exact ⟨0, E, S, Nat.zero_le _, Nat.le_refl _, rfl, H0.out⟩
  case round =>
    obtain ⟨k, E', S', hk, hE, rfl, hM⟩ := hrel
    clear H0
    have HH := hid hM
    clear hM
    by_cases hlt : k < acts.length ∧ k < most
    · obtain ⟨hlt, hkm⟩ := hlt
      have hl1 : (k : Int) < (acts.length : Int) := by omega
      have hl2 : (k : Int) < (most : Int) := by omega
      obtain ⟨a, ha⟩ : ∃ a, acts[k]? = some a := ⟨_, List.getElem?_eq_getElem hlt⟩
      have hok : a.Ok w0 := HA.out.2 a (List.mem_of_getElem? ha)
      have has := hok.s
      obtain ⟨g, off, capb, eb, -, -, hcb, hbw⟩ := HA.out.get ha
      simp only [Value.slice.injEq] at eb
      obtain ⟨rfl, -, rfl⟩ := eb
      have hbg := db_begin HH.out
      clear hok ha
      go_upto_region 5 with (go_at_call 15; refine hbg.mono ?_; rintro e w2 ⟨t, rfl, H2⟩)
      have hch := law_change hh ⟨S', fun _ => false, false⟩ a has H2
      have c0 : w2.cell? ⟨g, off + k * 5 + 0, none⟩ = some (.int .i64 a.kind) := (St.pres H2).cell (hcb 0 _ rfl) (by simp)
      have c1 : w2.cell? ⟨g, off + k * 5 + 1, none⟩ = some (.int .i64 a.pid) := (St.pres H2).cell (hcb 1 _ rfl) (by simp)
      have c2 : w2.cell? ⟨g, off + k * 5 + 2, none⟩ = some (.int .i64 a.kd) := (St.pres H2).cell (hcb 2 _ rfl) (by simp)
      have c3 : w2.cell? ⟨g, off + k * 5 + 3, none⟩ = some (.string a.s) := (St.pres H2).cell (hcb 3 _ rfl) (by simp)
      have c4 : w2.cell? ⟨g, off + k * 5 + 4, none⟩ = some a.kv := (St.pres H2).cell (hcb 4 _ rfl) (by simp)
      rw [Nat.add_zero] at c0
      clear hbg HH H2 hcb has
      obtain ⟨Y, hY⟩ : ∃ Y, TS.chg ⟨S', fun _ => false, false⟩ cnt a = Y := ⟨_, rfl⟩
      rw [hY] at hch
      clear hY
      go_upto_region 8 with (go_at_call 16; refine hch.mono ?_; rintro e w3 ⟨rfl, H3⟩)
      have hcm := tp_commit hh H3 (by omega)
      obtain ⟨ce, hce⟩ : ∃ ce, Hid (commitE log false (changes Y.tk Y.mark cnt) = ce) := ⟨_, hid rfl⟩
      rw [hce.out] at hcm
      obtain ⟨S2, hS2⟩ : ∃ S2, (if ce = 0 then Y.T else S') = S2 := ⟨_, rfl⟩
      rw [hS2] at hcm
      have hcc : ce = 0 ∨ ce = 7 := by rw [← hce.out]; exact commitE_no
      clear hch H3 c0 c1 c2 c3 c4 hS2
      rcases hcc with rfl | rfl
      · go_wp2_with (go_at_call 20; refine hcm.mono ?_; rintro e w4 (⟨rfl, H4⟩ | ⟨h9, -⟩); rotate_left; (cases h9))
        go_roundw
        case rel => exact ⟨k + 1, E' + 1, S2, by omega, by omega, by go_num, (H4.pull 1 rfl).drop⟩
        case measure => first | (simp [intOf]; done) | (simp [intOf]; omega)
      · go_wp2_with (go_at_call 20; refine hcm.mono ?_; rintro e w4 (⟨rfl, H4⟩ | ⟨h9, -⟩); rotate_left; (cases h9))
        go_roundw
        case rel => exact ⟨k + 1, E' + 1, S2, by omega, by omega, by go_num, (H4.pull 1 rfl).drop⟩
        case measure => first | (simp [intOf]; done) | (simp [intOf]; omega)
    · have hend : ¬ (k : Int) < (acts.length : Int) ∨ ((k : Int) < (acts.length : Int) ∧ ¬ (k : Int) < (most : Int)) := by omega
      rcases hend with h1 | ⟨h1, h2⟩
      · go_wp2
        go_ret
        exact ⟨rfl, E', by omega, S', HH.out⟩
      · go_wp2
        go_ret
        exact ⟨rfl, E', by omega, S', HH.out⟩
end

end Go.Proofs.YtnffnpndnaofhaaGreatDoor

/- PagedbAborts: what an aborted transaction changed is not there; the heap's condition on the table of half bytes stands in the theorem. -/
namespace Go.Proofs.YtnffnpndnaofhaaGreatDoor
open Go.RowKit
set_option maxRecDepth 100000

theorem stale_no {w0 w : World} {ps : List HP} {x d t N log cnt E : Nat} {arm : Bool} {S : PSt} (H : St w0 w (dbP x d N log cnt E arm S :: staleP t x :: ps)) : NoTx w (.pointer (some ⟨t, 0, none⟩)) := by
  obtain ⟨D, -, H1⟩ := dbP_open H
  obtain ⟨q, H2⟩ := (H1.pull 3 rfl).ex
  have c0 := (H2.obj 0 rfl).cell 0
  have c1 := (H2.obj 1 rfl).cell 10
  simp only [txCells, dbCells, List.getElem?_cons_succ, List.getElem?_cons_zero] at c0 c1
  exact .inr ⟨t, rfl, .inr ⟨x, c0, c1⟩⟩

theorem dbP_small {w0 w : World} {ps : List HP} {x d N log cnt E : Nat} {arm : Bool} {S : PSt} (H : St w0 w (dbP x d N log cnt E arm S :: ps)) : S.pages.length ≤ cnt ∧ S.freed.length ≤ cnt ∧ cnt ≤ 8192 := by
  obtain ⟨D, h, -⟩ := dbP_open H
  have V := h.view.views
  have h1 : S.freed.length ≤ S.pages.length := nodup_len _ _ V.nodup (fun a ha => (V.mem ha).2)
  have h2 := V.most
  have h3 := h.rest.sh.few
  exact ⟨h2, by omega, h3⟩

theorem sh156 : Shape 156 60 12 := ⟨by omega, by omega, by omega, by omega, by omega⟩

set_option maxHeartbeats 8000000 in
theorem pdb_aborts_walk (w : World) (hh : HalfAt w) (va vb : Value) (la lb : List ActD) (ha : ActsAt w va la) (hb : ActsAt w vb lb) :
    Calls Tryz.prog 4 #[va, vb] w fun e w' => e = .returned (.bool true) ∧ Pres [] w w' := by
  obtain ⟨am, capm, em, hm1, hm2, -⟩ := id hb.1
  rw [List.length_map] at em hm1
  subst em
  have hmax : lb.length ≤ 9223372036854775807 := by simp only [maxLen] at hm2; omega
  have HA := hid ha
  have HB := hid hb
  clear ha hb hm1 hm2
  have hnew := sd_new (St.start w) 156 (by omega) (by omega)
  go_enter Tryz.func4, Tryz.ntmps4
  go_upto_region 2 with (go_at_call 9; refine hnew.mono ?_; rintro e w1 ⟨d, rfl, H1⟩)
  have H1 := coldP_new sh156 H1
  have hop := db_open hh H1 (by omega)
  rw [show ((60 : Nat) : Int) = 60 from rfl] at hop
  clear hnew H1
  go_upto_region 3 with (go_at_call 11; refine hop.mono ?_; rintro e w2 (⟨x, rfl, H2⟩ | ⟨h9, -⟩); rotate_left; · cases h9)
  have hbd := law_build hh H2 va la HA.out 10 (by omega)
  rw [show ((10 : Nat) : Int) = 10 from rfl] at hbd
  clear hop H2
  go_wp2_with (first
    | (go_at_call 13; refine hbd.mono ?_; rintro e w3 ⟨rfl, E', S', hE, H3⟩; have hst := law_state hh H3; clear hbd)
    | (go_at_call 14; refine hst.mono ?_; rintro e w4 ⟨pv, fv, rv, rfl, H4⟩; obtain ⟨pa, ca, pe, -, -⟩ := (statP_read H4).pages.shape; obtain ⟨fa, cf, fe, -, -⟩ := (statP_read H4).freed.shape; obtain ⟨ra, cr, re, -, -⟩ := (statP_read H4).roots.shape; subst pe fe re; have H4 := hid (H4.alloc [.slice none 0 0, .slice none 0 0, .slice none 0 0] 37); clear hst)
    | ((with_reducible refine at_store ?_); refine wpL_store rfl 37 (.tmp 9) (.tmp 39) rfl _ 0 3 rfl [_, _, _] rfl _ _ (H4.out.obj 0 rfl) state_size rfl (by simp) (by simp [Value.oneCell']) ?_; intro w5 A5 P5 S5; have H5 := hid (H4.out.put 0 rfl A5 P5); have hbg := db_begin (H5.out.pull 2 rfl))
    | (go_at_call 15; refine hbg.mono ?_; rintro e w6 ⟨t, rfl, H6⟩; clear hbg H3))
  generalize w4.heap.size = wb at *
  have HM : St w w6 (txP x d t 156 60 12 E' false S' S' (fun _ => false) false false :: [objP wb [.slice pa S'.pages.length ca, .slice fa S'.freed.length cf, .slice ra 4 cr] 37, statP (.slice pa S'.pages.length ca) (.slice fa S'.freed.length cf) (.slice ra 4 cr) S']) := H6
  have HM := hid HM
  clear H6 H5 H4 A5 P5 S5 H1
  go_loopw [13] (fun iv wr => ∃ (k : Nat) (X : TS), k ≤ 10 ∧ iv = .int .i64 (k : Int) ∧ St w wr (txP x d t 156 60 12 E' false S' X.T X.tk X.mark false :: [objP wb [.slice pa S'.pages.length ca, .slice fa S'.freed.length cf, .slice ra 4 cr] 37, statP (.slice pa S'.pages.length ca) (.slice fa S'.freed.length cf) (.slice ra 4 cr) S'])) (fun iv _ => 10 - (intOf iv).toNat)
  case atStart => exact ⟨0, ⟨S', fun _ => false, false⟩, Nat.zero_le _, rfl, HM.out⟩
  case round =>
    obtain ⟨k, X, hk, rfl, hM⟩ := hrel
    clear HM
    have HH := hid hM
    clear hM
    by_cases hlt : k < lb.length ∧ k < 10
    · obtain ⟨hlt, hkm⟩ := hlt
      have hl1 : (k : Int) < (lb.length : Int) := by omega
      have hl2 : (k : Int) < 10 := by omega
      obtain ⟨a, ha⟩ : ∃ a, lb[k]? = some a := ⟨_, List.getElem?_eq_getElem hlt⟩
      have has := (HB.out.2 a (List.mem_of_getElem? ha)).s
      obtain ⟨g, off, capb, eb, -, -, hcb, hbw⟩ := HB.out.get ha
      simp only [Value.slice.injEq] at eb
      obtain ⟨rfl, -, rfl⟩ := eb
      have hch := law_change hh X a has HH.out
      have c0 : wr.cell? ⟨g, off + k * 5 + 0, none⟩ = some (.int .i64 a.kind) := (St.pres HH.out).cell (hcb 0 _ rfl) (by simp)
      have c1 : wr.cell? ⟨g, off + k * 5 + 1, none⟩ = some (.int .i64 a.pid) := (St.pres HH.out).cell (hcb 1 _ rfl) (by simp)
      have c2 : wr.cell? ⟨g, off + k * 5 + 2, none⟩ = some (.int .i64 a.kd) := (St.pres HH.out).cell (hcb 2 _ rfl) (by simp)
      have c3 : wr.cell? ⟨g, off + k * 5 + 3, none⟩ = some (.string a.s) := (St.pres HH.out).cell (hcb 3 _ rfl) (by simp)
      have c4 : wr.cell? ⟨g, off + k * 5 + 4, none⟩ = some a.kv := (St.pres HH.out).cell (hcb 4 _ rfl) (by simp)
      rw [Nat.add_zero] at c0
      clear hcb has ha
      go_wp2_with (go_at_call 16; refine hch.mono ?_; rintro e w3 ⟨rfl, H3⟩)
      go_roundw
      case rel => exact ⟨k + 1, X.chg 12 a, by omega, by go_num, H3⟩
      case measure => first | (simp [intOf]; done) | (simp [intOf]; omega)
    · have hend : ¬ (k : Int) < (lb.length : Int) ∨ ((k : Int) < (lb.length : Int) ∧ ¬ (k : Int) < 10) := by omega
      have hab := tp_abort HH.out
      rcases hend with h1 | ⟨h1, h2⟩
      · go_wp2_with (first
          | (go_at_call 17; refine hab.mono ?_; rintro e w7 ⟨rfl, H7⟩; have hst := law_state hh H7)
          | (go_at_call 14; refine hst.mono ?_; rintro e w8 ⟨pw, fw, rw', rfl, H8⟩; obtain ⟨pb, cb, pe, -, -⟩ := (statP_read H8).pages.shape; obtain ⟨fb, cg, fe, -, -⟩ := (statP_read H8).freed.shape; obtain ⟨rb, cs, re, -, -⟩ := (statP_read H8).roots.shape; subst pe fe re; have hsm := hid (dbP_small (H8.pull 1 rfl)); have H8 := hid (H8.alloc [.slice none 0 0, .slice none 0 0, .slice none 0 0] 37); clear hst H7)
          | ((with_reducible refine at_store ?_); refine wpL_store rfl 37 (.tmp 14) (.tmp 73) rfl _ 0 3 rfl [_, _, _] rfl _ _ (H8.out.obj 0 rfl) state_size rfl (by simp) (by simp [Value.oneCell']) ?_; intro w9 A9 P9 S9; have H9 := hid (H8.out.put 0 rfl A9 P9); have hno := stale_no ((H9.out.pull 3 rfl).pull 3 rfl); have hrd := no_read hno 1)
          | (go_at_call 18; refine hrd.mono ?_; rintro e wa ⟨rfl, PA⟩; have hno := hid (hno.pres PA); have HX := hid (St.quiet H9.out PA); have hsame := same_call wa _ _ _ _ _ _ S' S' (statP_read (HX.out.pull 5 rfl)) (statP_read (HX.out.pull 1 rfl)) (by have := hsm.out; omega) (by have := hsm.out; omega)
             have c0 : wa.cell? _ = _ := (HX.out.obj 0 rfl).cell 0; have c1 : wa.cell? _ = _ := (HX.out.obj 0 rfl).cell 1; have c2 : wa.cell? _ = _ := (HX.out.obj 0 rfl).cell 2; have d0 : wa.cell? _ = _ := (HX.out.obj 4 rfl).cell 0; have d1 : wa.cell? _ = _ := (HX.out.obj 4 rfl).cell 1; have d2 : wa.cell? _ = _ := (HX.out.obj 4 rfl).cell 2
             simp only [splice, List.length_cons, List.length_nil, List.take_zero, List.nil_append, List.drop_succ_cons, List.drop_zero, List.append_nil, List.getElem?_cons_succ, List.getElem?_cons_zero, List.cons_append, Nat.zero_add, Nat.reduceAdd, List.drop_nil] at c0 c1 c2 d0 d1 d2; clear hrd)
          | (go_at_call 19; refine hsame.mono ?_; rintro e wb' ⟨bb, rfl, hbb, PB⟩; obtain rfl : bb = true := (by simpa using hbb); have hcm := no_commit (hno.out.pres PB); have HY := hid (St.quiet HX.out PB); have hwk := pdb_works wb' (hh.pres HY.out.pres); clear hsame c0 c1 c2 d0 d1 d2)
          | (go_at_call 20; refine hcm.mono ?_; rintro e wc ⟨rfl, rfl⟩)
          | (go_at_call 12; refine hwk.mono ?_; rintro e wd ⟨rfl, PD⟩))
        go_ret
        exact ⟨rfl, HY.out.pres.then PD⟩
      · go_wp2_with (first
          | (go_at_call 17; refine hab.mono ?_; rintro e w7 ⟨rfl, H7⟩; have hst := law_state hh H7)
          | (go_at_call 14; refine hst.mono ?_; rintro e w8 ⟨pw, fw, rw', rfl, H8⟩; obtain ⟨pb, cb, pe, -, -⟩ := (statP_read H8).pages.shape; obtain ⟨fb, cg, fe, -, -⟩ := (statP_read H8).freed.shape; obtain ⟨rb, cs, re, -, -⟩ := (statP_read H8).roots.shape; subst pe fe re; have hsm := hid (dbP_small (H8.pull 1 rfl)); have H8 := hid (H8.alloc [.slice none 0 0, .slice none 0 0, .slice none 0 0] 37); clear hst H7)
          | ((with_reducible refine at_store ?_); refine wpL_store rfl 37 (.tmp 14) (.tmp 73) rfl _ 0 3 rfl [_, _, _] rfl _ _ (H8.out.obj 0 rfl) state_size rfl (by simp) (by simp [Value.oneCell']) ?_; intro w9 A9 P9 S9; have H9 := hid (H8.out.put 0 rfl A9 P9); have hno := stale_no ((H9.out.pull 3 rfl).pull 3 rfl); have hrd := no_read hno 1)
          | (go_at_call 18; refine hrd.mono ?_; rintro e wa ⟨rfl, PA⟩; have hno := hid (hno.pres PA); have HX := hid (St.quiet H9.out PA); have hsame := same_call wa _ _ _ _ _ _ S' S' (statP_read (HX.out.pull 5 rfl)) (statP_read (HX.out.pull 1 rfl)) (by have := hsm.out; omega) (by have := hsm.out; omega)
             have c0 : wa.cell? _ = _ := (HX.out.obj 0 rfl).cell 0; have c1 : wa.cell? _ = _ := (HX.out.obj 0 rfl).cell 1; have c2 : wa.cell? _ = _ := (HX.out.obj 0 rfl).cell 2; have d0 : wa.cell? _ = _ := (HX.out.obj 4 rfl).cell 0; have d1 : wa.cell? _ = _ := (HX.out.obj 4 rfl).cell 1; have d2 : wa.cell? _ = _ := (HX.out.obj 4 rfl).cell 2
             simp only [splice, List.length_cons, List.length_nil, List.take_zero, List.nil_append, List.drop_succ_cons, List.drop_zero, List.append_nil, List.getElem?_cons_succ, List.getElem?_cons_zero, List.cons_append, Nat.zero_add, Nat.reduceAdd, List.drop_nil] at c0 c1 c2 d0 d1 d2; clear hrd)
          | (go_at_call 19; refine hsame.mono ?_; rintro e wb' ⟨bb, rfl, hbb, PB⟩; obtain rfl : bb = true := (by simpa using hbb); have hcm := no_commit (hno.out.pres PB); have HY := hid (St.quiet HX.out PB); have hwk := pdb_works wb' (hh.pres HY.out.pres); clear hsame c0 c1 c2 d0 d1 d2)
          | (go_at_call 20; refine hcm.mono ?_; rintro e wc ⟨rfl, rfl⟩)
          | (go_at_call 12; refine hwk.mono ?_; rintro e wd ⟨rfl, PD⟩))
        go_ret
        exact ⟨rfl, HY.out.pres.then PD⟩

end Go.Proofs.YtnffnpndnaofhaaGreatDoor

/- PagedbStays: a page stays as it is but for who writes it; what is allocated was not there; the heap's condition on the table of half bytes stands in the theorem. -/
namespace Go.Proofs.YtnffnpndnaofhaaGreatDoor
open Go.RowKit
set_option maxRecDepth 100000

def mineS : ByteArray := ⟨#[109, 105, 110, 101]⟩

theorem dbP_freeI {w0 w : World} {ps : List HP} {x d N log cnt E : Nat} {arm : Bool} {S : PSt} (H : St w0 w (dbP x d N log cnt E arm S :: ps)) : 1 ≤ S.pages.length ∧ ∀ k ∈ S.freed, S.pages[k]? = some none := by
  obtain ⟨D, h, -⟩ := dbP_open H
  have V := h.view.views
  exact ⟨V.pos, fun k hk => (V.free k).2 hk⟩

theorem alloc_no {S T : PSt} {cnt p : Nat} (h : S.alloc cnt = (p, 7, T)) : T = S ∧ p = 0 := by
  unfold PSt.alloc at h
  split at h
  · split at h
    · simp only [Prod.mk.injEq, true_and] at h
      exact ⟨h.2.symm, h.1.symm⟩
    · simp at h
  · simp at h

theorem alloc_ok {S T : PSt} {cnt p : Nat} (hf : ∀ k ∈ S.freed, S.pages[k]? = some none) (h : S.alloc cnt = (p, 0, T)) :
    (p < S.pages.length → S.pages[p]? = some none) ∧ ∀ i, i < S.pages.length → i ≠ p → T.pages[i]? = S.pages[i]? := by
  unfold PSt.alloc at h
  split at h
  · split at h
    · simp at h
    · simp only [Prod.mk.injEq, true_and] at h
      obtain ⟨rfl, rfl⟩ := h
      exact ⟨fun h => absurd h (Nat.lt_irrefl _), fun i hi _ => by simp only [PSt.grow]; rw [List.getElem?_append_left hi]⟩
  · rename_i hne
    simp only [Prod.mk.injEq, true_and] at h
    obtain ⟨rfl, rfl⟩ := h
    have hl : S.freed.getLastD 0 ∈ S.freed := by
      rw [List.getLastD_eq_getLast?, List.getLast?_eq_some_getLast hne]
      exact List.getLast_mem hne
    exact ⟨fun _ => hf _ hl, fun i _ hi => by simp only [PSt.take]; rw [List.getElem?_set_ne (fun h => hi h.symm)]⟩

/-- A page behind a write to another one. -/
theorem write_else {T : PSt} {o : Nat} {b : Prop} [Decidable b] {l : Leaf} {i : Nat} (hi : i ≠ o) : (if b then T.write o l else T).pages[i]? = T.pages[i]? := by
  split
  · simp only [PSt.write]; rw [List.getElem?_set_ne (fun h => hi h.symm)]
  · rfl

theorem pst_none {T : PSt} {i : Nat} (h1 : 1 ≤ i) (h : T.pages[i]? = some none) : T.there (i : Int) = 8 := by
  have hl := (List.getElem?_eq_some_iff.1 h).1
  unfold PSt.there
  rw [if_neg (by omega), Int.toNat_natCast, if_pos h]

theorem pst_some {T : PSt} {i : Nat} {l : Leaf} (h1 : 1 ≤ i) (h : T.pages[i]? = some (some l)) : T.there (i : Int) = 0 ∧ T.page (i : Int) = l := by
  have hl := (List.getElem?_eq_some_iff.1 h).1
  unfold PSt.there PSt.page
  rw [if_neg (by omega), Int.toNat_natCast, if_neg (by rw [h]; simp), h]
  exact ⟨rfl, rfl⟩

set_option maxHeartbeats 8000000 in
theorem pdb_stays_walk (w : World) (hh : HalfAt w) (va : Value) (la : List ActD) (a : ActD) (ha : ActsAt w va la) (hok : a.Ok w) :
    Calls Tryz.prog 5 #[va, .agg a.cells.toArray] w fun e w' => e = .returned (.bool true) ∧ Pres [] w w' := by
  have H0 := hid ((St.start w).alloc a.cells 46)
  simp only [ActD.cells] at H0
  unfold ActD.cells
  have HA := hid ha
  clear ha hok
  obtain ⟨r9, hr9⟩ : ∃ r, a.pid.tmod 9 = r := ⟨_, rfl⟩
  have r9b := Int.lt_tmod_of_pos a.pid (show (0 : Int) < 9 by omega)
  have r9c := Int.tmod_lt_of_pos a.pid (show (0 : Int) < 9 by omega)
  rw [hr9] at r9b r9c
  have e9 : (r9 + 9).tmod 9 = (r9 + 9) % 9 := Int.tmod_eq_emod_of_nonneg (by omega)
  obtain ⟨o, ho⟩ : ∃ n : Nat, 1 + r9 % 9 = (n : Int) := ⟨(1 + r9 % 9).toNat, by omega⟩
  have ho9 : o < 10 := by omega
  have ho1 : 1 ≤ o := by omega
  go_enter Tryz.func5, Tryz.ntmps5
  go_upto_region 1 with fail
  generalize w.heap.size = ab at *
  generalize (w.alloc _) = w0 at *
  have hnew := sd_new H0.out 156 (by omega) (by omega)
  go_upto_region 2 with (go_at_call 9; refine hnew.mono ?_; rintro e w1 ⟨d, rfl, H1⟩)
  have H1 := coldP_new sh156 H1
  have hop := db_open hh H1 (by omega)
  rw [show ((60 : Nat) : Int) = 60 from rfl] at hop
  clear hnew H1
  go_upto_region 3 with (go_at_call 11; refine hop.mono ?_; rintro e w2 (⟨x, rfl, H2⟩ | ⟨h9, -⟩); rotate_left; · cases h9)
  have hbd := law_build hh H2 va la HA.out 10 (by omega)
  rw [show ((10 : Nat) : Int) = 10 from rfl] at hbd
  clear hop H2
  go_upto_region 8 with (first
    | (go_at_call 13; refine hbd.mono ?_; rintro e w3 ⟨rfl, E', S', hE, H3⟩; have hst := law_state hh H3; clear hbd)
    | (go_at_call 14; refine hst.mono ?_; rintro e w4 ⟨pv, fv, rv, rfl, H4⟩; obtain ⟨pa, ca, pe, -, -⟩ := (statP_read H4).pages.shape; obtain ⟨fa, cf, fe, -, -⟩ := (statP_read H4).freed.shape; obtain ⟨ra, cr, re, -, -⟩ := (statP_read H4).roots.shape; subst pe fe re; have hsm := hid (dbP_small (H4.pull 1 rfl)); have H4 := hid (H4.alloc [.slice none 0 0, .slice none 0 0, .slice none 0 0] 37); clear hst)
    | ((with_reducible refine at_store ?_); refine wpL_store rfl 37 (.tmp 9) (.tmp 40) rfl _ 0 3 rfl [_, _, _] rfl _ _ (H4.out.obj 0 rfl) state_size rfl (by simp) (by simp [Value.oneCell']) ?_; intro w5 A5 P5 S5; have H5 := hid (H4.out.put 0 rfl A5 P5); have hbg := db_begin (H5.out.pull 2 rfl))
    | (go_at_call 15; refine hbg.mono ?_; rintro e w6 ⟨t, rfl, H6⟩; clear hbg H3; have hal := tp_alloc hh H6))
  have hfr := hid (dbP_freeI (H4.out.pull 2 rfl))
  generalize w4.heap.size = wb at *
  have HM : St w w6 [txP x d t 156 60 12 E' false S' S' (fun _ => false) false false, objP wb [.slice pa S'.pages.length ca, .slice fa S'.freed.length cf, .slice ra 4 cr] 37, statP (.slice pa S'.pages.length ca) (.slice fa S'.freed.length cf) (.slice ra 4 cr) S', objP ab [.int .i64 a.kind, .int .i64 a.pid, .int .i64 a.kd, .string a.s, a.kv] 46] := H6
  have HM := hid HM
  clear H6 H5 H4 A5 P5 S5 H1 H0
  obtain ⟨p, ea, T, hpe⟩ : ∃ p e T, Hid (S'.alloc 12 = (p, e, T)) := ⟨(S'.alloc 12).1, (S'.alloc 12).2.1, (S'.alloc 12).2.2, hid rfl⟩
  have hp9 := txP_pa HM.out
  have hA : ea = 0 ∨ ea = 7 := by
    have := hpe.out
    unfold PSt.alloc at this
    split at this
    · split at this
      · simp only [Prod.mk.injEq] at this; exact .inr this.2.1.symm
      · simp only [Prod.mk.injEq] at this; exact .inl this.2.1.symm
    · simp only [Prod.mk.injEq] at this; exact .inl this.2.1.symm
  rw [hpe.out] at hal hp9
  try dsimp only at hal
  try dsimp only at hp9
  obtain ⟨tk1, htk1⟩ : ∃ f, (if ea = 0 then tchK (fun _ => false) p else fun _ => false) = f := ⟨_, rfl⟩
  obtain ⟨mk1, hmk1⟩ : ∃ f, (if ea = 0 then true else false) = f := ⟨_, rfl⟩
  rw [htk1, hmk1] at hal
  clear htk1 hmk1
  have hTp : ∀ i, i < S'.pages.length → i ≠ p → 1 ≤ i → T.pages[i]? = S'.pages[i]? := by
    rcases hA with rfl | rfl
    · exact fun i h1 h2 _ => (alloc_ok hfr.out.2 hpe.out).2 i h1 h2
    · exact fun i h1 h2 _ => by rw [(alloc_no hpe.out).1]
  have HTP := hid hTp
  have hn1 := hfr.out.1
  have hn12 := hsm.out.1
  obtain ⟨n, hn⟩ : ∃ n, S'.pages.length = n := ⟨_, rfl⟩
  have HN := hid hn
  rw [hn] at HM hn1 hn12 HTP
  clear hTp hn
  refine hal.mono ?_
  rintro e w7 ⟨rfl, H7⟩
  obtain ⟨T7, hT7⟩ : ∃ X : TS, Hid (X = ⟨T, tk1, mk1⟩) := ⟨_, hid rfl⟩
  have H7 : St w w7 (txP x d t 156 60 12 E' false S' T tk1 mk1 false :: [objP wb [.slice pa S'.pages.length ca, .slice fa S'.freed.length cf, .slice ra 4 cr] 37, statP (.slice pa S'.pages.length ca) (.slice fa S'.freed.length cf) (.slice ra 4 cr) S', objP ab [.int .i64 a.kind, .int .i64 a.pid, .int .i64 a.kd, .string a.s, a.kv] 46]) := H7
  rw [HN.out] at H7 ⊢
  have H7 := hid H7
  have a0 : w7.cell? ⟨wb, 0, none⟩ = some (.slice pa n ca) := (H7.out.obj 1 rfl).cell 0
  have hrdp := (statP_read (H7.out.pull 2 rfl)).pages
  rw [HN.out] at hrdp
  clear hal HM
  obtain ⟨ga, cga, cura, hea, -⟩ := hrdp.get (by omega)
  simp only [Value.slice.injEq] at hea
  obtain ⟨rfl, -, rfl⟩ := hea
  have d1 : w7.cell? ⟨ab, 1, none⟩ = some (.int .i64 a.pid) := (H7.out.obj 3 rfl).cell 1
  have hwr := tp_write hh H7.out (o : Int) 9 (by omega) mineS
  obtain ⟨T2, hT2⟩ : ∃ T2, (if T.writeE (o : Int) 9 mineS.size = 0 then T.write (Int.toNat (o : Int)) (Int.toNat 9, mineS.data.toList) else T) = T2 := ⟨_, rfl⟩
  obtain ⟨tk2, htk2⟩ : ∃ T2, (if T.writeE (o : Int) 9 mineS.size = 0 then tchK tk1 (Int.toNat (o : Int)) else tk1) = T2 := ⟨_, rfl⟩
  rw [hT2, htk2] at hwr
  have HT2 := hid (show ∀ i, i < n → i ≠ p → i ≠ o → 1 ≤ i → T2.pages[i]? = S'.pages[i]? from fun i h1 h2 h3 h4 => by rw [← hT2, write_else (by omega), HTP i h1 h2 h4])
  clear hT2 htk2 T7 hT7
  have HR := hid hrdp
  unfold mineS at hwr
  by_cases hq : ea = 0 ∧ p < n
  · obtain ⟨rfl, hlt⟩ := hq
    have hl1 : (p : Int) < (n : Int) := by omega
    have hc := pages_cell hrdp ((alloc_ok hfr.out.2 hpe.out).1 (by rw [HN.out]; exact hlt)) 2 _ rfl
    clear hrdp
    go_simp
    go_wp2_with (go_at_call 22; refine hwr.mono ?_; rintro e w8 ⟨rfl, H8⟩; have H8 := hid H8; clear hwr)
    go_loopw [16] (fun iv wr => ∃ i : Nat, 1 ≤ i ∧ i ≤ n ∧ iv = .int .i64 (i : Int) ∧ St w wr (txP x d t 156 60 12 E' false S' T2 tk2 mk1 false :: [objP wb [.slice (some ⟨ga, 0, none⟩) n ca, .slice fa S'.freed.length cf, .slice ra 4 cr] 37, statP (.slice (some ⟨ga, 0, none⟩) n ca) (.slice fa S'.freed.length cf) (.slice ra 4 cr) S', objP ab [.int .i64 a.kind, .int .i64 a.pid, .int .i64 a.kd, .string a.s, a.kv] 46])) (fun iv _ => n - (intOf iv).toNat)
    case atStart => exact ⟨1, Nat.le_refl _, hn1, rfl, H8.out⟩
    case round =>
      obtain ⟨i, hi1, hi, rfl, hS⟩ := hrel
      clear H8 H7 a0 d1
      have HH := hid hS
      clear hS
      have a0 : wr.cell? ⟨wb, 0, none⟩ = some (.slice (some ⟨ga, 0, none⟩) n ca) := (HH.out.obj 1 rfl).cell 0
      by_cases hlt : i < n
      · have hl1 : (i : Int) < (n : Int) := by omega
        have hrd := tp_read hh HH.out (i : Int) (by omega)
        by_cases hip : i = p
        · have e1 : ((i : Int) == (p : Int)) = true := by subst hip; simp
          generalize T2.there (i : Int) = th at hrd
          generalize (if th = 0 then ((T2.page (i : Int)).1 : Int) else 0) = kk at hrd
          generalize (if th = 0 then (T2.page (i : Int)).2 else []) = bb at hrd
          clear hip
          go_wp2_with (go_at_call 18; refine hrd.mono ?_; rintro e w9 ⟨rfl, H9⟩; have H9 := hid H9; clear hrd HH a0)
          go_roundw
          case rel => exact ⟨i + 1, by omega, by omega, by go_num, H9.out⟩
          case measure => first | (simp [intOf]; done) | (simp [intOf]; omega)
        · have e1 : ((i : Int) == (p : Int)) = false := by simp; omega
          by_cases hio : i = o
          · have e2 : ((i : Int) == (o : Int)) = true := by subst hio; simp
            generalize T2.there (i : Int) = th at hrd
            generalize (if th = 0 then ((T2.page (i : Int)).1 : Int) else 0) = kk at hrd
            generalize (if th = 0 then (T2.page (i : Int)).2 else []) = bb at hrd
            clear hip hio
            go_wp2_with (go_at_call 18; refine hrd.mono ?_; rintro e w9 ⟨rfl, H9⟩; have H9 := hid H9; clear hrd HH a0)
            go_roundw
            case rel => exact ⟨i + 1, by omega, by omega, by go_num, H9.out⟩
            case measure => first | (simp [intOf]; done) | (simp [intOf]; omega)
          · have e2 : ((i : Int) == (o : Int)) = false := by simp; omega
            obtain ⟨oi, hSi⟩ : ∃ oi, S'.pages[i]? = some oi := ⟨_, List.getElem?_eq_getElem (by have := HN.out; omega)⟩
            have hTi : T2.pages[i]? = some oi := by rw [HT2.out i hlt hip hio hi1, hSi]
            cases oi with
            | none =>
              rw [pst_none hi1 hTi] at hrd
              simp only [show ((8 : Int) = 0) = False by simp, if_false] at hrd
              clear hip hio hTi
              go_wp2_with (go_at_call 18; refine hrd.mono ?_; rintro e w9 ⟨rfl, H9⟩; have H9 := hid H9; clear hrd HH a0; have a0 : w9.cell? ⟨wb, 0, none⟩ = some (.slice (some ⟨ga, 0, none⟩) n ca) := (H9.out.obj 1 rfl).cell 0; have hpg := (statP_read (H9.out.pull 2 rfl)).pages; rw [HN.out] at hpg; have hcs := pages_cell hpg hSi; have c0 : w9.cell? _ = _ := hcs 0 _ rfl; have c1 : w9.cell? _ = _ := hcs 1 _ rfl; have c2 : w9.cell? _ = _ := hcs 2 _ rfl; rw [Nat.add_zero] at c0; clear hcs hpg)
              go_roundw
              case rel => exact ⟨i + 1, by omega, by omega, by go_num, H9.out⟩
              case measure => first | (simp [intOf]; done) | (simp [intOf]; omega)
            | some l =>
              obtain ⟨q1, q2⟩ := pst_some hi1 hTi
              rw [q1, q2] at hrd
              simp only [if_true] at hrd
              obtain ⟨z, hz⟩ : ∃ z, strV l.2 = .string z := ⟨_, rfl⟩
              rw [hz] at hrd
              have hzz : (z == z) = true := (ba_beq z z).2 rfl
              clear hip hio hTi q1 q2
              go_wp2_with (go_at_call 18; refine hrd.mono ?_; rintro e w9 ⟨rfl, H9⟩; have H9 := hid H9; clear hrd HH a0; have a0 : w9.cell? ⟨wb, 0, none⟩ = some (.slice (some ⟨ga, 0, none⟩) n ca) := (H9.out.obj 1 rfl).cell 0; have hpg := (statP_read (H9.out.pull 2 rfl)).pages; rw [HN.out] at hpg; have hcs := pages_cell hpg hSi; have c0 : w9.cell? _ = _ := hcs 0 _ rfl; have c1 : w9.cell? _ = _ := hcs 1 _ rfl; have c2 : w9.cell? _ = _ := hcs 2 _ rfl; rw [Nat.add_zero] at c0; clear hcs hpg; rw [hz] at c1)
              go_roundw
              case rel => exact ⟨i + 1, by omega, by omega, by go_num, H9.out⟩
              case measure => first | (simp [intOf]; done) | (simp [intOf]; omega)
      · have hl1 : ¬ (i : Int) < (n : Int) := by omega
        have hwk := pdb_works wr (hh.pres HH.out.pres)
        have HP := hid HH.out.pres
        go_wp2_with (go_at_call 12; refine hwk.mono ?_; rintro e wd ⟨rfl, PD⟩)
        go_ret
        exact ⟨rfl, HP.out.then PD⟩
  · by_cases hq1 : ea = 0
    · subst hq1
      have hl1 : ¬ (p : Int) < (n : Int) := by omega
      clear hrdp hq
      go_simp
      go_wp2_with (go_at_call 22; refine hwr.mono ?_; rintro e w8 ⟨rfl, H8⟩; have H8 := hid H8; clear hwr)
      go_loopw [16] (fun iv wr => ∃ i : Nat, 1 ≤ i ∧ i ≤ n ∧ iv = .int .i64 (i : Int) ∧ St w wr (txP x d t 156 60 12 E' false S' T2 tk2 mk1 false :: [objP wb [.slice (some ⟨ga, 0, none⟩) n ca, .slice fa S'.freed.length cf, .slice ra 4 cr] 37, statP (.slice (some ⟨ga, 0, none⟩) n ca) (.slice fa S'.freed.length cf) (.slice ra 4 cr) S', objP ab [.int .i64 a.kind, .int .i64 a.pid, .int .i64 a.kd, .string a.s, a.kv] 46])) (fun iv _ => n - (intOf iv).toNat)
      case atStart => exact ⟨1, Nat.le_refl _, hn1, rfl, H8.out⟩
      case round =>
        obtain ⟨i, hi1, hi, rfl, hS⟩ := hrel
        clear H8 H7 a0 d1
        have HH := hid hS
        clear hS
        have a0 : wr.cell? ⟨wb, 0, none⟩ = some (.slice (some ⟨ga, 0, none⟩) n ca) := (HH.out.obj 1 rfl).cell 0
        by_cases hlt : i < n
        · have hl1 : (i : Int) < (n : Int) := by omega
          have hrd := tp_read hh HH.out (i : Int) (by omega)
          by_cases hip : i = p
          · have e1 : ((i : Int) == (p : Int)) = true := by subst hip; simp
            generalize T2.there (i : Int) = th at hrd
            generalize (if th = 0 then ((T2.page (i : Int)).1 : Int) else 0) = kk at hrd
            generalize (if th = 0 then (T2.page (i : Int)).2 else []) = bb at hrd
            clear hip
            go_wp2_with (go_at_call 18; refine hrd.mono ?_; rintro e w9 ⟨rfl, H9⟩; have H9 := hid H9; clear hrd HH a0)
            go_roundw
            case rel => exact ⟨i + 1, by omega, by omega, by go_num, H9.out⟩
            case measure => first | (simp [intOf]; done) | (simp [intOf]; omega)
          · have e1 : ((i : Int) == (p : Int)) = false := by simp; omega
            by_cases hio : i = o
            · have e2 : ((i : Int) == (o : Int)) = true := by subst hio; simp
              generalize T2.there (i : Int) = th at hrd
              generalize (if th = 0 then ((T2.page (i : Int)).1 : Int) else 0) = kk at hrd
              generalize (if th = 0 then (T2.page (i : Int)).2 else []) = bb at hrd
              clear hip hio
              go_wp2_with (go_at_call 18; refine hrd.mono ?_; rintro e w9 ⟨rfl, H9⟩; have H9 := hid H9; clear hrd HH a0)
              go_roundw
              case rel => exact ⟨i + 1, by omega, by omega, by go_num, H9.out⟩
              case measure => first | (simp [intOf]; done) | (simp [intOf]; omega)
            · have e2 : ((i : Int) == (o : Int)) = false := by simp; omega
              obtain ⟨oi, hSi⟩ : ∃ oi, S'.pages[i]? = some oi := ⟨_, List.getElem?_eq_getElem (by have := HN.out; omega)⟩
              have hTi : T2.pages[i]? = some oi := by rw [HT2.out i hlt hip hio hi1, hSi]
              cases oi with
              | none =>
                rw [pst_none hi1 hTi] at hrd
                simp only [show ((8 : Int) = 0) = False by simp, if_false] at hrd
                clear hip hio hTi
                go_wp2_with (go_at_call 18; refine hrd.mono ?_; rintro e w9 ⟨rfl, H9⟩; have H9 := hid H9; clear hrd HH a0; have a0 : w9.cell? ⟨wb, 0, none⟩ = some (.slice (some ⟨ga, 0, none⟩) n ca) := (H9.out.obj 1 rfl).cell 0; have hpg := (statP_read (H9.out.pull 2 rfl)).pages; rw [HN.out] at hpg; have hcs := pages_cell hpg hSi; have c0 : w9.cell? _ = _ := hcs 0 _ rfl; have c1 : w9.cell? _ = _ := hcs 1 _ rfl; have c2 : w9.cell? _ = _ := hcs 2 _ rfl; rw [Nat.add_zero] at c0; clear hcs hpg)
                go_roundw
                case rel => exact ⟨i + 1, by omega, by omega, by go_num, H9.out⟩
                case measure => first | (simp [intOf]; done) | (simp [intOf]; omega)
              | some l =>
                obtain ⟨q1, q2⟩ := pst_some hi1 hTi
                rw [q1, q2] at hrd
                simp only [if_true] at hrd
                obtain ⟨z, hz⟩ : ∃ z, strV l.2 = .string z := ⟨_, rfl⟩
                rw [hz] at hrd
                have hzz : (z == z) = true := (ba_beq z z).2 rfl
                clear hip hio hTi q1 q2
                go_wp2_with (go_at_call 18; refine hrd.mono ?_; rintro e w9 ⟨rfl, H9⟩; have H9 := hid H9; clear hrd HH a0; have a0 : w9.cell? ⟨wb, 0, none⟩ = some (.slice (some ⟨ga, 0, none⟩) n ca) := (H9.out.obj 1 rfl).cell 0; have hpg := (statP_read (H9.out.pull 2 rfl)).pages; rw [HN.out] at hpg; have hcs := pages_cell hpg hSi; have c0 : w9.cell? _ = _ := hcs 0 _ rfl; have c1 : w9.cell? _ = _ := hcs 1 _ rfl; have c2 : w9.cell? _ = _ := hcs 2 _ rfl; rw [Nat.add_zero] at c0; clear hcs hpg; rw [hz] at c1)
                go_roundw
                case rel => exact ⟨i + 1, by omega, by omega, by go_num, H9.out⟩
                case measure => first | (simp [intOf]; done) | (simp [intOf]; omega)
        · have hl1 : ¬ (i : Int) < (n : Int) := by omega
          have hwk := pdb_works wr (hh.pres HH.out.pres)
          have HP := hid HH.out.pres
          go_wp2_with (go_at_call 12; refine hwk.mono ?_; rintro e wd ⟨rfl, PD⟩)
          go_ret
          exact ⟨rfl, HP.out.then PD⟩
    · obtain rfl : ea = 7 := by omega
      clear hrdp hq hq1
      go_simp
      go_wp2_with (go_at_call 22; refine hwr.mono ?_; rintro e w8 ⟨rfl, H8⟩; have H8 := hid H8; clear hwr)
      go_loopw [16] (fun iv wr => ∃ i : Nat, 1 ≤ i ∧ i ≤ n ∧ iv = .int .i64 (i : Int) ∧ St w wr (txP x d t 156 60 12 E' false S' T2 tk2 mk1 false :: [objP wb [.slice (some ⟨ga, 0, none⟩) n ca, .slice fa S'.freed.length cf, .slice ra 4 cr] 37, statP (.slice (some ⟨ga, 0, none⟩) n ca) (.slice fa S'.freed.length cf) (.slice ra 4 cr) S', objP ab [.int .i64 a.kind, .int .i64 a.pid, .int .i64 a.kd, .string a.s, a.kv] 46])) (fun iv _ => n - (intOf iv).toNat)
      case atStart => exact ⟨1, Nat.le_refl _, hn1, rfl, H8.out⟩
      case round =>
        obtain ⟨i, hi1, hi, rfl, hS⟩ := hrel
        clear H8 H7 a0 d1
        have HH := hid hS
        clear hS
        have a0 : wr.cell? ⟨wb, 0, none⟩ = some (.slice (some ⟨ga, 0, none⟩) n ca) := (HH.out.obj 1 rfl).cell 0
        by_cases hlt : i < n
        · have hl1 : (i : Int) < (n : Int) := by omega
          have hrd := tp_read hh HH.out (i : Int) (by omega)
          by_cases hip : i = p
          · have e1 : ((i : Int) == (p : Int)) = true := by subst hip; simp
            generalize T2.there (i : Int) = th at hrd
            generalize (if th = 0 then ((T2.page (i : Int)).1 : Int) else 0) = kk at hrd
            generalize (if th = 0 then (T2.page (i : Int)).2 else []) = bb at hrd
            clear hip
            go_wp2_with (go_at_call 18; refine hrd.mono ?_; rintro e w9 ⟨rfl, H9⟩; have H9 := hid H9; clear hrd HH a0)
            go_roundw
            case rel => exact ⟨i + 1, by omega, by omega, by go_num, H9.out⟩
            case measure => first | (simp [intOf]; done) | (simp [intOf]; omega)
          · have e1 : ((i : Int) == (p : Int)) = false := by simp; omega
            by_cases hio : i = o
            · have e2 : ((i : Int) == (o : Int)) = true := by subst hio; simp
              generalize T2.there (i : Int) = th at hrd
              generalize (if th = 0 then ((T2.page (i : Int)).1 : Int) else 0) = kk at hrd
              generalize (if th = 0 then (T2.page (i : Int)).2 else []) = bb at hrd
              clear hip hio
              go_wp2_with (go_at_call 18; refine hrd.mono ?_; rintro e w9 ⟨rfl, H9⟩; have H9 := hid H9; clear hrd HH a0)
              go_roundw
              case rel => exact ⟨i + 1, by omega, by omega, by go_num, H9.out⟩
              case measure => first | (simp [intOf]; done) | (simp [intOf]; omega)
            · have e2 : ((i : Int) == (o : Int)) = false := by simp; omega
              obtain ⟨oi, hSi⟩ : ∃ oi, S'.pages[i]? = some oi := ⟨_, List.getElem?_eq_getElem (by have := HN.out; omega)⟩
              have hTi : T2.pages[i]? = some oi := by rw [HT2.out i hlt hip hio hi1, hSi]
              cases oi with
              | none =>
                rw [pst_none hi1 hTi] at hrd
                simp only [show ((8 : Int) = 0) = False by simp, if_false] at hrd
                clear hip hio hTi
                go_wp2_with (go_at_call 18; refine hrd.mono ?_; rintro e w9 ⟨rfl, H9⟩; have H9 := hid H9; clear hrd HH a0; have a0 : w9.cell? ⟨wb, 0, none⟩ = some (.slice (some ⟨ga, 0, none⟩) n ca) := (H9.out.obj 1 rfl).cell 0; have hpg := (statP_read (H9.out.pull 2 rfl)).pages; rw [HN.out] at hpg; have hcs := pages_cell hpg hSi; have c0 : w9.cell? _ = _ := hcs 0 _ rfl; have c1 : w9.cell? _ = _ := hcs 1 _ rfl; have c2 : w9.cell? _ = _ := hcs 2 _ rfl; rw [Nat.add_zero] at c0; clear hcs hpg)
                go_roundw
                case rel => exact ⟨i + 1, by omega, by omega, by go_num, H9.out⟩
                case measure => first | (simp [intOf]; done) | (simp [intOf]; omega)
              | some l =>
                obtain ⟨q1, q2⟩ := pst_some hi1 hTi
                rw [q1, q2] at hrd
                simp only [if_true] at hrd
                obtain ⟨z, hz⟩ : ∃ z, strV l.2 = .string z := ⟨_, rfl⟩
                rw [hz] at hrd
                have hzz : (z == z) = true := (ba_beq z z).2 rfl
                clear hip hio hTi q1 q2
                go_wp2_with (go_at_call 18; refine hrd.mono ?_; rintro e w9 ⟨rfl, H9⟩; have H9 := hid H9; clear hrd HH a0; have a0 : w9.cell? ⟨wb, 0, none⟩ = some (.slice (some ⟨ga, 0, none⟩) n ca) := (H9.out.obj 1 rfl).cell 0; have hpg := (statP_read (H9.out.pull 2 rfl)).pages; rw [HN.out] at hpg; have hcs := pages_cell hpg hSi; have c0 : w9.cell? _ = _ := hcs 0 _ rfl; have c1 : w9.cell? _ = _ := hcs 1 _ rfl; have c2 : w9.cell? _ = _ := hcs 2 _ rfl; rw [Nat.add_zero] at c0; clear hcs hpg; rw [hz] at c1)
                go_roundw
                case rel => exact ⟨i + 1, by omega, by omega, by go_num, H9.out⟩
                case measure => first | (simp [intOf]; done) | (simp [intOf]; omega)
        · have hl1 : ¬ (i : Int) < (n : Int) := by omega
          have hwk := pdb_works wr (hh.pres HH.out.pres)
          have HP := hid HH.out.pres
          go_wp2_with (go_at_call 12; refine hwk.mono ?_; rintro e wd ⟨rfl, PD⟩)
          go_ret
          exact ⟨rfl, HP.out.then PD⟩

end Go.Proofs.YtnffnpndnaofhaaGreatDoor
