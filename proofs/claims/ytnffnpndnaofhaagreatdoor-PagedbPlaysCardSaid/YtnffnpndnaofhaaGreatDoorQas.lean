/- Parts of the proof: A database of pages (layer 10): redo lays the pages of a record, one after the other; conditions stand in the theorem. -/
import Derived.Test.YtnffnpndnaofhaaGreatDoorQap
import Derived.Test.YtnffnpndnaofhaaGreatDoorQar

/- A database of pages (layer 10): redo lays the pages of a record, one after the other; conditions stand in the theorem. -/
namespace Go.Proofs.YtnffnpndnaofhaaGreatDoor
open Go.RowKit
set_option maxRecDepth 100000

def recE (e : Nat × List UInt8) : List UInt8 := numLE e.1 4 ++ e.2

/-- A record of the log: how many pages; of each its number and its bytes. -/
def recB (es : List (Nat × List UInt8)) : List UInt8 := numLE es.length 4 ++ es.flatMap recE

def redoB (log : Nat) : List (Nat × List UInt8) → Dk → Int × Dk
  | [], σ => (0, σ)
  | e :: es, σ => if (layN (log + 8 * e.1 - 1) e.2 9 0 σ).1 = 0 then redoB log es (layN (log + 8 * e.1 - 1) e.2 9 0 σ).2 else layN (log + 8 * e.1 - 1) e.2 9 0 σ

def Ents (log : Nat) (es : List (Nat × List UInt8)) : Prop := ∀ e ∈ es, e.2.length = 512 ∧ log + 8 * e.1 ≤ 65536

theorem length_flat {log : Nat} : ∀ {es : List (Nat × List UInt8)}, Ents log es → (es.flatMap recE).length = 516 * es.length
  | [], _ => rfl
  | e :: es, h => by
    have h1 := (h e (by simp)).1
    have h2 := length_flat (log := log) (es := es) (fun x hx => h x (by simp [hx]))
    rw [List.flatMap_cons, List.length_append, h2, recE, List.length_append, length_numLE, h1, List.length_cons]
    omega

theorem drop_flat {log : Nat} : ∀ {es : List (Nat × List UInt8)} (i : Nat), Ents log es → i ≤ es.length → (es.flatMap recE).drop (516 * i) = (es.drop i).flatMap recE
  | es, 0, _, _ => by simp
  | [], i + 1, _, h => by simp at h
  | e :: es, i + 1, h, hi => by
    have h1 : (recE e).length = 516 := by rw [recE, List.length_append, length_numLE, (h e (by simp)).1]
    rw [List.flatMap_cons, List.drop_succ_cons, show 516 * (i + 1) = 516 + 516 * i by omega, ← List.drop_drop, List.drop_left' h1]
    exact drop_flat i (fun x hx => h x (by simp [hx])) (by simpa using hi)

theorem rec_at {log : Nat} {es : List (Nat × List UInt8)} {i : Nat} {e : Nat × List UInt8} (h : Ents log es) (he : es[i]? = some e) :
    ((recB es).drop (4 + 516 * i)).take 4 = numLE e.1 4 ∧ ((recB es).drop (4 + 516 * i + 4)).take 512 = e.2 := by
  have hi : i < es.length := (List.getElem?_eq_some_iff.1 he).1
  have hd : (recB es).drop (4 + 516 * i) = recE e ++ (es.drop (i + 1)).flatMap recE := by
    rw [recB, ← List.drop_drop, List.drop_left' (length_numLE _ _), drop_flat i h (by omega), List.drop_eq_getElem_cons hi, List.flatMap_cons]
    rw [List.getElem?_eq_getElem hi] at he
    rw [Option.some.inj he]
  refine ⟨?_, ?_⟩
  · rw [hd, recE, List.append_assoc, List.take_left' (length_numLE _ _)]
  · rw [← List.drop_drop, hd, recE, List.append_assoc, List.drop_left' (length_numLE _ _), List.take_left' (h e (List.mem_of_getElem? he)).1]

/-- The state at the head of a round. -/
structure RedoAt (w0 wr : World) (ps : List HP) (x d l log : Nat) (m : Meta) (opn : Value) (lost : Bool) (es : List (Nat × List UInt8)) (R : Int × Dk) (k M : Nat) : Prop where
  st : ∃ τ, St w0 wr (objP x (dbCells d l log m opn lost) 62 :: diskP d τ :: ps) ∧ redoB log (es.drop k) τ = R ∧ τ.pend.length ≤ M + 9 * k

set_option maxHeartbeats 4000000 in
theorem pd_redo {w0 w : World} {ps : List HP} {x d l log : Nat} {m : Meta} {opn : Value} {lost : Bool} {σ : Dk} (H : St w0 w (objP x (dbCells d l log m opn lost) 62 :: diskP d σ :: ps)) (s : ByteArray) (es : List (Nat × List UInt8)) (hs : s.data.toList = recB es) (he : Ents log es) (hn : es.length ≤ 1000) (h1 : 1 ≤ log) (hroom : σ.pend.length ≤ 700000000) :
    Calls Tryz.prog 44 #[.pointer (some ⟨x, 0, none⟩), .string s] w fun e w' => e = .returned (.int .i64 (redoB log es σ).1) ∧ St w0 w' (objP x (dbCells d l log m opn lost) 62 :: diskP d (redoB log es σ).2 :: ps) := by
  obtain ⟨R, hR⟩ : ∃ R, Hid (redoB log es σ = R) := ⟨_, hid rfl⟩
  rw [hR.out]
  obtain ⟨n, hnd⟩ : ∃ n, es.length = n := ⟨_, rfl⟩
  have hsz : s.size = 4 + 516 * n := by rw [ba_size, hs, recB, List.length_append, length_numLE, length_flat he, hnd]
  have hval := fun W => pd_value s W (by omega)
  rw [hs, recB, List.take_left' (length_numLE _ _), valLE_numLE, hnd, Nat.mod_eq_of_lt (by omega)] at hval
  have HM := hid (show RedoAt w0 w.drew ps x d l log m opn lost es R 0 σ.pend.length from ⟨σ, H.drew, hR.out, by omega⟩)
  obtain ⟨S, hS⟩ : ∃ S, Hid (4 + 516 * n = S) := ⟨_, hid rfl⟩
  rw [hS.out] at hsz
  have HE := hid (And.intro hs (And.intro he (And.intro hnd h1)))
  rw [hnd] at hn
  clear H hs he hnd hR h1
  go_enter Tryz.func44, Tryz.ntmps44
  go_wp2_with (go_at_call 60; refine (hval _).mono ?_; rintro e w1 ⟨rfl, rfl⟩)
  generalize w.drew = w1 at *
  clear hval
  go_loopw [12] (fun iv wr => ∃ k : Nat, k ≤ n ∧ iv = .int .i64 (k : Int) ∧ RedoAt w0 wr ps x d l log m opn lost es R k σ.pend.length) (fun iv _ => n - (intOf iv).toNat)
  case atStart => exact ⟨0, Nat.zero_le _, rfl, HM.out⟩
  case round =>
    obtain ⟨k, hk, rfl, ⟨τ, hSt, hRk, hp⟩⟩ := hrel
    clear HM
    have HS := hid hSt
    clear hSt
    by_cases hlt : k < n
    · have hlt' : (k : Int) < (n : Int) := by omega
      obtain ⟨e, hek⟩ : ∃ e, es[k]? = some e := ⟨_, List.getElem?_eq_getElem (by rw [HE.out.2.2.1]; exact hlt)⟩
      obtain ⟨pg, img⟩ := e
      obtain ⟨hid', himg⟩ := rec_at HE.out.2.1 hek
      simp only [] at hid' himg
      have hok := HE.out.2.1 _ (List.mem_of_getElem? hek)
      simp only [] at hok
      obtain ⟨A, hA⟩ : ∃ A, Hid (4 + 516 * k = A) := ⟨_, hid rfl⟩
      rw [hA.out] at hid' himg
      have hAS : A + 516 ≤ S := by have := hA.out; have := hS.out; omega
      have hAb : S ≤ 600000 := by have := hS.out; omega
      obtain ⟨x1, hx1⟩ : ∃ y, s.extract A S = y := ⟨_, rfl⟩
      obtain ⟨x2, hx2⟩ : ∃ y, s.extract (A + 4) (A + 4 + 512) = y := ⟨_, rfl⟩
      have hts : s.data.toList.take S = s.data.toList := List.take_of_length_le (by rw [← ba_size, hsz]; exact Nat.le_refl _)
      have hx1l : x1.data.toList.take 4 = numLE pg 4 := by rw [← hx1, ba_take, hts, HE.out.1, hid']
      have hx1s : 4 ≤ x1.size := by rw [← hx1, ByteArray.size_extract, hsz]; omega
      have hx2l : x2.data.toList = img := by rw [← hx2, ba_take, HE.out.1, List.drop_take, show A + 4 + 512 - (A + 4) = 512 by omega, himg]
      have hval := fun W => pd_value x1 W hx1s
      rw [hx1l, valLE_numLE, Nat.mod_eq_of_lt (by omega)] at hval
      have qa : (4 : Int) + (k : Int) * 516 = (A : Int) := by have := hA.out; omega
      have qb : IntKind.i64.wrap ((A : Int) + 4) = (A : Int) + 4 := by rw [IntKind.wrap_i64]; omega
      have qc : IntKind.i64.wrap ((A : Int) + 4 + 512) = (A : Int) + 4 + 512 := by rw [IntKind.wrap_i64]; omega
      have qd : IntKind.i64.wrap (A : Int) = (A : Int) := by rw [IntKind.wrap_i64]; omega
      have n1 : ((A : Int) + 4).toNat = A + 4 := by omega
      have n2 : ((A : Int) + 4 + 512).toNat = A + 4 + 512 := by omega
      have p1 : (A : Int) ≤ (S : Int) := by omega
      have p2 : (0 : Int) ≤ (A : Int) + 4 := by omega
      have p3 : (A : Int) + 4 ≤ (A : Int) + 4 + 512 := by omega
      have p4 : (0 : Int) ≤ (A : Int) + 4 + 512 := by omega
      have p5 : (A : Int) + 4 + 512 ≤ (S : Int) := by omega
      have p6 : A ≤ S := by omega
      have HX := hid (And.intro hx2l (And.intro hok hek))
      clear hx1l hx2l hid' himg hok hek hx1s hts
      go_upto_region 6 with fail
      refine wp_stages (by kernel_rfl) ?_
      refine wp_stage (fun _ => True) [(0, true), (1, true), (2, true), (3, true), (5, true), (6, true), (7, true), (8, true), (9, true), (10, true), (11, true), (4, false)] 2 rfl (by kernel_rfl) (by intro c a dd v w h; cases dd <;> exact h) (trivial) ?_
      iterate 11 (refine wpOrd_read (v := _) rfl rfl (by intro w' hS; skip; clear hS; go_simp; rfl) ?_; (try simp only [Act.put, List.setIfInBounds_toArray, List.set_cons_succ, List.set_cons_zero, List.getElem_toArray, List.getElem_cons_succ, List.getElem_cons_zero]))
      have HD := hid HS.out.drew.drew
      refine wpOrd_do rfl rfl (fun K hK => ?_)
      go_simp
      refine (hval _).mono ?_
      rintro e2 w2 ⟨rfl, rfl⟩
      refine hK _ _ ⟨trivial, ?_⟩
      clear hK K
      (try simp only [Act.put, List.setIfInBounds_toArray, List.set_cons_succ, List.set_cons_zero, List.getElem_toArray, List.getElem_cons_succ, List.getElem_cons_zero])
      refine wpOrd_end ?_
      refine wp_stages_end 12 (by rfl) (by kernel_rfl) ?_
      simp only [List.drop_succ_cons, List.drop_zero]
      generalize wr.drew.drew = wd at *
      obtain ⟨hx2l, hok, hek⟩ := HX.out
      have hlay := pd_lay HD.out pg x2 img hx2l hok.1 HE.out.2.2.2 hok.2 (by omega)
      have hpl := layN_pend (log + 8 * pg - 1) img 9 0 τ
      have hdk : es.drop k = (pg, img) :: es.drop (k + 1) := by
        have hke : k < es.length := (List.getElem?_eq_some_iff.1 hek).1
        rw [List.drop_eq_getElem_cons hke]
        rw [List.getElem?_eq_getElem hke] at hek
        rw [Option.some.inj hek]
      rw [hdk, redoB] at hRk
      simp only [] at hRk
      generalize layN (log + 8 * pg - 1) img 9 0 τ = q at *
      obtain ⟨qe, τ2⟩ := q
      simp only [] at hlay hRk hpl
      have HN := hid (And.intro hRk hpl)
      have HLAY := hid hlay
      clear hRk hpl hlay hdk hx2l hok hek HX hval
      go_wp2_with fail
      refine HLAY.out.mono ?_
      rintro e3 w3 ⟨rfl, H3⟩
      have H3 := hid H3
      clear HLAY HD HS
      by_cases h0 : qe = 0
      · subst h0
        go_wp2
        go_roundw
        case rel =>
          obtain ⟨hst, hpp⟩ := HN.out
          exact ⟨k + 1, by omega, by go_num, ⟨τ2, H3.out, by simpa using hst, by omega⟩⟩
        case measure => first | (simp [intOf]; done) | (simp [intOf]; omega)
      · have hb0 : (qe != 0) = true := by simpa using h0
        have HN0 := hid h0
        clear h0
        go_wp2
        go_ret
        obtain ⟨hst, hpp⟩ := HN.out
        rw [if_neg HN0.out] at hst
        subst hst
        exact ⟨rfl, H3.out⟩
    · obtain rfl : k = n := by omega
      have hend : ¬ (k : Int) < (k : Int) := by omega
      have e : es.drop k = [] := List.drop_eq_nil_of_le (by rw [HE.out.2.2.1]; exact Nat.le_refl _)
      rw [e] at hRk
      have HRK := hid hRk
      clear hRk e
      go_wp2
      go_ret
      rw [← HRK.out]
      exact ⟨rfl, HS.out⟩

end Go.Proofs.YtnffnpndnaofhaaGreatDoor

/- A database of pages (layer 10): the body of page 0; conditions stand in the theorem. -/
namespace Go.Proofs.YtnffnpndnaofhaaGreatDoor
open Go.RowKit
set_option maxRecDepth 100000

def metaB (m : Meta) : List UInt8 := numLE m.high 4 ++ (numLE m.free 4 ++ (numLE m.count 4 ++ (numLE m.r0 4 ++ (numLE m.r1 4 ++ (numLE m.r2 4 ++ numLE m.r3 4)))))

theorem length_metaB (m : Meta) : (metaB m).length = 28 := by simp [metaB, length_numLE]

def Meta.root (m : Meta) : Nat → Nat
  | 0 => m.r0
  | 1 => m.r1
  | 2 => m.r2
  | _ => m.r3

/-- The body so far: k roots. -/
def metaTo (m : Meta) (k : Nat) : List UInt8 := numLE m.high 4 ++ numLE m.free 4 ++ numLE m.count 4 ++ (List.range k).flatMap fun i => numLE (m.root i) 4

theorem metaTo_succ (m : Meta) (k : Nat) : metaTo m (k + 1) = metaTo m k ++ numLE (m.root k) 4 := by simp [metaTo, List.range_succ, List.append_assoc]
theorem metaTo_all (m : Meta) : metaTo m 4 = metaB m := by simp [metaTo, metaB, List.range_succ, Meta.root, List.append_assoc]
theorem length_metaTo (m : Meta) (k : Nat) : (metaTo m k).length = 12 + 4 * k := by
  induction k with
  | zero => simp [metaTo, length_numLE]
  | succ k ih => rw [metaTo_succ, List.length_append, ih, length_numLE]; omega

structure Meta.Ok (m : Meta) : Prop where
  r0 : m.r0 < 2 ^ 31
  r1 : m.r1 < 2 ^ 31
  r2 : m.r2 < 2 ^ 31
  r3 : m.r3 < 2 ^ 31
  high : m.high < 2 ^ 31
  free : m.free < 2 ^ 31
  count : m.count < 2 ^ 31

/-- page 0's body, read. -/
theorem metaB_parts (m : Meta) : (metaB m).take 4 = numLE m.high 4 ∧ ((metaB m).drop 4).take 4 = numLE m.free 4 ∧ ((metaB m).drop 8).take 4 = numLE m.count 4 ∧ ((metaB m).drop 12).take 4 = numLE m.r0 4 ∧ ((metaB m).drop 16).take 4 = numLE m.r1 4 ∧ ((metaB m).drop 20).take 4 = numLE m.r2 4 ∧ ((metaB m).drop 24).take 4 = numLE m.r3 4 := by
  have h4 : ∀ (n : Nat) (r : List UInt8), (numLE n 4 ++ r).drop 4 = r := fun n r => List.drop_left' (length_numLE _ _)
  have t4 : ∀ (n : Nat) (r : List UInt8), (numLE n 4 ++ r).take 4 = numLE n 4 := fun n r => List.take_left' (length_numLE _ _)
  have d : ∀ (k : Nat) (l : List UInt8), l.drop (k + 4) = (l.drop k).drop 4 := fun k l => by rw [List.drop_drop]
  have e4 : (metaB m).drop 4 = numLE m.free 4 ++ (numLE m.count 4 ++ (numLE m.r0 4 ++ (numLE m.r1 4 ++ (numLE m.r2 4 ++ numLE m.r3 4)))) := h4 _ _
  have e8 : (metaB m).drop 8 = numLE m.count 4 ++ (numLE m.r0 4 ++ (numLE m.r1 4 ++ (numLE m.r2 4 ++ numLE m.r3 4))) := by rw [d 4, e4, h4]
  have e12 : (metaB m).drop 12 = numLE m.r0 4 ++ (numLE m.r1 4 ++ (numLE m.r2 4 ++ numLE m.r3 4)) := by rw [d 8, e8, h4]
  have e16 : (metaB m).drop 16 = numLE m.r1 4 ++ (numLE m.r2 4 ++ numLE m.r3 4) := by rw [d 12, e12, h4]
  have e20 : (metaB m).drop 20 = numLE m.r2 4 ++ numLE m.r3 4 := by rw [d 16, e16, h4]
  have e24 : (metaB m).drop 24 = numLE m.r3 4 := by rw [d 20, e20, h4]
  refine ⟨t4 _ _, by rw [e4, t4], by rw [e8, t4], by rw [e12, t4], by rw [e16, t4], by rw [e20, t4], by rw [e24, List.take_of_length_le (by rw [length_numLE]; omega)]⟩

end Go.Proofs.YtnffnpndnaofhaaGreatDoor

/- A database of pages (layer 10): parse of page 0's body; conditions stand in the theorem. -/
namespace Go.Proofs.YtnffnpndnaofhaaGreatDoor
open Go.RowKit
set_option maxRecDepth 100000

def metaTo' (m : Meta) (k : Nat) : List Value := (List.range 4).map (fun i => Value.int .i64 (if i < k then (m.root i : Int) else 0)) ++ [.int .i64 (m.high : Int), .int .i64 (m.free : Int), .int .i64 (m.count : Int)]

theorem metaTo'_all (m : Meta) : metaTo' m 4 = m.cells := rfl

theorem metaTo'_set (m : Meta) (k : Nat) (hk : k < 4) : (metaTo' m k).set k (.int .i64 (m.root k : Int)) = metaTo' m (k + 1) := by
  match k, hk with
  | 0, _ => rfl
  | 1, _ => rfl
  | 2, _ => rfl
  | 3, _ => rfl

theorem metaB_root (m : Meta) (k : Nat) (hk : k < 4) : ((metaB m).drop (12 + 4 * k)).take 4 = numLE (m.root k) 4 := by
  obtain ⟨-, -, -, h0, h1, h2, h3⟩ := metaB_parts m
  match k, hk with
  | 0, _ => exact h0
  | 1, _ => exact h1
  | 2, _ => exact h2
  | 3, _ => exact h3

theorem Meta.Ok.root {m : Meta} (h : m.Ok) (k : Nat) : m.root k < 2 ^ 31 := by
  match k with
  | 0 => exact h.r0
  | 1 => exact h.r1
  | 2 => exact h.r2
  | k + 3 => exact h.r3

theorem meta_one (m : Meta) : ∀ v ∈ m.cells, v.oneCell' = true := by
  intro v hv
  simp only [Meta.cells, List.mem_cons, List.not_mem_nil, or_false] at hv
  rcases hv with rfl | rfl | rfl | rfl | rfl | rfl | rfl <;> rfl

set_option maxHeartbeats 4000000 in
theorem pd_parse (w : World) (m : Meta) (ok : m.Ok) (h1 : 1 ≤ m.high) (s : ByteArray) (hs : s.data.toList = metaB m) :
    Calls Tryz.prog 49 #[.string s] w fun e w' => e = .returned (.tuple #[.agg m.cells.toArray, .bool true]) ∧ Pres [] w w' := by
  have hsz : s.size = 28 := by rw [ba_size, hs, length_metaB]
  obtain ⟨p0, p4, p8, -⟩ := metaB_parts m
  obtain ⟨x1, hx1⟩ : ∃ y, s.extract 4 28 = y := ⟨_, rfl⟩
  obtain ⟨x2, hx2⟩ : ∃ y, s.extract 8 28 = y := ⟨_, rfl⟩
  have hts : s.data.toList.take 28 = s.data.toList := List.take_of_length_le (by rw [← ba_size, hsz]; exact Nat.le_refl _)
  have v0 := fun W => pd_value s W (by omega)
  have v1 := fun W => pd_value x1 W (by rw [← hx1, ByteArray.size_extract, hsz]; omega)
  have v2 := fun W => pd_value x2 W (by rw [← hx2, ByteArray.size_extract, hsz]; omega)
  have o1 := ok.high
  have o2 := ok.free
  have o3 := ok.count
  rw [hs, p0, valLE_numLE, Nat.mod_eq_of_lt (by omega)] at v0
  rw [← hx1, ba_take, hts, hs, p4, valLE_numLE, Nat.mod_eq_of_lt (by omega), hx1] at v1
  rw [← hx2, ba_take, hts, hs, p8, valLE_numLE, Nat.mod_eq_of_lt (by omega), hx2] at v2
  have HE := hid (And.intro hs (And.intro hts ok))
  have H0 := hid ((St.start w).alloc [.int .i64 0, .int .i64 0, .int .i64 0, .int .i64 0, .int .i64 0, .int .i64 0, .int .i64 0] 60)
  have hz : (s.size : Int) = 28 := by omega
  clear hs hts p0 p4 p8 ok
  go_enter Tryz.func49, Tryz.ntmps49
  go_upto_region 3 with fail
  refine wp_stages (by kernel_rfl) ?_
  refine wp_pures [(2, true), (3, true), (5, true), (6, true)] 10 rfl (by kernel_rfl) (by kernel_rfl) (by intro c a dd v w h; cases dd <;> exact h) ?_
  iterate 4 (refine wpOrd_read (v := _) rfl rfl (by intro w' hS; skip; clear hS; go_simp; rfl) ?_; (try simp only [Act.put, List.setIfInBounds_toArray, List.set_cons_succ, List.set_cons_zero, List.getElem_toArray, List.getElem_cons_succ, List.getElem_cons_zero]))
  refine wpOrd_end ?_
  have HD := hid H0.out.drew
  clear H0
  generalize (w.alloc (.cells #[.int .i64 0, .int .i64 0, .int .i64 0, .int .i64 0, .int .i64 0, .int .i64 0, .int .i64 0] 60)).drew = w1 at *
  generalize w.heap.size = rb at *
  refine wp_stage (fun _ => True) [(0, true), (1, false)] 8 rfl (by kernel_rfl) (by intro c a dd v w h; cases dd <;> exact h) (trivial) ?_
  iterate 1 (refine wpOrd_read (v := _) rfl rfl (by intro w' hS; skip; clear hS; go_simp; rfl) ?_; (try simp only [Act.put, List.setIfInBounds_toArray, List.set_cons_succ, List.set_cons_zero, List.getElem_toArray, List.getElem_cons_succ, List.getElem_cons_zero]))
  refine wpOrd_do rfl rfl (fun K hK => ?_)
  go_simp
  refine (v0 _).mono ?_
  rintro e w2 ⟨rfl, rfl⟩
  refine hK _ _ ⟨trivial, ?_⟩
  clear hK K
  (try simp only [Act.put, List.setIfInBounds_toArray, List.set_cons_succ, List.set_cons_zero, List.getElem_toArray, List.getElem_cons_succ, List.getElem_cons_zero])
  refine wpOrd_end ?_
  refine wp_stage (fun _ => True) [(8, true), (4, false), (7, false)] 5 rfl (by kernel_rfl) (by intro c a dd v w h; cases dd <;> exact h) (trivial) ?_
  iterate 1 (refine wpOrd_read (v := _) rfl rfl (by intro w' hS; skip; clear hS; go_simp; rfl) ?_; (try simp only [Act.put, List.setIfInBounds_toArray, List.set_cons_succ, List.set_cons_zero, List.getElem_toArray, List.getElem_cons_succ, List.getElem_cons_zero]))
  refine wpOrd_do rfl rfl (fun K hK => ?_)
  go_simp
  refine (v1 _).mono ?_
  rintro e w2 ⟨rfl, rfl⟩
  refine hK _ _ ⟨trivial, ?_⟩
  clear hK K
  (try simp only [Act.put, List.setIfInBounds_toArray, List.set_cons_succ, List.set_cons_zero, List.getElem_toArray, List.getElem_cons_succ, List.getElem_cons_zero])
  refine wpOrd_do rfl rfl (fun K hK => ?_)
  go_simp
  refine (v2 _).mono ?_
  rintro e w2 ⟨rfl, rfl⟩
  refine hK _ _ ⟨trivial, ?_⟩
  clear hK K
  (try simp only [Act.put, List.setIfInBounds_toArray, List.set_cons_succ, List.set_cons_zero, List.getElem_toArray, List.getElem_cons_succ, List.getElem_cons_zero])
  refine wpOrd_end ?_
  refine wp_stages_end 9 (by rfl) (by kernel_rfl) ?_
  simp only [List.drop_succ_cons, List.drop_zero]
  have HD2 := hid (HD.out.drew.drew.drew)
  clear HD v0 v1 v2
  generalize w1.drew.drew.drew = w2 at *
  have c4 := (HD2.out.obj 0 rfl).cell 4
  have c5 := (HD2.out.obj 0 rfl).cell 5
  have c6 := (HD2.out.obj 0 rfl).cell 6
  have f4 := (HD2.out.obj 0 rfl).frozen 4
  have f5 := (HD2.out.obj 0 rfl).frozen 5
  have f6 := (HD2.out.obj 0 rfl).frozen 6
  have hlt := (HD2.out.obj 0 rfl).lt
  simp only [List.getElem?_cons_succ, List.getElem?_cons_zero] at c4 c5 c6
  go_upto_region 4 with fail
  have HM := hid (show St w (((w2.setCell ⟨rb, 4, none⟩ (.int .i64 (m.high : Int))).setCell ⟨rb, 5, none⟩ (.int .i64 (m.free : Int))).setCell ⟨rb, 6, none⟩ (.int .i64 (m.count : Int))) [objP rb (metaTo' m 0) 60] from
    ((HD2.out.setT 4 (.int .i64 (m.high : Int))).setT 5 (.int .i64 (m.free : Int))).setT 6 (.int .i64 (m.count : Int)))
  clear HD2 c4 c5 c6 f4 f5 f6 hlt hx1 hx2
  generalize (((w2.setCell ⟨rb, 4, none⟩ (.int .i64 (m.high : Int))).setCell ⟨rb, 5, none⟩ (.int .i64 (m.free : Int))).setCell ⟨rb, 6, none⟩ (.int .i64 (m.count : Int))) = w3 at *
  go_wp2
  go_loopw [20] (fun iv wr => ∃ k : Nat, k ≤ 4 ∧ iv = .int .i64 (k : Int) ∧ St w wr [objP rb (metaTo' m k) 60]) (fun iv _ => 4 - (intOf iv).toNat)
  case atStart => exact ⟨0, Nat.zero_le _, rfl, HM.out⟩
  case round =>
    obtain ⟨k, hk, rfl, hS⟩ := hrel
    clear HM
    have HS := hid hS
    clear hS
    by_cases hlt : k < 4
    · have hlt' : (k : Int) < 4 := by omega
      obtain ⟨A, hA⟩ : ∃ A, Hid (12 + 4 * k = A) := ⟨_, hid rfl⟩
      have qa : (12 : Int) + 4 * (k : Int) = (A : Int) := by have := hA.out; omega
      have qb : (12 : Int) + (k : Int) * 4 = (A : Int) := by have := hA.out; omega
      have qw : IntKind.i64.wrap (A : Int) = (A : Int) := by have := hA.out; rw [IntKind.wrap_i64]; omega
      have p1 : (A : Int) ≤ 28 := by have := hA.out; omega
      have p2 : A ≤ 28 := by have := hA.out; omega
      obtain ⟨xa, hxa⟩ : ∃ y, s.extract A 28 = y := ⟨_, rfl⟩
      have va := fun W => pd_value xa W (by have := hA.out; rw [← hxa, ByteArray.size_extract, hsz]; omega)
      have hr := HE.out.2.2.root k
      rw [← hxa, ba_take, HE.out.2.1, HE.out.1, ← hA.out, metaB_root m k hlt, hA.out, valLE_numLE, Nat.mod_eq_of_lt (by omega), hxa] at va
      obtain ⟨u, cu⟩ : ∃ u, wr.cell? ⟨rb, k, none⟩ = some u := ⟨_, ((HS.out.obj 0 rfl).cell k).trans (List.getElem?_eq_getElem (by simp [metaTo']; omega))⟩
      have fu := (HS.out.obj 0 rfl).frozen k
      have hrl := (HS.out.obj 0 rfl).lt
      clear hr
      go_wp2_with (go_at_call 60; refine (va _).mono ?_; rintro e w' ⟨rfl, rfl⟩)
      go_roundw
      case rel =>
        refine ⟨k + 1, by omega, by go_num, ?_⟩
        have h := (HS.out.setT k (.int .i64 (m.root k : Int))).drew
        rw [metaTo'_set m k hlt] at h
        exact h
      case measure => first | (simp [intOf]; done) | (simp [intOf]; omega)
    · obtain rfl : k = 4 := by omega
      have hend : ¬ ((4 : Nat) : Int) < 4 := by omega
      have c4 := (HS.out.obj 0 rfl).cell 4
      rw [metaTo'_all] at c4
      simp only [Meta.cells, List.getElem?_cons_succ, List.getElem?_cons_zero] at c4
      have h1' : (1 : Int) ≤ (m.high : Int) := by omega
      have HT := hid (show At wr rb m.cells 60 from HS.out.obj 0 rfl)
      go_wp2_with (first
        | ((with_reducible refine at_load ?_); refine wpL_load rfl 60 (.tmp 2) rfl rb 0 7 rfl _ _ HT.out meta_agg meta_size (by simp [Meta.cells]) ?_; rw [show ((m.cells.drop 0).take 7) = m.cells from rfl])
        | ((with_reducible refine at_store ?_); refine wpL_store rfl 60 (.tmp 2) (.tmp 33) rfl rb 0 7 rfl m.cells rfl _ _ HT.out meta_size rfl (by simp [Meta.cells]) (meta_one m) ?_; intro w5 A5 P5 S5; have H5 := hid (HS.out.put 0 rfl A5 P5)))
      (try simp only [Exit.inBlock, Exit.then])
      refine bodyPost_ret (results_cell_at (cs := m.cells) rfl rfl meta_agg meta_size (show At w5 rb m.cells 60 from A5)) rfl ?_
      exact ⟨rfl, H5.out.pres⟩

end Go.Proofs.YtnffnpndnaofhaaGreatDoor

/- A database of pages (layer 10): sound tells that a record of its own is one; conditions stand in the theorem. -/
namespace Go.Proofs.YtnffnpndnaofhaaGreatDoor
open Go.RowKit
set_option maxRecDepth 100000

set_option maxHeartbeats 4000000 in
theorem pd_sound {w0 w : World} {ps : List HP} {x d l log : Nat} {m : Meta} {opn : Value} {lost : Bool} {σ : Dk} (H : St w0 w (objP x (dbCells d l log m opn lost) 62 :: diskP d σ :: ps)) (s : ByteArray) (es : List (Nat × List UInt8)) (hs : s.data.toList = recB es) (he : Ents log es) (hc : ∀ e ∈ es, e.1 < (σ.kept.length - log) / 8) (hn : es.length ≤ 1000) (hl : log ≤ σ.kept.length) :
    Calls Tryz.prog 43 #[.pointer (some ⟨x, 0, none⟩), .string s] w fun e w' => e = .returned (.bool true) ∧ Pres [] w w' := by
  obtain ⟨n, hnd⟩ : ∃ n, es.length = n := ⟨_, rfl⟩
  have hsz : s.size = 4 + 516 * n := by rw [ba_size, hs, recB, List.length_append, length_numLE, length_flat he, hnd]
  have hval := fun W => pd_value s W (by omega)
  have hs' := hs
  rw [hs, recB, List.take_left' (length_numLE _ _), valLE_numLE, hnd, Nat.mod_eq_of_lt (by omega)] at hval
  obtain ⟨C, hC⟩ : ∃ C, Hid ((σ.kept.length - log) / 8 = C) := ⟨_, hid rfl⟩
  have hcnt := fun W (h : St w0 W (objP x (dbCells d l log m opn lost) 62 :: diskP d σ :: ps)) => pd_count h hl
  rw [hC.out] at hcnt hc
  obtain ⟨S, hS⟩ : ∃ S, Hid (4 + 516 * n = S) := ⟨_, hid rfl⟩
  rw [hS.out] at hsz
  have HE := hid (And.intro hs' (And.intro he (And.intro hnd hc)))
  rw [hnd] at hn
  have HH := hid H
  have d1 : decide ((S : Int) < 4) = false := decide_eq_false (by have := hS.out; omega)
  have m1 : ((S : Int) - 4).tmod 516 = 0 := by
    have e : (S : Int) - 4 = 516 * (n : Int) := by have := hS.out; omega
    rw [e, Int.mul_tmod_right]
  have m2 : ((S : Int) - 4).tdiv 516 = (n : Int) := by
    have e : (S : Int) - 4 = 516 * (n : Int) := by have := hS.out; omega
    rw [e, Int.mul_tdiv_cancel_left _ (by omega)]
  have m3 : ((S : Int) - 4) % 516 = 0 := by have := hS.out; omega
  have m4 : ((S : Int) - 4) / 516 = (n : Int) := by have := hS.out; omega
  have hSb : (S : Int) ≤ 600000 := by have := hS.out; omega
  clear H hs hs' he hc hnd hl
  go_enter Tryz.func43, Tryz.ntmps43
  go_upto_region 3 with (go_at_call 60; refine (hval _).mono ?_; rintro e w1 ⟨rfl, rfl⟩)
  clear d1 m1 m2 m3 m4 hval
  have HM := hid (HH.out.drew)
  have P0 := hid ((Pres.refl [] w).drew)
  generalize w.drew = w1 at *
  go_wp2_with fail
  go_loopw [5] (fun iv wr => ∃ (k A : Nat), k ≤ n ∧ A = 4 + 516 * k ∧ iv = .int .i64 (A : Int) ∧ St w0 wr (objP x (dbCells d l log m opn lost) 62 :: diskP d σ :: ps) ∧ Pres [] w wr) (fun iv _ => 600000 - (intOf iv).toNat)
  case atStart => exact ⟨0, 4, Nat.zero_le _, rfl, rfl, HM.out, P0.out⟩
  case round =>
    obtain ⟨k, A, hk, hA, rfl, hSt, hP⟩ := hrel
    clear HM HH
    have HS := hid hSt
    have HP := hid hP
    have HA := hid hA
    clear hSt hP hA
    by_cases hlt : k < n
    · have hAS : A + 516 ≤ S := by have := HA.out; have := hS.out; omega
      have hAS' : (A : Int) < (S : Int) := by omega
      obtain ⟨e, hek⟩ : ∃ e, es[k]? = some e := ⟨_, List.getElem?_eq_getElem (by rw [HE.out.2.2.1]; exact hlt)⟩
      obtain ⟨pg, img⟩ := e
      obtain ⟨hid', -⟩ := rec_at HE.out.2.1 hek
      simp only [] at hid'
      have hpc := HE.out.2.2.2 _ (List.mem_of_getElem? hek)
      simp only [] at hpc
      rw [← HA.out] at hid'
      obtain ⟨x1, hx1⟩ : ∃ y, s.extract A S = y := ⟨_, rfl⟩
      have hts : s.data.toList.take S = s.data.toList := List.take_of_length_le (by rw [← ba_size, hsz]; exact Nat.le_refl _)
      have hx1l : x1.data.toList.take 4 = numLE pg 4 := by rw [← hx1, ba_take, hts, HE.out.1, hid']
      have hx1s : 4 ≤ x1.size := by rw [← hx1, ByteArray.size_extract, hsz]; omega
      have hok := HE.out.2.1 _ (List.mem_of_getElem? hek)
      simp only [] at hok
      have hval := fun W => pd_value x1 W hx1s
      rw [hx1l, valLE_numLE, Nat.mod_eq_of_lt (by omega)] at hval
      have g1 : ¬ (C : Int) ≤ (pg : Int) := by omega
      have p1 : (A : Int) ≤ (S : Int) := by omega
      clear hx1l hid' hek hx1s hts hok hpc
      go_wp2_with (first
        | (go_at_call 60; refine (hval _).mono ?_; rintro e2 w2 ⟨rfl, rfl⟩)
        | (go_at_call 24; refine (hcnt _ HS.out.drew).mono ?_; rintro e3 w3 ⟨rfl, P3⟩))
      go_roundw
      case rel => exact ⟨k + 1, A + 516, by omega, by have := HA.out; omega, by go_num, HS.out.drew.quiet P3, HP.out.drew.then P3⟩
      case measure => simp [intOf]; omega
    · have hAS : A = S := by have := HA.out; have := hS.out; omega
      have hAS' : ¬ (A : Int) < (S : Int) := by omega
      clear hAS
      go_wp2
      go_ret
      exact ⟨rfl, HP.out⟩

end Go.Proofs.YtnffnpndnaofhaaGreatDoor
