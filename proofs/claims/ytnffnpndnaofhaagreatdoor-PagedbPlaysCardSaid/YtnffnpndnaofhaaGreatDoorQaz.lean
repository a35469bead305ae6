/- Parts of the proof: A transaction's calls, told in the document's words; conditions stand in the theorems. -/
import Derived.Test.YtnffnpndnaofhaaGreatDoorQay

/- A transaction's calls, told in the document's words; conditions stand in the theorems. -/
namespace Go.Proofs.YtnffnpndnaofhaaGreatDoor
open Go.RowKit
set_option maxRecDepth 100000

def tchK (tk : Nat → Bool) (k : Nat) : Nat → Bool := fun j => decide (j = k) || tk j

def PSt.writeE (T : PSt) (k kind : Int) (len : Nat) : Int := if T.there k = 0 then (if kind < 1 ∨ 255 ≤ kind then 2 else if 500 < len then 3 else 0) else T.there k

/-- Alloc: the page, the error, what is there then. -/
def PSt.alloc (T : PSt) (cnt : Nat) : Nat × Int × PSt := if T.freed = [] then (if T.pages.length = cnt then (0, 7, T) else (T.pages.length, 0, T.grow)) else (T.freed.getLastD 0, 0, T.take (T.freed.getLastD 0))

def PSt.root (T : PSt) : Nat → Nat
  | 0 => T.r0
  | 1 => T.r1
  | 2 => T.r2
  | _ => T.r3

def PSt.setRoot (T : PSt) (i x : Nat) : PSt :=
  match i with
  | 0 => { T with r0 := x }
  | 1 => { T with r1 := x }
  | 2 => { T with r2 := x }
  | _ => { T with r3 := x }

theorem there_bounds {T : PSt} {k : Int} (h : T.there k = 0) : 1 ≤ k ∧ k.toNat < T.pages.length ∧ k = (k.toNat : Int) := by
  unfold PSt.there at h
  split at h
  · cases h
  · rename_i hc
    omega

section
variable {w0 w : World} {ps : List HP} {x d t N log cnt E : Nat} {arm spoilt mk : Bool} {S T : PSt} {tk : Nat → Bool}

/-- A leaf is put. -/
theorem TxOk.put {X : TxD} (h2 : TxOk cnt S T tk mk X) {k : Nat} {p : Leaf} {T' : PSt} {n' : Meta} {mk' : Bool} (hv : Views n' (putV X.v k p) T' cnt) (hk : 1 ≤ k ∧ k < n'.high) (hhi : X.n.high ≤ n'.high) (hnew : ∀ j, X.n.high ≤ j → j < n'.high → j = k) (hm : mk' = false → X.marked = false ∧ n' = X.n) :
    TxOk cnt S T' (tchK tk k) mk' { X with n := n', v := putV X.v k p, M := putM X.M k p, ks := putK X.ks k, marked := mk' } := by
  refine ⟨hv, fun j h1 h3 => ?_, fun j hj => ?_, fun h => ?_, fun h => ?_, fun j => ?_, rfl, Nat.le_trans h2.high hhi, ?_, fun j => ?_⟩
  · simp only [putM, putV]
    by_cases e : j = k
    · rw [if_pos e, if_pos e]; exact .inl rfl
    · rw [if_neg e, if_neg e]
      exact h2.seen j h1 (by
        rcases Nat.lt_or_ge j X.n.high with h | h
        · exact h
        · exact absurd (hnew j h h3) e)
  · simp only [putM] at hj ⊢
    by_cases e : j = k
    · subst e; exact hk
    · rw [if_neg e] at hj
      have := h2.ids j hj
      omega
  · have := hm h
    simp only []
    rw [this.2]
    exact h2.clean this.1
  · have := h k
    simp [tchK] at this
  · simp only [tchK, putM]
    by_cases e : j = k
    · simp [e]
    · simp [e, h2.touch j]
  · simp only [putK]
    split
    · exact h2.nodup
    · rename_i hn
      rw [List.nodup_append]
      exact ⟨h2.nodup, by simp, by intro a ha b hb e; simp at hb; subst hb; subst e; exact hn ha⟩
  · simp only [putK, putM]
    by_cases e : j = k
    · subst e
      simp only [if_true, ne_eq, reduceCtorEq, not_false_eq_true, iff_true]
      split
      · assumption
      · simp
    · rw [if_neg e, ← h2.keys j]
      split
      · exact Iff.rfl
      · simp [e]

theorem tp_read (hh : HalfAt w0) (H : St w0 w (txP x d t N log cnt E arm S T tk mk spoilt :: ps)) (k : Int) (hk : k < 9223372036854775808) :
    Calls Tryz.prog 18 #[.pointer (some ⟨t, 0, none⟩), .int .i64 k] w fun e w' => e = .returned (.tuple #[.int .i64 (if T.there k = 0 then ((T.page k).1 : Int) else 0), strV (if T.there k = 0 then (T.page k).2 else []), .int .i64 (T.there k)]) ∧ St w0 w' (txP x d t N log cnt E arm S T tk mk spoilt :: ps) := by
  obtain ⟨X, h1, h2, HX⟩ := txP_open H
  have hr := tx_read hh HX h1.rest.up.down (h2.sees h1) k hk
  obtain ⟨t1, t2⟩ := h2.views.there k
  have e : readR X.n X.v k = (if T.there k = 0 then T.page k else (0, []), T.there k) := by
    unfold readR
    rw [t1]
    by_cases h0 : T.there k = 0
    · rw [if_pos h0, if_pos h0, t2 h0, h0]
    · rw [if_neg h0, if_neg h0]
  rw [e] at hr
  refine hr.mono ?_
  rintro en w' ⟨rfl, H2⟩
  refine ⟨?_, txP_mk X h1 h2 H2⟩
  by_cases h0 : T.there k = 0 <;> simp [h0]

theorem tp_write (hh : HalfAt w0) (H : St w0 w (txP x d t N log cnt E arm S T tk mk spoilt :: ps)) (k kind : Int) (hk : k < 9223372036854775808) (s : ByteArray) :
    Calls Tryz.prog 22 #[.pointer (some ⟨t, 0, none⟩), .int .i64 k, .int .i64 kind, .string s] w fun e w' => e = .returned (.int .i64 (T.writeE k kind s.size)) ∧
      St w0 w' (txP x d t N log cnt E arm S (if T.writeE k kind s.size = 0 then T.write k.toNat (kind.toNat, s.data.toList) else T) (if T.writeE k kind s.size = 0 then tchK tk k.toNat else tk) mk spoilt :: ps) := by
  obtain ⟨X, h1, h2, HX⟩ := txP_open H
  have hfew := h2.few
  have hcf := h1.rest.sh.few
  have hw := tx_write hh HX h1.rest.up.down (h2.sees h1) k kind hk s (by omega)
  obtain ⟨t1, t2⟩ := h2.views.there k
  have e : writeR X.n X.v k kind s.size = T.writeE k kind s.size := by
    unfold writeR PSt.writeE
    rw [t1]
  rw [e] at hw
  refine hw.mono ?_
  rintro en w' ⟨rfl, H2⟩
  refine ⟨rfl, ?_⟩
  by_cases h0 : T.writeE k kind s.size = 0
  · simp only [if_pos h0] at H2 ⊢
    have ht : T.there k = 0 ∧ 1 ≤ kind ∧ kind ≤ 254 ∧ s.size ≤ 500 := by
      unfold PSt.writeE at h0
      split at h0
      · rename_i h3
        split at h0
        · cases h0
        split at h0
        · cases h0
        · exact ⟨h3, by omega, by omega, by omega⟩
      · rename_i h3; exact absurd h0 h3
    obtain ⟨b1, b2, b3⟩ := there_bounds ht.1
    have hv := h2.views.write (k := k.toNat) (p := (kind.toNat, s.data.toList)) (by rw [← b3]; exact ht.1) (by simp only []; omega) (by simp only []; omega) (by simp only []; rw [← ba_size]; exact ht.2.2.2)
    have hmk := h2.mark
    subst hmk
    exact txP_mk { X with v := putV X.v k.toNat (kind.toNat, s.data.toList), M := putM X.M k.toNat (kind.toNat, s.data.toList), ks := putK X.ks k.toNat } h1 (h2.put (mk' := X.marked) hv ⟨by omega, by rw [h2.views.high]; omega⟩ (Nat.le_refl _) (fun j a b => by omega) (fun h => ⟨h, rfl⟩)) H2
  · simp only [if_neg h0] at H2 ⊢
    exact txP_mk X h1 h2 H2


theorem tp_alloc (hh : HalfAt w0) (H : St w0 w (txP x d t N log cnt E arm S T tk mk spoilt :: ps)) :
    Calls Tryz.prog 21 #[.pointer (some ⟨t, 0, none⟩)] w fun e w' => e = .returned (.tuple #[.int .i64 ((T.alloc cnt).1 : Int), .int .i64 (T.alloc cnt).2.1]) ∧
      St w0 w' (txP x d t N log cnt E arm S (T.alloc cnt).2.2 (if (T.alloc cnt).2.1 = 0 then tchK tk (T.alloc cnt).1 else tk) (if (T.alloc cnt).2.1 = 0 then true else mk) spoilt :: ps) := by
  obtain ⟨X, h1, h2, HX⟩ := txP_open H
  have hfew := h2.few
  have hcf := h1.rest.sh.few
  have hmost := h2.views.most
  have hdiv : (X.D.σ.kept.length - log) / 8 = cnt := by rw [h1.rest.up.len]; exact h1.rest.sh.div.symm
  have hlog : log ≤ X.D.σ.kept.length := by rw [h1.rest.up.len]; have := h1.rest.sh.fits; omega
  by_cases hf : T.freed = []
  · have hfree : X.n.free = 0 := by
      have := h2.views.chain.head
      rw [hf] at this
      exact this
    by_cases hc : T.pages.length = cnt
    · have e : T.alloc cnt = (0, 7, T) := by unfold PSt.alloc; rw [if_pos hf, if_pos hc]
      rw [e]
      refine (tx_alloc_full HX h1.rest.up.down hfree hlog (by rw [hdiv, h2.views.high, hc])).mono ?_
      rintro en w' ⟨rfl, H2⟩
      exact ⟨rfl, by simpa using txP_mk X h1 h2 H2⟩
    · have e : T.alloc cnt = (T.pages.length, 0, T.grow) := by unfold PSt.alloc; rw [if_pos hf, if_neg hc]
      rw [e]
      have hgr := h2.views.grow (by omega)
      refine (tx_alloc_new HX h1.rest.up.down hfree hlog (by rw [hdiv, h2.views.high]; exact hc) (by rw [h2.views.high]; omega) (by omega)).mono ?_
      rintro en w' ⟨rfl, H2⟩
      refine ⟨by rw [h2.views.high], ?_⟩
      have hput := h2.put (mk' := true) hgr ⟨by rw [h2.views.high]; exact h2.views.pos, by simp [Meta.more]⟩ (by simp [Meta.more]) (fun j a b => by simp only [Meta.more] at b; omega) (fun h => by cases h)
      rw [h2.views.high] at hput
      simp only [if_true]
      refine txP_mk { X with n := X.n.more, v := putV X.v T.pages.length (1, []), M := putM X.M T.pages.length (1, []), ks := putK X.ks T.pages.length, marked := true } h1 hput ?_
      rw [h2.views.high] at H2
      exact H2
  · obtain ⟨r, a, hr⟩ : ∃ r a, T.freed = r ++ [a] := ⟨T.freed.dropLast, T.freed.getLast hf, (List.dropLast_concat_getLast hf).symm⟩
    have hla : T.freed.getLastD 0 = a := by rw [hr]; simp
    have e : T.alloc cnt = (a, 0, T.take a) := by unfold PSt.alloc; rw [if_neg hf, hla]
    rw [e]
    obtain ⟨t1, t2, t3, t4, nxt, t5, t6, t7⟩ := h2.views.take hr
    have hcount := (h2.views.ok hcf).count
    refine (tx_alloc_free hh HX h1.rest.up.down (h2.sees h1) (by rw [t1]; exact t2) (by rw [t1]; exact t3) (by rw [h2.views.high]; omega) nxt t5 (by rw [t1, t6]) t4 (by omega) (by omega)).mono ?_
    rintro en w' ⟨rfl, H2⟩
    refine ⟨by rw [t1], ?_⟩
    have hput := h2.put (mk' := true) t7 ⟨t2, by simpa [Meta.pop] using t3⟩ (by simp [Meta.pop]) (fun j a b => by simp only [Meta.pop] at b; omega) (fun h => by cases h)
    simp only [if_true]
    refine txP_mk { X with n := X.n.pop nxt, v := putV X.v a (1, []), M := putM X.M a (1, []), ks := putK X.ks a, marked := true } h1 hput ?_
    rw [t1] at H2
    exact H2

theorem tp_free (hh : HalfAt w0) (H : St w0 w (txP x d t N log cnt E arm S T tk mk spoilt :: ps)) (k : Int) (hk : k < 9223372036854775808) :
    Calls Tryz.prog 28 #[.pointer (some ⟨t, 0, none⟩), .int .i64 k] w fun e w' => e = .returned (.int .i64 (T.there k)) ∧
      St w0 w' (txP x d t N log cnt E arm S (if T.there k = 0 then T.free k.toNat else T) (if T.there k = 0 then tchK tk k.toNat else tk) (if T.there k = 0 then true else mk) spoilt :: ps) := by
  obtain ⟨X, h1, h2, HX⟩ := txP_open H
  have hfew := h2.few
  have hcf := h1.rest.sh.few
  have hmost := h2.views.most
  obtain ⟨t1, t2⟩ := h2.views.there k
  by_cases h0 : T.there k = 0
  · obtain ⟨b1, b2, b3⟩ := there_bounds h0
    have ok := h2.views.ok hcf
    have hf := tx_free hh HX h1.rest.up.down (h2.sees h1) k.toNat (by omega) (by rw [← b3, t1]; exact h0) ok.free (by
      have := nodup_len _ _ h2.views.nodup (fun a ha => (h2.views.mem ha).2)
      rw [h2.views.count]
      omega) (by omega)
    rw [← b3] at hf
    refine hf.mono ?_
    rintro en w' ⟨rfl, H2⟩
    rw [h0]
    refine ⟨rfl, ?_⟩
    simp only [if_true]
    have hv := h2.views.free' (k := k.toNat) (by rw [← b3]; exact h0) (by omega)
    have hput := h2.put (mk' := true) hv ⟨by omega, by simp only [Meta.push]; rw [h2.views.high]; exact b2⟩ (by simp [Meta.push]) (fun j a b => by simp only [Meta.push] at b; omega) (fun h => by cases h)
    exact txP_mk { X with n := X.n.push k.toNat, v := putV X.v k.toNat (255, numLE X.n.free 4), M := putM X.M k.toNat (255, numLE X.n.free 4), ks := putK X.ks k.toNat, marked := true } h1 hput H2
  · simp only [if_neg h0]
    have hf := tx_free_no hh HX h1.rest.up.down (h2.sees h1) k hk (by rw [t1]; exact h0)
    rw [t1] at hf
    refine hf.mono ?_
    rintro en w' ⟨rfl, H2⟩
    exact ⟨rfl, txP_mk X h1 h2 H2⟩

theorem tp_setroot (H : St w0 w (txP x d t N log cnt E arm S T tk mk spoilt :: ps)) (i v : Nat) (hi : i < 4) (hv : v < 2147483648) :
    Calls Tryz.prog 30 #[.pointer (some ⟨t, 0, none⟩), .int .i64 (i : Int), .int .i64 (v : Int)] w fun e w' => e = .returned (.int .i64 0) ∧ St w0 w' (txP x d t N log cnt E arm S (T.setRoot i v) tk true spoilt :: ps) := by
  obtain ⟨X, h1, h2, HX⟩ := txP_open H
  refine (tx_setroot HX h1.rest.up.down i v hi hv).mono ?_
  rintro en w' ⟨rfl, H2⟩
  refine ⟨rfl, txP_mk { X with n := X.n.setRoot i v, marked := true } h1 ?_ H2⟩
  have hh : (X.n.setRoot i v).high = X.n.high := by unfold Meta.setRoot; split <;> rfl
  exact ⟨h2.views.setRoot i v hv, fun k a b => h2.seen k a (by simp only [] at b; rw [hh] at b; exact b), fun k hk => by simp only []; rw [hh]; exact h2.ids k hk, (fun h => by cases h), (fun _ h => by cases h), h2.touch, rfl, by simp only []; rw [hh]; exact h2.high, h2.nodup, h2.keys⟩

theorem tp_root (H : St w0 w (txP x d t N log cnt E arm S T tk mk spoilt :: ps)) (i : Nat) (hi : i < 4) :
    Calls Tryz.prog 29 #[.pointer (some ⟨t, 0, none⟩), .int .i64 (i : Int)] w fun e w' => e = .returned (.int .i64 (T.root i : Int)) ∧ w = w' := by
  obtain ⟨X, h1, h2, HX⟩ := txP_open H
  have hr := tx_root HX h1.rest.up.down i hi
  have e : X.n.root i = T.root i := by
    match i, hi with
    | 0, _ => exact h2.views.root0
    | 1, _ => exact h2.views.root1
    | 2, _ => exact h2.views.root2
    | 3, _ => exact h2.views.root3
  rw [e] at hr
  exact hr

theorem tp_abort (H : St w0 w (txP x d t N log cnt E arm S T tk mk spoilt :: ps)) :
    Calls Tryz.prog 17 #[.pointer (some ⟨t, 0, none⟩)] w fun e w' => e = .returned (.tuple #[]) ∧ St w0 w' (dbP x d N log cnt E arm S :: staleP t x :: ps) := by
  obtain ⟨X, h1, h2, HX⟩ := txP_open H
  refine (tx_abort HX).mono ?_
  rintro en w' ⟨rfl, H2⟩
  refine ⟨rfl, ?_⟩
  have H3 := (H2.pull 3 rfl).drop
  have H4 := St.any (F := fun q : Meta × Value × Bool × Bool => objP t (txCells x q.1 q.2.1 q.2.2.1 q.2.2.2) 67) (X.n, .map (some X.mb), X.marked, spoilt) H3
  exact dbP_mk X.D h1 H4.sink3

/-- How much is changed. -/
def changes (tk : Nat → Bool) (mk : Bool) (cnt : Nat) : Nat := (List.range cnt).countP tk + (if mk then 1 else 0)

def commitE (log : Nat) (spoilt : Bool) (K : Nat) : Int := if spoilt then 9 else if 0 < K ∧ (4 + 516 * K > 65536 ∨ 4 + 516 * K + 8 > 64 * (log - 1)) then 7 else 0

theorem lastOf_map (f : Nat → List UInt8) (k : Nat) : ∀ (ss : List Nat), lastOf (ss.map fun j => (j, f j)) k = if k ∈ ss then some (f k) else none
  | [] => rfl
  | a :: ss => by
    rw [List.map_cons, lastOf_cons, lastOf_map f k ss]
    by_cases h : k ∈ ss
    · simp [h]
    · simp only [h, if_false, Option.none_or, List.mem_cons, or_false]
      by_cases e : a = k
      · subst e; simp
      · rw [if_neg e, if_neg (fun h => e h.symm)]

theorem nodup_count (tk : Nat → Bool) (n : Nat) (l : List Nat) (hn : l.Nodup) (hm : ∀ k, k ∈ l ↔ (k < n ∧ tk k = true)) : l.length = (List.range n).countP tk := by
  rw [List.countP_eq_length_filter]
  refine ((List.perm_ext_iff_of_nodup hn (List.Pairwise.filter _ List.nodup_range)).2 (fun a => ?_)).length_eq
  rw [hm, List.mem_filter, List.mem_range]

theorem TxOk.keysN {X : TxD} (h2 : TxOk cnt S T tk mk X) : X.ks.length = (List.range cnt).countP tk := by
  refine nodup_count _ _ _ h2.nodup (fun k => ?_)
  have hm := h2.views.most
  rw [← h2.views.high] at hm
  rw [h2.keys, h2.touch]
  constructor
  · intro h
    have := h2.ids k h
    exact ⟨by omega, by cases hx : X.M k with | none => exact absurd hx h | some p => rfl⟩
  · rintro ⟨-, h⟩ e
    rw [e] at h
    cases h

theorem TxOk.leafs {X : TxD} (h2 : TxOk cnt S T tk mk X) {k : Nat} {p : Leaf} (h : X.M k = some p) : 1 ≤ k ∧ k < X.n.high ∧ p = X.v k := by
  obtain ⟨a, b⟩ := h2.ids k (by rw [h]; simp)
  refine ⟨a, b, ?_⟩
  rcases h2.seen k a b with e | ⟨e, -⟩
  · rw [h] at e; exact Option.some.inj e
  · rw [h] at e; cases e

theorem tp_commit (hh : HalfAt w0) (H : St w0 w (txP x d t N log cnt E arm S T tk mk spoilt :: ps)) (hE : E < 1000000) :
    Calls Tryz.prog 20 #[.pointer (some ⟨t, 0, none⟩)] w fun e w' =>
      (e = .returned (.int .i64 (commitE log spoilt (changes tk mk cnt))) ∧ St w0 w' (dbP x d N log cnt (E + 1) arm (if commitE log spoilt (changes tk mk cnt) = 0 then T else S) :: staleP t x :: ps)) ∨
      (arm = true ∧ commitE log spoilt (changes tk mk cnt) = 0 ∧ e = .returned (.int .i64 10) ∧ St w0 w' (darkP d N log cnt (E + 1) (fun s => s = S ∨ s = T) :: ps)) := by
  obtain ⟨X, h1, h2, HX⟩ := txP_open H
  have hfew := h2.few
  have hcf := h1.rest.sh.few
  have sh := h1.rest.sh
  have hmost := h2.views.most
  have hhi := h2.views.high
  have s1 := sh.two
  have s2 := sh.fits
  have s3 := sh.most
  have hmk := h2.mark
  subst hmk
  have hseal : Sealable X.M := by
    intro k p hp
    obtain ⟨a, b, rfl⟩ := h2.leafs hp
    obtain ⟨c1, c2, c3, -⟩ := h2.views.leaf a b
    exact ⟨a, by omega, c1, c2, c3⟩
  have hids : ∀ k, imgM X.M X.n X.marked k ≠ none → k < cnt := by
    intro k hk
    unfold imgM at hk
    split at hk
    · have := sh.four; omega
    · cases hm : X.M k with
      | none => rw [hm] at hk; simp at hk
      | some p => obtain ⟨a, b, -⟩ := h2.leafs hm; omega
  refine (tx_commit hh HX h1.rest.up.down hseal (fun _ => h2.views.ok hcf) (by omega) (by omega) (by rw [h1.rest.up.len]; omega) (fun k hk => by have := hids k hk; omega) (by have := h1.rest.room; omega)).mono ?_
  rintro en w' ⟨ss, is, ib, hperm, hnd, hmem, rfl, H2⟩
  obtain ⟨es, hes⟩ : ∃ es : List Ent, (ss.map fun k => (k, (imgM X.M X.n X.marked k).getD [])) = es := ⟨_, rfl⟩
  have hssn : ss.Nodup := hperm.nodup_iff.2 hnd
  have hmss : ∀ k, k ∈ ss ↔ imgM X.M X.n X.marked k ≠ none := fun k => (hperm.mem_iff).trans (hmem k)
  have hM0 : X.M 0 = none := by
    cases hm : X.M 0 with
    | none => rfl
    | some p => have := (h2.leafs hm).1; omega
  have hn0 : 0 ∉ X.ks := fun h => (h2.keys 0).1 h hM0
  have hlen : es.length = changes tk X.marked cnt := by
    have hp : ss.Perm (if X.marked then 0 :: X.ks else X.ks) := by
      refine (List.perm_ext_iff_of_nodup hssn ?_).2 (fun k => ?_)
      · split
        · exact List.nodup_cons.2 ⟨hn0, h2.nodup⟩
        · exact h2.nodup
      · rw [hmss]
        unfold imgM
        cases X.marked
        · simp [h2.keys]
        · by_cases e : k = 0
          · simp [e]
          · simp [e, h2.keys]
    rw [← hes, List.length_map, hp.length_eq, changes, ← h2.keysN]
    cases X.marked <;> simp
  have hlast : ∀ k, lastOf es k = imgM X.M X.n X.marked k := by
    intro k
    rw [← hes, lastOf_map]
    cases hi : imgM X.M X.n X.marked k with
    | none => rw [if_neg (fun h => (hmss k).1 h hi)]
    | some b => rw [if_pos ((hmss k).2 (by rw [hi]; simp))]; rfl
  have hgood : ∀ e ∈ es, e.2.length = 512 ∧ e.1 < cnt := by
    intro e he
    rw [← hes] at he
    obtain ⟨k, hk, rfl⟩ := List.mem_map.1 he
    have hi := (hmss k).1 hk
    exact ⟨(imgM_good hseal hi).2, hids k hi⟩
  have hview : PgView cnt (pagesP es X.D.P) X.n X.v T := by
    refine ⟨?_, h2.views, fun k a b => ?_⟩
    · unfold pagesP
      rw [hlast 0]
      cases hmk : X.marked with
      | true => right; simp [imgM]
      | false =>
        rw [show imgM X.M X.n false 0 = none by simp [imgM, hM0], Option.getD_none, h2.clean hmk]
        exact h1.view.zero
    · unfold pagesP
      rw [hlast k]
      have hk0 : ¬ (k = 0 ∧ X.marked = true) := by omega
      unfold imgM
      rw [if_neg hk0]
      rcases h2.seen k a b with e | ⟨e, e2, e3⟩
      · rw [e]; rfl
      · rw [e, Option.map_none, Option.getD_none, h1.view.pages k a e2, e3]
  rw [hes] at H2 ⊢
  have hrun := commitB_run (spoilt := spoilt) (m := X.D.m) (n := X.n) (es := es) h1.rest hgood (by omega)
  generalize commitB log X.D.m X.n spoilt es X.D.l X.D.σ = R at *
  have hold : ∀ R : CRes, R.m = X.D.m → R.l = X.D.l → R.σ = X.D.σ → R.lost = false → St w0 w' (ComPs t x d X.D.b log X.mb ib R.m X.n X.marked spoilt R.lost R.l R.σ X.M (imgM X.M X.n X.marked) X.ks is ps) → St w0 w' (dbP x d N log cnt (E + 1) arm S :: staleP t x :: ps) := by
    rintro ⟨e, m, l, σ, lost⟩ rfl rfl rfl rfl hS
    have h3 := (hS.pull 4 rfl).drop.pull 4 rfl |>.drop |>.pull 3 rfl
    have h4 := St.any (F := fun q : Meta × Value × Bool × Bool => objP t (txCells x q.1 q.2.1 q.2.2.1 q.2.2.2) 67) (X.n, .map (some X.mb), X.marked, spoilt) h3
    exact dbP_mk X.D ⟨h1.rest.more (Nat.le_succ _), h1.view, h1.arm⟩ (h4.sink3.pull 2 rfl |>.pull 1 rfl)
  rw [← hlen]
  rcases hrun with ⟨r1, rfl⟩ | ⟨r1, r2, rfl⟩ | ⟨r1, r2, r3, rfl⟩ | ⟨r1, r2, r3, hr⟩
  · have hc : commitE log spoilt es.length = 9 := by unfold commitE; rw [if_pos r1]
    rw [hc]
    exact .inl ⟨rfl, by rw [if_neg (by decide)]; exact hold _ rfl rfl rfl rfl H2⟩
  · have hc : commitE log spoilt es.length = 0 := by
      unfold commitE
      rw [if_neg (by rw [r1]; decide), if_neg (fun h => by have := h.1; omega)]
    rw [hc]
    refine .inl ⟨rfl, ?_⟩
    rw [if_pos rfl]
    have hTS : T = S := by
      rw [hlen, changes] at r2
      refine h2.none (fun k => ?_) (by
        cases hm : X.marked with
        | false => rfl
        | true => rw [hm] at r2; simp at r2)
      cases ht : tk k with
      | false => rfl
      | true =>
        have hk : k ∈ X.ks := (h2.keys k).2 (by have := h2.touch k; rw [ht] at this; intro e; rw [e] at this; cases this)
        have h0 : X.ks.length = 0 := by rw [h2.keysN]; omega
        rw [List.length_eq_zero_iff.1 h0] at hk
        cases hk
    rw [hTS]
    exact hold _ rfl rfl rfl rfl H2
  · have hc : commitE log spoilt es.length = 7 := by
      unfold commitE
      rw [if_neg (by rw [r1]; decide), if_pos ⟨Nat.pos_of_ne_zero r2, r3⟩]
    rw [hc]
    exact .inl ⟨rfl, by rw [if_neg (by decide)]; exact hold _ rfl rfl rfl rfl H2⟩
  · have hc : commitE log spoilt es.length = 0 := by
      unfold commitE
      rw [if_neg (by rw [r1]; decide), if_neg (fun h => r3 h.2)]
    rw [hc, if_pos rfl]
    obtain ⟨Re, Rm, Rl, Rσ, Rlost⟩ := R
    simp only [] at hr H2 ⊢
    rcases hr with ⟨a1, a2, a3, a4, a5⟩ | ⟨a0, a1, a2, a3⟩
    · subst a1 a2 a3
      refine .inl ⟨rfl, ?_⟩
      have h3 := (H2.pull 4 rfl).drop.pull 4 rfl |>.drop |>.pull 3 rfl
      have h4 := St.any (F := fun q : Meta × Value × Bool × Bool => objP t (txCells x q.1 q.2.1 q.2.2.1 q.2.2.2) 67) (X.n, .map (some X.mb), X.marked, spoilt) h3
      exact dbP_mk ⟨X.D.b, X.n, Rl, Rσ, pagesP es X.D.P, X.v⟩ ⟨a4, hview, by simp only []; rw [a5, h1.arm]⟩ (h4.sink3.pull 2 rfl |>.pull 1 rfl)
    · subst a1
      refine .inr ⟨by rw [← h1.arm]; exact a0, by first | trivial | rfl, rfl, ?_⟩
      have h3 := (H2.pull 4 rfl).drop.pull 4 rfl |>.drop |>.pull 3 rfl |>.drop |>.drop |>.drop
      refine St.any (F := fun σ : Dk => ifP (Dn σ N ∧ Crash σ (fun img => ∃ P m v s, (s = S ∨ s = T) ∧ RecI log cnt (E + 1) P img ∧ PgView cnt P m v s)) (diskP d σ)) Rσ (St.with ⟨a2, a3.mono (fun img h => ?_)⟩ h3)
      rcases h with h | h
      · exact ⟨_, _, _, S, .inl rfl, h, h1.view⟩
      · exact ⟨_, _, _, T, .inr rfl, h, hview⟩

end
end Go.Proofs.YtnffnpndnaofhaaGreatDoor

/- A database's numbers; a transaction's count of changes; spoiling it; conditions stand in the theorems. -/
namespace Go.Proofs.YtnffnpndnaofhaaGreatDoor
open Go.RowKit
set_option maxRecDepth 100000

section
variable {w0 w : World} {ps : List HP} {x d t N log cnt E : Nat} {arm spoilt mk : Bool} {S T : PSt} {tk : Nat → Bool}

theorem db_count (H : St w0 w (dbP x d N log cnt E arm S :: ps)) :
    Calls Tryz.prog 24 #[.pointer (some ⟨x, 0, none⟩)] w fun e w' => e = .returned (.int .i64 (cnt : Int)) ∧ Pres [] w w' := by
  obtain ⟨D, ok, H⟩ := dbP_open H
  have h := pd_count H (by rw [ok.rest.up.len]; have := ok.rest.sh.fits; omega)
  rw [ok.rest.up.len, ← ok.rest.sh.div] at h
  exact h

theorem db_high (H : St w0 w (dbP x d N log cnt E arm S :: ps)) :
    Calls Tryz.prog 25 #[.pointer (some ⟨x, 0, none⟩)] w fun e w' => e = .returned (.int .i64 (S.pages.length : Int)) ∧ w = w' := by
  obtain ⟨D, ok, H⟩ := dbP_open H
  have h := pd_high H
  rw [ok.view.views.high] at h
  exact h

theorem db_frees (H : St w0 w (dbP x d N log cnt E arm S :: ps)) :
    Calls Tryz.prog 26 #[.pointer (some ⟨x, 0, none⟩)] w fun e w' => e = .returned (.int .i64 (S.freed.length : Int)) ∧ w = w' := by
  obtain ⟨D, ok, H⟩ := dbP_open H
  have h := pd_frees H
  rw [ok.view.views.count] at h
  exact h

theorem tp_count (H : St w0 w (txP x d t N log cnt E arm S T tk mk spoilt :: ps)) :
    Calls Tryz.prog 24 #[.pointer (some ⟨x, 0, none⟩)] w fun e w' => e = .returned (.int .i64 (cnt : Int)) ∧ Pres [] w w' := by
  obtain ⟨X, h1, h2, HX⟩ := txP_open H
  have h := pd_count ((HX.pull 1 rfl).pull 2 rfl |>.pull 1 rfl) (by rw [h1.rest.up.len]; have := h1.rest.sh.fits; omega)
  rw [h1.rest.up.len, ← h1.rest.sh.div] at h
  exact h

theorem tp_high (H : St w0 w (txP x d t N log cnt E arm S T tk mk spoilt :: ps)) :
    Calls Tryz.prog 25 #[.pointer (some ⟨x, 0, none⟩)] w fun e w' => e = .returned (.int .i64 (S.pages.length : Int)) ∧ w = w' := by
  obtain ⟨X, h1, h2, HX⟩ := txP_open H
  have h := pd_high (HX.pull 1 rfl)
  rw [h1.view.views.high] at h
  exact h

theorem tp_frees (H : St w0 w (txP x d t N log cnt E arm S T tk mk spoilt :: ps)) :
    Calls Tryz.prog 26 #[.pointer (some ⟨x, 0, none⟩)] w fun e w' => e = .returned (.int .i64 (S.freed.length : Int)) ∧ w = w' := by
  obtain ⟨X, h1, h2, HX⟩ := txP_open H
  have h := pd_frees (HX.pull 1 rfl)
  rw [h1.view.views.count] at h
  exact h

theorem tp_changed (H : St w0 w (txP x d t N log cnt E arm S T tk mk spoilt :: ps)) :
    Calls Tryz.prog 31 #[.pointer (some ⟨t, 0, none⟩)] w fun e w' => e = .returned (.int .i64 (changes tk mk cnt : Int)) ∧ w = w' := by
  obtain ⟨X, h1, h2, HX⟩ := txP_open H
  have h := tx_changed HX (by have := h2.few; have := h1.rest.sh.few; omega)
  rw [h2.keysN, h2.mark] at h
  exact h

theorem tp_spoil (H : St w0 w (txP x d t N log cnt E arm S T tk mk spoilt :: ps)) :
    Calls Tryz.prog 27 #[.pointer (some ⟨t, 0, none⟩)] w fun e w' => e = .returned (.tuple #[]) ∧ St w0 w' (txP x d t N log cnt E arm S T tk mk true :: ps) := by
  obtain ⟨X, h1, h2, HX⟩ := txP_open H
  refine (tx_spoil HX).mono ?_
  rintro en w' ⟨rfl, H2⟩
  exact ⟨rfl, txP_mk X h1 h2 H2⟩

end

/-- The chapter's example: what is there behind it. -/
def exS : PSt := ⟨[some (0, []), some (5, [97, 98])], [], 1, 0, 0, 0⟩

set_option maxHeartbeats 8000000 in
theorem pdb_works (w : World) (hh : HalfAt w) : Calls Tryz.prog 12 #[] w fun e w' => e = .returned (.bool true) ∧ Pres [] w w' := by
  have sh : Shape 200 40 20 := ⟨by omega, by omega, by omega, by omega, by omega⟩
  have hnew := sd_new (St.start w) 200 (by omega) (by omega)
  go_enter Tryz.func12, Tryz.ntmps12
  go_upto_region 2 with (go_at_call 9; refine hnew.mono ?_; rintro e w1 ⟨d, rfl, H1⟩)
  have H1 := coldP_new sh H1
  have hop := db_open hh H1 (by omega)
  rw [show ((40 : Nat) : Int) = 40 from rfl] at hop
  clear hnew H1
  go_upto_region 3 with (go_at_call 11; refine hop.mono ?_; rintro e w2 (⟨x, rfl, H2⟩ | ⟨h9, -⟩); rotate_left; · cases h9)
  have hct := db_count H2
  rw [show ((20 : Nat) : Int) = 20 from rfl] at hct
  clear hop
  go_upto_region 5 with (go_at_call 24; refine hct.mono ?_; rintro e w3 ⟨rfl, P3⟩)
  have H3 := H2.quiet P3
  have hbg := db_begin H3
  clear hct H2 P3
  go_upto_region 8 with (go_at_call 15; refine hbg.mono ?_; rintro e w4 ⟨t, rfl, H4⟩)
  have hal := tp_alloc hh H4
  rw [show PSt.new.alloc 20 = (1, 0, ⟨[some (0, []), some (1, [])], [], 0, 0, 0, 0⟩) from rfl] at hal
  simp only [if_true] at hal
  rw [show ((1 : Nat) : Int) = 1 from rfl] at hal
  clear hbg H3 H4
  go_upto_region 9 with (go_at_call 21; refine hal.mono ?_; rintro e w5 ⟨rfl, H5⟩)
  have hwr := tp_write hh H5 1 5 (by omega) ⟨#[97, 98]⟩
  rw [show PSt.writeE (⟨[some (0, []), some (1, [])], [], 0, 0, 0, 0⟩ : PSt) 1 5 (ByteArray.size ⟨#[97, 98]⟩) = 0 from rfl] at hwr
  simp only [if_true] at hwr
  clear hal H5
  go_upto_region 11 with (first
    | (go_at_call 22; refine hwr.mono ?_; rintro e w6 ⟨rfl, H6⟩
       have hsr := tp_setroot H6 0 1 (by omega) (by omega)
       rw [show ((0 : Nat) : Int) = 0 from rfl, show ((1 : Nat) : Int) = 1 from rfl] at hsr
       clear hwr H6)
    | (go_at_call 30; refine hsr.mono ?_; rintro e w7 ⟨rfl, H7⟩
       have hcm := tp_commit hh H7 (by omega)
       rw [show commitE 40 false (changes (tchK (tchK (fun _ => false) 1) (Int.toNat 1)) true 20) = 0 from rfl] at hcm
       simp only [if_true] at hcm
       clear hsr H7)
    | (go_at_call 20; refine hcm.mono ?_; rintro e w8 (⟨rfl, H8⟩ | ⟨h9, -⟩); rotate_left; · cases h9))
  have H9 := dbP_cold H8
  have hop := db_open hh H9 (by omega)
  rw [show ((40 : Nat) : Int) = 40 from rfl] at hop
  clear hcm H8 H9
  go_upto_region 12 with (go_at_call 11; refine hop.mono ?_; rintro e wa (⟨y, rfl, HA⟩ | ⟨h9, -⟩); rotate_left; · cases h9)
  have hbg := db_begin HA
  clear hop HA
  go_upto_region 15 with (go_at_call 15; refine hbg.mono ?_; rintro e wb ⟨u, rfl, HB⟩)
  rw [show ((⟨[some (0, []), some (1, [])], [], 0, 0, 0, 0⟩ : PSt).write (Int.toNat 1) (Int.toNat 5, [97, 98])).setRoot 0 1 = exS from rfl] at HB
  have hrd := tp_read hh HB 1 (by omega)
  rw [show exS.there 1 = 0 from rfl, show exS.page 1 = (5, [97, 98]) from rfl] at hrd
  simp only [if_true] at hrd
  rw [show ((5 : Nat) : Int) = 5 from rfl, show strV [97, 98] = .string ⟨#[97, 98]⟩ from rfl] at hrd
  clear hbg HB
  go_upto_region 16 with (go_at_call 18; refine hrd.mono ?_; rintro e wc ⟨rfl, HC⟩)
  have hrt := fun W (hW : W = wc) => hW ▸ tp_root HC 0 (by omega)
  rw [show ((0 : Nat) : Int) = 0 from rfl, show ((exS.root 0 : Nat) : Int) = 1 from rfl] at hrt
  clear hrd
  have HP := hid HC.pres
  clear HC H1
  go_wp2_with (go_at_call 29; refine (hrt _ rfl).mono ?_; rintro e wd ⟨rfl, rfl⟩)
  go_ret
  exact ⟨rfl, HP.out⟩

end Go.Proofs.YtnffnpndnaofhaaGreatDoor
