/- Parts of the proof: A transaction's calls, told in the document's words; conditions stand in the theorems. -/
import Derived.Test.YtnffnpndnaofhaaGreatDoorQai
import Derived.Test.YtnffnpndnaofhaaGreatDoorQaa

/- A transaction's calls, told in the document's words; conditions stand in the theorems. -/
namespace Go.Proofs.YtnffnpndnaofhaaGreatDoor
open Go.RowKit
set_option maxRecDepth 100000

def tchK (tk : Nat → Bool) (k : Nat) : Nat → Bool := fun j => decide (j = k) || tk j

def PSt.writeE (T : PSt) (k kind : Int) (len : Nat) : Int := if T.there k = 0 then (if kind < 1 ∨ 255 ≤ kind then 2 else if 500 < len then 3 else 0) else T.there k

/-- Alloc: the page, the error, what is there then. -/
def PSt.alloc (T : PSt) (cnt : Nat) : Nat × Int × PSt := if T.freed = [] then (if T.pages.length = cnt then (0, 7, T) else (T.pages.length, 0, T.grow)) else (T.freed.getLastD 0, 0, T.take (T.freed.getLastD 0))

def PSt.root (T : PSt) : Nat → Nat
  | 0 => T.r0
  | 1 => T.r1
  | 2 => T.r2
  | _ => T.r3

def PSt.setRoot (T : PSt) (i x : Nat) : PSt :=
  match i with
  | 0 => { T with r0 := x }
  | 1 => { T with r1 := x }
  | 2 => { T with r2 := x }
  | _ => { T with r3 := x }

theorem there_bounds {T : PSt} {k : Int} (h : T.there k = 0) : 1 ≤ k ∧ k.toNat < T.pages.length ∧ k = (k.toNat : Int) := by
  unfold PSt.there at h
  split at h
  · cases h
  · rename_i hc
    omega

section
variable {w0 w : World} {ps : List HP} {x d t N log cnt E : Nat} {arm spoilt mk : Bool} {S T : PSt} {tk : Nat → Bool}

/-- A leaf is put. -/
theorem TxOk.put {X : TxD} (h2 : TxOk cnt S T tk mk X) {k : Nat} {p : Leaf} {T' : PSt} {n' : Meta} {mk' : Bool} (hv : Views n' (putV X.v k p) T' cnt) (hk : 1 ≤ k ∧ k < n'.high) (hhi : X.n.high ≤ n'.high) (hnew : ∀ j, X.n.high ≤ j → j < n'.high → j = k) (hm : mk' = false → X.marked = false ∧ n' = X.n) :
    TxOk cnt S T' (tchK tk k) mk' { X with n := n', v := putV X.v k p, M := putM X.M k p, ks := putK X.ks k, marked := mk' } := by
  refine ⟨hv, fun j h1 h3 => ?_, fun j hj => ?_, fun h => ?_, fun h => ?_, fun j => ?_, rfl, Nat.le_trans h2.high hhi, ?_, fun j => ?_⟩
  · simp only [putM, putV]
    by_cases e : j = k
    · rw [if_pos e, if_pos e]; exact .inl rfl
    · rw [if_neg e, if_neg e]
      exact h2.seen j h1 (by
        rcases Nat.lt_or_ge j X.n.high with h | h
        · exact h
        · exact absurd (hnew j h h3) e)
  · simp only [putM] at hj ⊢
    by_cases e : j = k
    · subst e; exact hk
    · rw [if_neg e] at hj
      have := h2.ids j hj
      omega
  · have := hm h
    simp only []
    rw [this.2]
    exact h2.clean this.1
  · have := h k
    simp [tchK] at this
  · simp only [tchK, putM]
    by_cases e : j = k
    · simp [e]
    · simp [e, h2.touch j]
  · simp only [putK]
    split
    · exact h2.nodup
    · rename_i hn
      rw [List.nodup_append]
      exact ⟨h2.nodup, by simp, by intro a ha b hb e; simp at hb; subst hb; subst e; exact hn ha⟩
  · simp only [putK, putM]
    by_cases e : j = k
    · subst e
      simp only [if_true, ne_eq, reduceCtorEq, not_false_eq_true, iff_true]
      split
      · assumption
      · simp
    · rw [if_neg e, ← h2.keys j]
      split
      · exact Iff.rfl
      · simp [e]

theorem tp_read (hh : HalfAt w0) (H : St w0 w (txP x d t N log cnt E arm S T tk mk spoilt :: ps)) (k : Int) (hk : k < 9223372036854775808) :
    Calls Tryz.prog 18 #[.pointer (some ⟨t, 0, none⟩), .int .i64 k] w fun e w' => e = .returned (.tuple #[.int .i64 (if T.there k = 0 then ((T.page k).1 : Int) else 0), strV (if T.there k = 0 then (T.page k).2 else []), .int .i64 (T.there k)]) ∧ St w0 w' (txP x d t N log cnt E arm S T tk mk spoilt :: ps) := by
  obtain ⟨X, h1, h2, HX⟩ := txP_open H
  have hr := tx_read hh HX h1.rest.up.down (h2.sees h1) k hk
  obtain ⟨t1, t2⟩ := h2.views.there k
  have e : readR X.n X.v k = (if T.there k = 0 then T.page k else (0, []), T.there k) := by
    unfold readR
    rw [t1]
    by_cases h0 : T.there k = 0
    · rw [if_pos h0, if_pos h0, t2 h0, h0]
    · rw [if_neg h0, if_neg h0]
  rw [e] at hr
  refine hr.mono ?_
  rintro en w' ⟨rfl, H2⟩
  refine ⟨?_, txP_mk X h1 h2 H2⟩
  by_cases h0 : T.there k = 0 <;> simp [h0]

theorem tp_write (hh : HalfAt w0) (H : St w0 w (txP x d t N log cnt E arm S T tk mk spoilt :: ps)) (k kind : Int) (hk : k < 9223372036854775808) (s : ByteArray) :
    Calls Tryz.prog 22 #[.pointer (some ⟨t, 0, none⟩), .int .i64 k, .int .i64 kind, .string s] w fun e w' => e = .returned (.int .i64 (T.writeE k kind s.size)) ∧
      St w0 w' (txP x d t N log cnt E arm S (if T.writeE k kind s.size = 0 then T.write k.toNat (kind.toNat, s.data.toList) else T) (if T.writeE k kind s.size = 0 then tchK tk k.toNat else tk) mk spoilt :: ps) := by
  obtain ⟨X, h1, h2, HX⟩ := txP_open H
  have hfew := h2.few
  have hcf := h1.rest.sh.few
  have hw := tx_write hh HX h1.rest.up.down (h2.sees h1) k kind hk s (by omega)
  obtain ⟨t1, t2⟩ := h2.views.there k
  have e : writeR X.n X.v k kind s.size = T.writeE k kind s.size := by
    unfold writeR PSt.writeE
    rw [t1]
  rw [e] at hw
  refine hw.mono ?_
  rintro en w' ⟨rfl, H2⟩
  refine ⟨rfl, ?_⟩
  by_cases h0 : T.writeE k kind s.size = 0
  · simp only [if_pos h0] at H2 ⊢
    have ht : T.there k = 0 ∧ 1 ≤ kind ∧ kind ≤ 254 ∧ s.size ≤ 500 := by
      unfold PSt.writeE at h0
      split at h0
      · rename_i h3
        split at h0
        · cases h0
        split at h0
        · cases h0
        · exact ⟨h3, by omega, by omega, by omega⟩
      · rename_i h3; exact absurd h0 h3
    obtain ⟨b1, b2, b3⟩ := there_bounds ht.1
    have hv := h2.views.write (k := k.toNat) (p := (kind.toNat, s.data.toList)) (by rw [← b3]; exact ht.1) (by simp only []; omega) (by simp only []; omega) (by simp only []; rw [← ba_size]; exact ht.2.2.2)
    have hmk := h2.mark
    subst hmk
    exact txP_mk { X with v := putV X.v k.toNat (kind.toNat, s.data.toList), M := putM X.M k.toNat (kind.toNat, s.data.toList), ks := putK X.ks k.toNat } h1 (h2.put (mk' := X.marked) hv ⟨by omega, by rw [h2.views.high]; omega⟩ (Nat.le_refl _) (fun j a b => by omega) (fun h => ⟨h, rfl⟩)) H2
  · simp only [if_neg h0] at H2 ⊢
    exact txP_mk X h1 h2 H2


theorem tp_alloc (hh : HalfAt w0) (H : St w0 w (txP x d t N log cnt E arm S T tk mk spoilt :: ps)) :
    Calls Tryz.prog 21 #[.pointer (some ⟨t, 0, none⟩)] w fun e w' => e = .returned (.tuple #[.int .i64 ((T.alloc cnt).1 : Int), .int .i64 (T.alloc cnt).2.1]) ∧
      St w0 w' (txP x d t N log cnt E arm S (T.alloc cnt).2.2 (if (T.alloc cnt).2.1 = 0 then tchK tk (T.alloc cnt).1 else tk) (if (T.alloc cnt).2.1 = 0 then true else mk) spoilt :: ps) := by
  obtain ⟨X, h1, h2, HX⟩ := txP_open H
  have hfew := h2.few
  have hcf := h1.rest.sh.few
  have hmost := h2.views.most
  have hdiv : (X.D.σ.kept.length - log) / 8 = cnt := by rw [h1.rest.up.len]; exact h1.rest.sh.div.symm
  have hlog : log ≤ X.D.σ.kept.length := by rw [h1.rest.up.len]; have := h1.rest.sh.fits; omega
  by_cases hf : T.freed = []
  · have hfree : X.n.free = 0 := by
      have := h2.views.chain.head
      rw [hf] at this
      exact this
    by_cases hc : T.pages.length = cnt
    · have e : T.alloc cnt = (0, 7, T) := by unfold PSt.alloc; rw [if_pos hf, if_pos hc]
      rw [e]
      refine (tx_alloc_full HX h1.rest.up.down hfree hlog (by rw [hdiv, h2.views.high, hc])).mono ?_
      rintro en w' ⟨rfl, H2⟩
      exact ⟨rfl, by simpa using txP_mk X h1 h2 H2⟩
    · have e : T.alloc cnt = (T.pages.length, 0, T.grow) := by unfold PSt.alloc; rw [if_pos hf, if_neg hc]
      rw [e]
      have hgr := h2.views.grow (by omega)
      refine (tx_alloc_new HX h1.rest.up.down hfree hlog (by rw [hdiv, h2.views.high]; exact hc) (by rw [h2.views.high]; omega) (by omega)).mono ?_
      rintro en w' ⟨rfl, H2⟩
      refine ⟨by rw [h2.views.high], ?_⟩
      have hput := h2.put (mk' := true) hgr ⟨by rw [h2.views.high]; exact h2.views.pos, by simp [Meta.more]⟩ (by simp [Meta.more]) (fun j a b => by simp only [Meta.more] at b; omega) (fun h => by cases h)
      rw [h2.views.high] at hput
      simp only [if_true]
      refine txP_mk { X with n := X.n.more, v := putV X.v T.pages.length (1, []), M := putM X.M T.pages.length (1, []), ks := putK X.ks T.pages.length, marked := true } h1 hput ?_
      rw [h2.views.high] at H2
      exact H2
  · obtain ⟨r, a, hr⟩ : ∃ r a, T.freed = r ++ [a] := ⟨T.freed.dropLast, T.freed.getLast hf, (List.dropLast_concat_getLast hf).symm⟩
    have hla : T.freed.getLastD 0 = a := by rw [hr]; simp
    have e : T.alloc cnt = (a, 0, T.take a) := by unfold PSt.alloc; rw [if_neg hf, hla]
    rw [e]
    obtain ⟨t1, t2, t3, t4, nxt, t5, t6, t7⟩ := h2.views.take hr
    have hcount := (h2.views.ok hcf).count
    refine (tx_alloc_free hh HX h1.rest.up.down (h2.sees h1) (by rw [t1]; exact t2) (by rw [t1]; exact t3) (by rw [h2.views.high]; omega) nxt t5 (by rw [t1, t6]) t4 (by omega) (by omega)).mono ?_
    rintro en w' ⟨rfl, H2⟩
    refine ⟨by rw [t1], ?_⟩
    have hput := h2.put (mk' := true) t7 ⟨t2, by simpa [Meta.pop] using t3⟩ (by simp [Meta.pop]) (fun j a b => by simp only [Meta.pop] at b; omega) (fun h => by cases h)
    simp only [if_true]
    refine txP_mk { X with n := X.n.pop nxt, v := putV X.v a (1, []), M := putM X.M a (1, []), ks := putK X.ks a, marked := true } h1 hput ?_
    rw [t1] at H2
    exact H2

theorem tp_free (hh : HalfAt w0) (H : St w0 w (txP x d t N log cnt E arm S T tk mk spoilt :: ps)) (k : Int) (hk : k < 9223372036854775808) :
    Calls Tryz.prog 28 #[.pointer (some ⟨t, 0, none⟩), .int .i64 k] w fun e w' => e = .returned (.int .i64 (T.there k)) ∧
      St w0 w' (txP x d t N log cnt E arm S (if T.there k = 0 then T.free k.toNat else T) (if T.there k = 0 then tchK tk k.toNat else tk) (if T.there k = 0 then true else mk) spoilt :: ps) := by
  obtain ⟨X, h1, h2, HX⟩ := txP_open H
  have hfew := h2.few
  have hcf := h1.rest.sh.few
  have hmost := h2.views.most
  obtain ⟨t1, t2⟩ := h2.views.there k
  by_cases h0 : T.there k = 0
  · obtain ⟨b1, b2, b3⟩ := there_bounds h0
    have ok := h2.views.ok hcf
    have hf := tx_free hh HX h1.rest.up.down (h2.sees h1) k.toNat (by omega) (by rw [← b3, t1]; exact h0) ok.free (by
      have := nodup_len _ _ h2.views.nodup (fun a ha => (h2.views.mem ha).2)
      rw [h2.views.count]
      omega) (by omega)
    rw [← b3] at hf
    refine hf.mono ?_
    rintro en w' ⟨rfl, H2⟩
    rw [h0]
    refine ⟨rfl, ?_⟩
    simp only [if_true]
    have hv := h2.views.free' (k := k.toNat) (by rw [← b3]; exact h0) (by omega)
    have hput := h2.put (mk' := true) hv ⟨by omega, by simp only [Meta.push]; rw [h2.views.high]; exact b2⟩ (by simp [Meta.push]) (fun j a b => by simp only [Meta.push] at b; omega) (fun h => by cases h)
    exact txP_mk { X with n := X.n.push k.toNat, v := putV X.v k.toNat (255, numLE X.n.free 4), M := putM X.M k.toNat (255, numLE X.n.free 4), ks := putK X.ks k.toNat, marked := true } h1 hput H2
  · simp only [if_neg h0]
    have hf := tx_free_no hh HX h1.rest.up.down (h2.sees h1) k hk (by rw [t1]; exact h0)
    rw [t1] at hf
    refine hf.mono ?_
    rintro en w' ⟨rfl, H2⟩
    exact ⟨rfl, txP_mk X h1 h2 H2⟩

theorem tp_setroot (H : St w0 w (txP x d t N log cnt E arm S T tk mk spoilt :: ps)) (i v : Nat) (hi : i < 4) (hv : v < 2147483648) :
    Calls Tryz.prog 30 #[.pointer (some ⟨t, 0, none⟩), .int .i64 (i : Int), .int .i64 (v : Int)] w fun e w' => e = .returned (.int .i64 0) ∧ St w0 w' (txP x d t N log cnt E arm S (T.setRoot i v) tk true spoilt :: ps) := by
  obtain ⟨X, h1, h2, HX⟩ := txP_open H
  refine (tx_setroot HX h1.rest.up.down i v hi hv).mono ?_
  rintro en w' ⟨rfl, H2⟩
  refine ⟨rfl, txP_mk { X with n := X.n.setRoot i v, marked := true } h1 ?_ H2⟩
  have hh : (X.n.setRoot i v).high = X.n.high := by unfold Meta.setRoot; split <;> rfl
  exact ⟨h2.views.setRoot i v hv, fun k a b => h2.seen k a (by simp only [] at b; rw [hh] at b; exact b), fun k hk => by simp only []; rw [hh]; exact h2.ids k hk, (fun h => by cases h), (fun _ h => by cases h), h2.touch, rfl, by simp only []; rw [hh]; exact h2.high, h2.nodup, h2.keys⟩

theorem tp_root (H : St w0 w (txP x d t N log cnt E arm S T tk mk spoilt :: ps)) (i : Nat) (hi : i < 4) :
    Calls Tryz.prog 29 #[.pointer (some ⟨t, 0, none⟩), .int .i64 (i : Int)] w fun e w' => e = .returned (.int .i64 (T.root i : Int)) ∧ w = w' := by
  obtain ⟨X, h1, h2, HX⟩ := txP_open H
  have hr := tx_root HX h1.rest.up.down i hi
  have e : X.n.root i = T.root i := by
    match i, hi with
    | 0, _ => exact h2.views.root0
    | 1, _ => exact h2.views.root1
    | 2, _ => exact h2.views.root2
    | 3, _ => exact h2.views.root3
  rw [e] at hr
  exact hr

theorem tp_abort (H : St w0 w (txP x d t N log cnt E arm S T tk mk spoilt :: ps)) :
    Calls Tryz.prog 17 #[.pointer (some ⟨t, 0, none⟩)] w fun e w' => e = .returned (.tuple #[]) ∧ St w0 w' (dbP x d N log cnt E arm S :: staleP t x :: ps) := by
  obtain ⟨X, h1, h2, HX⟩ := txP_open H
  refine (tx_abort HX).mono ?_
  rintro en w' ⟨rfl, H2⟩
  refine ⟨rfl, ?_⟩
  have H3 := (H2.pull 3 rfl).drop
  have H4 := St.any (F := fun q : Meta × Value × Bool × Bool => objP t (txCells x q.1 q.2.1 q.2.2.1 q.2.2.2) 67) (X.n, .map (some X.mb), X.marked, spoilt) H3
  exact dbP_mk X.D h1 H4.sink3

/-- How much is changed. -/
def changes (tk : Nat → Bool) (mk : Bool) (cnt : Nat) : Nat := (List.range cnt).countP tk + (if mk then 1 else 0)

def commitE (log : Nat) (spoilt : Bool) (K : Nat) : Int := if spoilt then 9 else if 0 < K ∧ (4 + 516 * K > 65536 ∨ 4 + 516 * K + 8 > 64 * (log - 1)) then 7 else 0

theorem lastOf_map (f : Nat → List UInt8) (k : Nat) : ∀ (ss : List Nat), lastOf (ss.map fun j => (j, f j)) k = if k ∈ ss then some (f k) else none
  | [] => rfl
  | a :: ss => by
    rw [List.map_cons, lastOf_cons, lastOf_map f k ss]
    by_cases h : k ∈ ss
    · simp [h]
    · simp only [h, if_false, Option.none_or, List.mem_cons, or_false]
      by_cases e : a = k
      · subst e; simp
      · rw [if_neg e, if_neg (fun h => e h.symm)]

theorem nodup_count (tk : Nat → Bool) (n : Nat) (l : List Nat) (hn : l.Nodup) (hm : ∀ k, k ∈ l ↔ (k < n ∧ tk k = true)) : l.length = (List.range n).countP tk := by
  rw [List.countP_eq_length_filter]
  refine ((List.perm_ext_iff_of_nodup hn (List.Pairwise.filter _ List.nodup_range)).2 (fun a => ?_)).length_eq
  rw [hm, List.mem_filter, List.mem_range]

theorem TxOk.keysN {X : TxD} (h2 : TxOk cnt S T tk mk X) : X.ks.length = (List.range cnt).countP tk := by
  refine nodup_count _ _ _ h2.nodup (fun k => ?_)
  have hm := h2.views.most
  rw [← h2.views.high] at hm
  rw [h2.keys, h2.touch]
  constructor
  · intro h
    have := h2.ids k h
    exact ⟨by omega, by cases hx : X.M k with | none => exact absurd hx h | some p => rfl⟩
  · rintro ⟨-, h⟩ e
    rw [e] at h
    cases h

theorem TxOk.leafs {X : TxD} (h2 : TxOk cnt S T tk mk X) {k : Nat} {p : Leaf} (h : X.M k = some p) : 1 ≤ k ∧ k < X.n.high ∧ p = X.v k := by
  obtain ⟨a, b⟩ := h2.ids k (by rw [h]; simp)
  refine ⟨a, b, ?_⟩
  rcases h2.seen k a b with e | ⟨e, -⟩
  · rw [h] at e; exact Option.some.inj e
  · rw [h] at e; cases e

theorem tp_commit (hh : HalfAt w0) (H : St w0 w (txP x d t N log cnt E arm S T tk mk spoilt :: ps)) (hE : E < 1000000) :
    Calls Tryz.prog 20 #[.pointer (some ⟨t, 0, none⟩)] w fun e w' =>
      (e = .returned (.int .i64 (commitE log spoilt (changes tk mk cnt))) ∧ St w0 w' (dbP x d N log cnt (E + 1) arm (if commitE log spoilt (changes tk mk cnt) = 0 then T else S) :: staleP t x :: ps)) ∨
      (arm = true ∧ commitE log spoilt (changes tk mk cnt) = 0 ∧ e = .returned (.int .i64 10) ∧ St w0 w' (darkP d N log cnt (E + 1) (fun s => s = S ∨ s = T) :: ps)) := by
  obtain ⟨X, h1, h2, HX⟩ := txP_open H
  have hfew := h2.few
  have hcf := h1.rest.sh.few
  have sh := h1.rest.sh
  have hmost := h2.views.most
  have hhi := h2.views.high
  have s1 := sh.two
  have s2 := sh.fits
  have s3 := sh.most
  have hmk := h2.mark
  subst hmk
  have hseal : Sealable X.M := by
    intro k p hp
    obtain ⟨a, b, rfl⟩ := h2.leafs hp
    obtain ⟨c1, c2, c3, -⟩ := h2.views.leaf a b
    exact ⟨a, by omega, c1, c2, c3⟩
  have hids : ∀ k, imgM X.M X.n X.marked k ≠ none → k < cnt := by
    intro k hk
    unfold imgM at hk
    split at hk
    · have := sh.four; omega
    · cases hm : X.M k with
      | none => rw [hm] at hk; simp at hk
      | some p => obtain ⟨a, b, -⟩ := h2.leafs hm; omega
  refine (tx_commit hh HX h1.rest.up.down hseal (fun _ => h2.views.ok hcf) (by omega) (by omega) (by rw [h1.rest.up.len]; omega) (fun k hk => by have := hids k hk; omega) (by have := h1.rest.room; omega)).mono ?_
  rintro en w' ⟨ss, is, ib, hperm, hnd, hmem, rfl, H2⟩
  obtain ⟨es, hes⟩ : ∃ es : List Ent, (ss.map fun k => (k, (imgM X.M X.n X.marked k).getD [])) = es := ⟨_, rfl⟩
  have hssn : ss.Nodup := hperm.nodup_iff.2 hnd
  have hmss : ∀ k, k ∈ ss ↔ imgM X.M X.n X.marked k ≠ none := fun k => (hperm.mem_iff).trans (hmem k)
  have hM0 : X.M 0 = none := by
    cases hm : X.M 0 with
    | none => rfl
    | some p => have := (h2.leafs hm).1; omega
  have hn0 : 0 ∉ X.ks := fun h => (h2.keys 0).1 h hM0
  have hlen : es.length = changes tk X.marked cnt := by
    have hp : ss.Perm (if X.marked then 0 :: X.ks else X.ks) := by
      refine (List.perm_ext_iff_of_nodup hssn ?_).2 (fun k => ?_)
      · split
        · exact List.nodup_cons.2 ⟨hn0, h2.nodup⟩
        · exact h2.nodup
      · rw [hmss]
        unfold imgM
        cases X.marked
        · simp [h2.keys]
        · by_cases e : k = 0
          · simp [e]
          · simp [e, h2.keys]
    rw [← hes, List.length_map, hp.length_eq, changes, ← h2.keysN]
    cases X.marked <;> simp
  have hlast : ∀ k, lastOf es k = imgM X.M X.n X.marked k := by
    intro k
    rw [← hes, lastOf_map]
    cases hi : imgM X.M X.n X.marked k with
    | none => rw [if_neg (fun h => (hmss k).1 h hi)]
    | some b => rw [if_pos ((hmss k).2 (by rw [hi]; simp))]; rfl
  have hgood : ∀ e ∈ es, e.2.length = 512 ∧ e.1 < cnt := by
    intro e he
    rw [← hes] at he
    obtain ⟨k, hk, rfl⟩ := List.mem_map.1 he
    have hi := (hmss k).1 hk
    exact ⟨(imgM_good hseal hi).2, hids k hi⟩
  have hview : PgView cnt (pagesP es X.D.P) X.n X.v T := by
    refine ⟨?_, h2.views, fun k a b => ?_⟩
    · unfold pagesP
      rw [hlast 0]
      cases hmk : X.marked with
      | true => right; simp [imgM]
      | false =>
        rw [show imgM X.M X.n false 0 = none by simp [imgM, hM0], Option.getD_none, h2.clean hmk]
        exact h1.view.zero
    · unfold pagesP
      rw [hlast k]
      have hk0 : ¬ (k = 0 ∧ X.marked = true) := by omega
      unfold imgM
      rw [if_neg hk0]
      rcases h2.seen k a b with e | ⟨e, e2, e3⟩
      · rw [e]; rfl
      · rw [e, Option.map_none, Option.getD_none, h1.view.pages k a e2, e3]
  rw [hes] at H2 ⊢
  have hrun := commitB_run (spoilt := spoilt) (m := X.D.m) (n := X.n) (es := es) h1.rest hgood (by omega)
  generalize commitB log X.D.m X.n spoilt es X.D.l X.D.σ = R at *
  have hold : ∀ R : CRes, R.m = X.D.m → R.l = X.D.l → R.σ = X.D.σ → R.lost = false → St w0 w' (ComPs t x d X.D.b log X.mb ib R.m X.n X.marked spoilt R.lost R.l R.σ X.M (imgM X.M X.n X.marked) X.ks is ps) → St w0 w' (dbP x d N log cnt (E + 1) arm S :: staleP t x :: ps) := by
    rintro ⟨e, m, l, σ, lost⟩ rfl rfl rfl rfl hS
    have h3 := (hS.pull 4 rfl).drop.pull 4 rfl |>.drop |>.pull 3 rfl
    have h4 := St.any (F := fun q : Meta × Value × Bool × Bool => objP t (txCells x q.1 q.2.1 q.2.2.1 q.2.2.2) 67) (X.n, .map (some X.mb), X.marked, spoilt) h3
    exact dbP_mk X.D ⟨h1.rest.more (Nat.le_succ _), h1.view, h1.arm⟩ (h4.sink3.pull 2 rfl |>.pull 1 rfl)
  rw [← hlen]
  rcases hrun with ⟨r1, rfl⟩ | ⟨r1, r2, rfl⟩ | ⟨r1, r2, r3, rfl⟩ | ⟨r1, r2, r3, hr⟩
  · have hc : commitE log spoilt es.length = 9 := by unfold commitE; rw [if_pos r1]
    rw [hc]
    exact .inl ⟨rfl, by rw [if_neg (by decide)]; exact hold _ rfl rfl rfl rfl H2⟩
  · have hc : commitE log spoilt es.length = 0 := by
      unfold commitE
      rw [if_neg (by rw [r1]; decide), if_neg (fun h => by have := h.1; omega)]
    rw [hc]
    refine .inl ⟨rfl, ?_⟩
    rw [if_pos rfl]
    have hTS : T = S := by
      rw [hlen, changes] at r2
      refine h2.none (fun k => ?_) (by
        cases hm : X.marked with
        | false => rfl
        | true => rw [hm] at r2; simp at r2)
      cases ht : tk k with
      | false => rfl
      | true =>
        have hk : k ∈ X.ks := (h2.keys k).2 (by have := h2.touch k; rw [ht] at this; intro e; rw [e] at this; cases this)
        have h0 : X.ks.length = 0 := by rw [h2.keysN]; omega
        rw [List.length_eq_zero_iff.1 h0] at hk
        cases hk
    rw [hTS]
    exact hold _ rfl rfl rfl rfl H2
  · have hc : commitE log spoilt es.length = 7 := by
      unfold commitE
      rw [if_neg (by rw [r1]; decide), if_pos ⟨Nat.pos_of_ne_zero r2, r3⟩]
    rw [hc]
    exact .inl ⟨rfl, by rw [if_neg (by decide)]; exact hold _ rfl rfl rfl rfl H2⟩
  · have hc : commitE log spoilt es.length = 0 := by
      unfold commitE
      rw [if_neg (by rw [r1]; decide), if_neg (fun h => r3 h.2)]
    rw [hc, if_pos rfl]
    obtain ⟨Re, Rm, Rl, Rσ, Rlost⟩ := R
    simp only [] at hr H2 ⊢
    rcases hr with ⟨a1, a2, a3, a4, a5⟩ | ⟨a0, a1, a2, a3⟩
    · subst a1 a2 a3
      refine .inl ⟨rfl, ?_⟩
      have h3 := (H2.pull 4 rfl).drop.pull 4 rfl |>.drop |>.pull 3 rfl
      have h4 := St.any (F := fun q : Meta × Value × Bool × Bool => objP t (txCells x q.1 q.2.1 q.2.2.1 q.2.2.2) 67) (X.n, .map (some X.mb), X.marked, spoilt) h3
      exact dbP_mk ⟨X.D.b, X.n, Rl, Rσ, pagesP es X.D.P, X.v⟩ ⟨a4, hview, by simp only []; rw [a5, h1.arm]⟩ (h4.sink3.pull 2 rfl |>.pull 1 rfl)
    · subst a1
      refine .inr ⟨by rw [← h1.arm]; exact a0, by first | trivial | rfl, rfl, ?_⟩
      have h3 := (H2.pull 4 rfl).drop.pull 4 rfl |>.drop |>.pull 3 rfl |>.drop |>.drop |>.drop
      refine St.any (F := fun σ : Dk => ifP (Dn σ N ∧ Crash σ (fun img => ∃ P m v s, (s = S ∨ s = T) ∧ RecI log cnt (E + 1) P img ∧ PgView cnt P m v s)) (diskP d σ)) Rσ (St.with ⟨a2, a3.mono (fun img h => ?_)⟩ h3)
      rcases h with h | h
      · exact ⟨_, _, _, S, .inl rfl, h, h1.view⟩
      · exact ⟨_, _, _, T, .inr rfl, h, hview⟩

end
end Go.Proofs.YtnffnpndnaofhaaGreatDoor

/- A database's numbers; a transaction's count of changes; spoiling it; conditions stand in the theorems. -/
namespace Go.Proofs.YtnffnpndnaofhaaGreatDoor
open Go.RowKit
set_option maxRecDepth 100000

section
variable {w0 w : World} {ps : List HP} {x d t N log cnt E : Nat} {arm spoilt mk : Bool} {S T : PSt} {tk : Nat → Bool}

theorem db_count (H : St w0 w (dbP x d N log cnt E arm S :: ps)) :
    Calls Tryz.prog 24 #[.pointer (some ⟨x, 0, none⟩)] w fun e w' => e = .returned (.int .i64 (cnt : Int)) ∧ Pres [] w w' := by
  obtain ⟨D, ok, H⟩ := dbP_open H
  have h := pd_count H (by rw [ok.rest.up.len]; have := ok.rest.sh.fits; omega)
  rw [ok.rest.up.len, ← ok.rest.sh.div] at h
  exact h

theorem db_high (H : St w0 w (dbP x d N log cnt E arm S :: ps)) :
    Calls Tryz.prog 25 #[.pointer (some ⟨x, 0, none⟩)] w fun e w' => e = .returned (.int .i64 (S.pages.length : Int)) ∧ w = w' := by
  obtain ⟨D, ok, H⟩ := dbP_open H
  have h := pd_high H
  rw [ok.view.views.high] at h
  exact h

theorem db_frees (H : St w0 w (dbP x d N log cnt E arm S :: ps)) :
    Calls Tryz.prog 26 #[.pointer (some ⟨x, 0, none⟩)] w fun e w' => e = .returned (.int .i64 (S.freed.length : Int)) ∧ w = w' := by
  obtain ⟨D, ok, H⟩ := dbP_open H
  have h := pd_frees H
  rw [ok.view.views.count] at h
  exact h

theorem tp_count (H : St w0 w (txP x d t N log cnt E arm S T tk mk spoilt :: ps)) :
    Calls Tryz.prog 24 #[.pointer (some ⟨x, 0, none⟩)] w fun e w' => e = .returned (.int .i64 (cnt : Int)) ∧ Pres [] w w' := by
  obtain ⟨X, h1, h2, HX⟩ := txP_open H
  have h := pd_count ((HX.pull 1 rfl).pull 2 rfl |>.pull 1 rfl) (by rw [h1.rest.up.len]; have := h1.rest.sh.fits; omega)
  rw [h1.rest.up.len, ← h1.rest.sh.div] at h
  exact h

theorem tp_high (H : St w0 w (txP x d t N log cnt E arm S T tk mk spoilt :: ps)) :
    Calls Tryz.prog 25 #[.pointer (some ⟨x, 0, none⟩)] w fun e w' => e = .returned (.int .i64 (S.pages.length : Int)) ∧ w = w' := by
  obtain ⟨X, h1, h2, HX⟩ := txP_open H
  have h := pd_high (HX.pull 1 rfl)
  rw [h1.view.views.high] at h
  exact h

theorem tp_frees (H : St w0 w (txP x d t N log cnt E arm S T tk mk spoilt :: ps)) :
    Calls Tryz.prog 26 #[.pointer (some ⟨x, 0, none⟩)] w fun e w' => e = .returned (.int .i64 (S.freed.length : Int)) ∧ w = w' := by
  obtain ⟨X, h1, h2, HX⟩ := txP_open H
  have h := pd_frees (HX.pull 1 rfl)
  rw [h1.view.views.count] at h
  exact h

theorem tp_changed (H : St w0 w (txP x d t N log cnt E arm S T tk mk spoilt :: ps)) :
    Calls Tryz.prog 31 #[.pointer (some ⟨t, 0, none⟩)] w fun e w' => e = .returned (.int .i64 (changes tk mk cnt : Int)) ∧ w = w' := by
  obtain ⟨X, h1, h2, HX⟩ := txP_open H
  have h := tx_changed HX (by have := h2.few; have := h1.rest.sh.few; omega)
  rw [h2.keysN, h2.mark] at h
  exact h

theorem tp_spoil (H : St w0 w (txP x d t N log cnt E arm S T tk mk spoilt :: ps)) :
    Calls Tryz.prog 27 #[.pointer (some ⟨t, 0, none⟩)] w fun e w' => e = .returned (.tuple #[]) ∧ St w0 w' (txP x d t N log cnt E arm S T tk mk true :: ps) := by
  obtain ⟨X, h1, h2, HX⟩ := txP_open H
  refine (tx_spoil HX).mono ?_
  rintro en w' ⟨rfl, H2⟩
  exact ⟨rfl, txP_mk X h1 h2 H2⟩

end

/-- The chapter's example: what is there behind it. -/
def exS : PSt := ⟨[some (0, []), some (5, [97, 98])], [], 1, 0, 0, 0⟩

set_option maxHeartbeats 8000000 in
theorem pdb_works (w : World) (hh : HalfAt w) : Calls Tryz.prog 12 #[] w fun e w' => e = .returned (.bool true) ∧ Pres [] w w' := by
  have sh : Shape 200 40 20 := ⟨by omega, by omega, by omega, by omega, by omega⟩
  have hnew := sd_new (St.start w) 200 (by omega) (by omega)
  go_enter Tryz.func12, Tryz.ntmps12
  go_upto_region 2 with (go_at_call 9; refine hnew.mono ?_; rintro e w1 ⟨d, rfl, H1⟩)
  have H1 := coldP_new sh H1
  have hop := db_open hh H1 (by omega)
  rw [show ((40 : Nat) : Int) = 40 from rfl] at hop
  clear hnew H1
  go_upto_region 3 with (go_at_call 11; refine hop.mono ?_; rintro e w2 (⟨x, rfl, H2⟩ | ⟨h9, -⟩); rotate_left; · cases h9)
  have hct := db_count H2
  rw [show ((20 : Nat) : Int) = 20 from rfl] at hct
  clear hop
  go_upto_region 5 with (go_at_call 24; refine hct.mono ?_; rintro e w3 ⟨rfl, P3⟩)
  have H3 := H2.quiet P3
  have hbg := db_begin H3
  clear hct H2 P3
  go_upto_region 8 with (go_at_call 15; refine hbg.mono ?_; rintro e w4 ⟨t, rfl, H4⟩)
  have hal := tp_alloc hh H4
  rw [show PSt.new.alloc 20 = (1, 0, ⟨[some (0, []), some (1, [])], [], 0, 0, 0, 0⟩) from rfl] at hal
  simp only [if_true] at hal
  rw [show ((1 : Nat) : Int) = 1 from rfl] at hal
  clear hbg H3 H4
  go_upto_region 9 with (go_at_call 21; refine hal.mono ?_; rintro e w5 ⟨rfl, H5⟩)
  have hwr := tp_write hh H5 1 5 (by omega) ⟨#[97, 98]⟩
  rw [show PSt.writeE (⟨[some (0, []), some (1, [])], [], 0, 0, 0, 0⟩ : PSt) 1 5 (ByteArray.size ⟨#[97, 98]⟩) = 0 from rfl] at hwr
  simp only [if_true] at hwr
  clear hal H5
  go_upto_region 11 with (first
    | (go_at_call 22; refine hwr.mono ?_; rintro e w6 ⟨rfl, H6⟩
       have hsr := tp_setroot H6 0 1 (by omega) (by omega)
       rw [show ((0 : Nat) : Int) = 0 from rfl, show ((1 : Nat) : Int) = 1 from rfl] at hsr
       clear hwr H6)
    | (go_at_call 30; refine hsr.mono ?_; rintro e w7 ⟨rfl, H7⟩
       have hcm := tp_commit hh H7 (by omega)
       rw [show commitE 40 false (changes (tchK (tchK (fun _ => false) 1) (Int.toNat 1)) true 20) = 0 from rfl] at hcm
       simp only [if_true] at hcm
       clear hsr H7)
    | (go_at_call 20; refine hcm.mono ?_; rintro e w8 (⟨rfl, H8⟩ | ⟨h9, -⟩); rotate_left; · cases h9))
  have H9 := dbP_cold H8
  have hop := db_open hh H9 (by omega)
  rw [show ((40 : Nat) : Int) = 40 from rfl] at hop
  clear hcm H8 H9
  go_upto_region 12 with (go_at_call 11; refine hop.mono ?_; rintro e wa (⟨y, rfl, HA⟩ | ⟨h9, -⟩); rotate_left; · cases h9)
  have hbg := db_begin HA
  clear hop HA
  go_upto_region 15 with (go_at_call 15; refine hbg.mono ?_; rintro e wb ⟨u, rfl, HB⟩)
  rw [show ((⟨[some (0, []), some (1, [])], [], 0, 0, 0, 0⟩ : PSt).write (Int.toNat 1) (Int.toNat 5, [97, 98])).setRoot 0 1 = exS from rfl] at HB
  have hrd := tp_read hh HB 1 (by omega)
  rw [show exS.there 1 = 0 from rfl, show exS.page 1 = (5, [97, 98]) from rfl] at hrd
  simp only [if_true] at hrd
  rw [show ((5 : Nat) : Int) = 5 from rfl, show strV [97, 98] = .string ⟨#[97, 98]⟩ from rfl] at hrd
  clear hbg HB
  go_upto_region 16 with (go_at_call 18; refine hrd.mono ?_; rintro e wc ⟨rfl, HC⟩)
  have hrt := fun W (hW : W = wc) => hW ▸ tp_root HC 0 (by omega)
  rw [show ((0 : Nat) : Int) = 0 from rfl, show ((exS.root 0 : Nat) : Int) = 1 from rfl] at hrt
  clear hrd
  have HP := hid HC.pres
  clear HC H1
  go_wp2_with (go_at_call 29; refine (hrt _ rfl).mono ?_; rintro e wd ⟨rfl, rfl⟩)
  go_ret
  exact ⟨rfl, HP.out⟩

end Go.Proofs.YtnffnpndnaofhaaGreatDoor

/- Databases and transactions that no call made, and transactions that are over: what each call answers; conditions stand in the theorems. -/
namespace Go.Proofs.YtnffnpndnaofhaaGreatDoor
open Go.RowKit
set_option maxRecDepth 100000

def NoDb (w : World) (v : Value) : Prop := v = .pointer none ∨ ∃ x, v = .pointer (some ⟨x, 0, none⟩) ∧ w.cell? ⟨x, 0, none⟩ = some (.pointer none)

def NoTx (w : World) (v : Value) : Prop := v = .pointer none ∨ ∃ t, v = .pointer (some ⟨t, 0, none⟩) ∧
  (w.cell? ⟨t, 0, none⟩ = some (.pointer none) ∨ ∃ x, w.cell? ⟨t, 0, none⟩ = some (.pointer (some ⟨x, 0, none⟩)) ∧ w.cell? ⟨x, 10, none⟩ = some (.pointer none))

theorem NoTx.pres {w w' : World} {v : Value} (h : NoTx w v) (hp : Pres [] w w') : NoTx w' v := by
  rcases h with h | ⟨t, h, h2⟩
  · exact .inl h
  · refine .inr ⟨t, h, ?_⟩
    rcases h2 with h2 | ⟨x, h2, h3⟩
    · exact .inl (hp.cell h2 (by simp))
    · exact .inr ⟨x, hp.cell h2 (by simp), hp.cell h3 (by simp)⟩

theorem NoDb.pres {w w' : World} {v : Value} (h : NoDb w v) (hp : Pres [] w w') : NoDb w' v := by
  rcases h with h | ⟨x, h, h2⟩
  · exact .inl h
  · exact .inr ⟨x, h, hp.cell h2 (by simp)⟩

theorem nodb_none {w : World} {v : Value} (h : NoDb w v) : Calls Tryz.prog 61 #[v] w fun e w' => e = .returned (.bool true) ∧ w = w' := by
  rcases h with rfl | ⟨x, rfl, c0⟩
  all_goals
    go_enter Tryz.func61, Tryz.ntmps61
    go_wp2
    go_ret
    exact ⟨rfl, rfl⟩

theorem nodb_up {w : World} {v : Value} (h : NoDb w v) : Calls Tryz.prog 50 #[v] w fun e w' => e = .returned (.int .i64 1) ∧ w = w' := by
  have hn := fun W (hW : W = w) => hW ▸ nodb_none h
  clear h
  go_enter Tryz.func50, Tryz.ntmps50
  go_wp2_with (go_at_call 61; refine (hn _ rfl).mono ?_; rintro e w' ⟨rfl, rfl⟩)
  go_ret
  exact ⟨rfl, rfl⟩

theorem nodb_begin {w : World} {v : Value} (h : NoDb w v) : Calls Tryz.prog 15 #[v] w fun e w' => e = .returned (.tuple #[.pointer none, .int .i64 1]) ∧ w = w' := by
  have hn := fun W (hW : W = w) => hW ▸ nodb_up h
  clear h
  go_enter Tryz.func15, Tryz.ntmps15
  go_wp2_with (go_at_call 50; refine (hn _ rfl).mono ?_; rintro e w' ⟨rfl, rfl⟩)
  go_ret2
  exact ⟨rfl, rfl⟩

theorem nodb_checkpoint {w : World} {v : Value} (h : NoDb w v) : Calls Tryz.prog 23 #[v] w fun e w' => e = .returned (.int .i64 1) ∧ w = w' := by
  have hn := fun W (hW : W = w) => hW ▸ nodb_up h
  clear h
  go_enter Tryz.func23, Tryz.ntmps23
  go_wp2_with (go_at_call 50; refine (hn _ rfl).mono ?_; rintro e w' ⟨rfl, rfl⟩)
  go_ret
  exact ⟨rfl, rfl⟩

theorem nodb_count {w : World} {v : Value} (h : NoDb w v) : Calls Tryz.prog 24 #[v] w fun e w' => e = .returned (.int .i64 0) ∧ w = w' := by
  have hn := fun W (hW : W = w) => hW ▸ nodb_none h
  clear h
  go_enter Tryz.func24, Tryz.ntmps24
  go_wp2_with (go_at_call 61; refine (hn _ rfl).mono ?_; rintro e w' ⟨rfl, rfl⟩)
  go_ret
  exact ⟨rfl, rfl⟩

theorem nodb_high {w : World} {v : Value} (h : NoDb w v) : Calls Tryz.prog 25 #[v] w fun e w' => e = .returned (.int .i64 0) ∧ w = w' := by
  have hn := fun W (hW : W = w) => hW ▸ nodb_none h
  clear h
  go_enter Tryz.func25, Tryz.ntmps25
  go_wp2_with (go_at_call 61; refine (hn _ rfl).mono ?_; rintro e w' ⟨rfl, rfl⟩)
  go_ret
  exact ⟨rfl, rfl⟩

theorem nodb_free {w : World} {v : Value} (h : NoDb w v) : Calls Tryz.prog 26 #[v] w fun e w' => e = .returned (.int .i64 0) ∧ w = w' := by
  have hn := fun W (hW : W = w) => hW ▸ nodb_none h
  clear h
  go_enter Tryz.func26, Tryz.ntmps26
  go_wp2_with (go_at_call 61; refine (hn _ rfl).mono ?_; rintro e w' ⟨rfl, rfl⟩)
  go_ret
  exact ⟨rfl, rfl⟩

theorem ptr_nilIn (W : World) (t d : Nat) : (Op.equalIn (d + 1) 40 (.pointer none) (.pointer (some ⟨t, 0, none⟩))).run Tryz.prog W = .ok false W := by
  simp [Op.equalIn, run_underlying Tryz.underlying40]

theorem ptr_nil (W : World) (t : Nat) : (Op.equal 40 (.pointer none) (.pointer (some ⟨t, 0, none⟩))).run Tryz.prog W = .ok false W := ptr_nilIn W t 9999

theorem ptr_neq_nil (W : World) (t : Nat) : (binOp .neq 40 (.pointer none) (.pointer (some ⟨t, 0, none⟩))).run Tryz.prog W = .ok (.bool true) W := by
  simp only [binOp]
  simp [ptr_nil W t]

theorem no_up {w : World} {v : Value} (h : NoTx w v) : Calls Tryz.prog 53 #[v] w fun e w' => e = .returned (.int .i64 1) ∧ w = w' := by
  rcases h with rfl | ⟨t, rfl, c0 | ⟨x, c0, c10⟩⟩
  · go_enter Tryz.func53, Tryz.ntmps53
    go_wp2
    go_ret
    exact ⟨rfl, rfl⟩
  · go_enter Tryz.func53, Tryz.ntmps53
    go_wp2
    go_ret
    exact ⟨rfl, rfl⟩
  · have hpp := fun W => ptr_neq_nil W t
    go_enter Tryz.func53, Tryz.ntmps53
    go_wp2
    go_ret
    exact ⟨rfl, rfl⟩

theorem no_there {w : World} {v : Value} (h : NoTx w v) (k : Int) : Calls Tryz.prog 52 #[v, .int .i64 k] w fun e w' => e = .returned (.tuple #[.agg #[.int .i64 0, .string ⟨#[]⟩], .int .i64 1]) ∧ Pres [] w w' := by
  have H1 := hid ((St.start w).alloc [.int .i64 0, .string ⟨#[]⟩] 101)
  have hn := fun W (hW : W = w.alloc (.cells #[.int .i64 0, .string ⟨#[]⟩] 101)) => hW ▸ no_up (h.pres H1.out.pres)
  clear h
  go_enter Tryz.func52, Tryz.ntmps52
  go_upto_region 3 with (go_at_call 53; refine (hn _ rfl).mono ?_; rintro e w' ⟨rfl, rfl⟩)
  go_wp2
  (try simp only [Exit.inBlock, Exit.then])
  refine bodyPost_ret (results_cell_at (cs := [.int .i64 0, .string ⟨#[]⟩]) rfl rfl leaf_agg leaf_size (H1.out.obj 0 rfl)) rfl ?_
  exact ⟨rfl, H1.out.pres⟩

theorem no_read {w : World} {v : Value} (h : NoTx w v) (k : Int) : Calls Tryz.prog 18 #[v, .int .i64 k] w fun e w' => e = .returned (.tuple #[.int .i64 0, .string ⟨#[]⟩, .int .i64 1]) ∧ Pres [] w w' := by
  have hn := no_there h k
  clear h
  go_enter Tryz.func18, Tryz.ntmps18
  go_upto_region 2 with (go_at_call 52; refine hn.mono ?_; rintro e w2 ⟨rfl, P2⟩)
  have P3 := hid (P2.alloc (.cells #[.int .i64 0, .string ⟨#[]⟩] 101))
  clear hn P2
  go_wp2
  go_ret3
  exact ⟨rfl, P3.out⟩

theorem no_write {w : World} {v : Value} (h : NoTx w v) (k kd : Int) (s : Value) : Calls Tryz.prog 22 #[v, .int .i64 k, .int .i64 kd, s] w fun e w' => e = .returned (.int .i64 1) ∧ Pres [] w w' := by
  have hn := no_there h k
  clear h
  go_enter Tryz.func22, Tryz.ntmps22
  go_upto_region 2 with (go_at_call 52; refine hn.mono ?_; rintro e w2 ⟨rfl, P2⟩)
  have P3 := hid (P2.alloc (.cells #[.int .i64 0, .string ⟨#[]⟩] 101))
  clear hn P2
  go_wp2
  go_ret
  exact ⟨rfl, P3.out⟩

theorem no_free {w : World} {v : Value} (h : NoTx w v) (k : Int) : Calls Tryz.prog 28 #[v, .int .i64 k] w fun e w' => e = .returned (.int .i64 1) ∧ Pres [] w w' := by
  have hn := no_there h k
  clear h
  go_enter Tryz.func28, Tryz.ntmps28
  go_upto_region 2 with (go_at_call 52; refine hn.mono ?_; rintro e w2 ⟨rfl, P2⟩)
  have P3 := hid (P2.alloc (.cells #[.int .i64 0, .string ⟨#[]⟩] 101))
  clear hn P2
  go_wp2
  go_ret
  exact ⟨rfl, P3.out⟩

theorem no_alloc {w : World} {v : Value} (h : NoTx w v) : Calls Tryz.prog 21 #[v] w fun e w' => e = .returned (.tuple #[.int .i64 0, .int .i64 1]) ∧ w = w' := by
  have hn := fun W (hW : W = w) => hW ▸ no_up h
  clear h
  go_enter Tryz.func21, Tryz.ntmps21
  go_wp2_with (go_at_call 53; refine (hn _ rfl).mono ?_; rintro e w' ⟨rfl, rfl⟩)
  go_ret2
  exact ⟨rfl, rfl⟩

theorem no_root {w : World} {v : Value} (h : NoTx w v) (i : Int) : Calls Tryz.prog 29 #[v, .int .i64 i] w fun e w' => e = .returned (.int .i64 0) ∧ w = w' := by
  have hn := fun W (hW : W = w) => hW ▸ no_up h
  clear h
  go_enter Tryz.func29, Tryz.ntmps29
  go_wp2_with (go_at_call 53; refine (hn _ rfl).mono ?_; rintro e w' ⟨rfl, rfl⟩)
  go_ret
  exact ⟨rfl, rfl⟩

theorem no_setroot {w : World} {v : Value} (h : NoTx w v) (i n : Int) : Calls Tryz.prog 30 #[v, .int .i64 i, .int .i64 n] w fun e w' => e = .returned (.int .i64 1) ∧ w = w' := by
  have hn := fun W (hW : W = w) => hW ▸ no_up h
  clear h
  go_enter Tryz.func30, Tryz.ntmps30
  go_wp2_with (go_at_call 53; refine (hn _ rfl).mono ?_; rintro e w' ⟨rfl, rfl⟩)
  go_ret
  exact ⟨rfl, rfl⟩

theorem no_commit {w : World} {v : Value} (h : NoTx w v) : Calls Tryz.prog 20 #[v] w fun e w' => e = .returned (.int .i64 1) ∧ w = w' := by
  have hn := fun W (hW : W = w) => hW ▸ no_up h
  clear h
  go_enter Tryz.func20, Tryz.ntmps20
  go_wp2_with (go_at_call 53; refine (hn _ rfl).mono ?_; rintro e w' ⟨rfl, rfl⟩)
  go_ret
  exact ⟨rfl, rfl⟩

theorem no_changed {w : World} {v : Value} (h : NoTx w v) : Calls Tryz.prog 31 #[v] w fun e w' => e = .returned (.int .i64 0) ∧ w = w' := by
  rcases h with rfl | ⟨t, rfl, c0 | ⟨x, c0, c10⟩⟩
  · go_enter Tryz.func31, Tryz.ntmps31
    go_wp2
    go_ret
    exact ⟨rfl, rfl⟩
  · go_enter Tryz.func31, Tryz.ntmps31
    go_wp2
    go_ret
    exact ⟨rfl, rfl⟩
  · have hpp := fun W => ptr_neq_nil W t
    go_enter Tryz.func31, Tryz.ntmps31
    go_wp2
    go_ret
    exact ⟨rfl, rfl⟩

theorem ptr_eql_nil (W : World) (t : Nat) : (binOp .eql 40 (.pointer none) (.pointer (some ⟨t, 0, none⟩))).run Tryz.prog W = .ok (.bool false) W := by
  simp only [binOp]
  simp [ptr_nil W t]

theorem no_abort {w : World} {v : Value} (h : NoTx w v) : Calls Tryz.prog 17 #[v] w fun e w' => e = .returned (.tuple #[]) ∧ w = w' := by
  rcases h with rfl | ⟨t, rfl, c0 | ⟨x, c0, c10⟩⟩
  · go_enter Tryz.func17, Tryz.ntmps17
    go_wp2
    go_end0
    exact ⟨rfl, rfl⟩
  · go_enter Tryz.func17, Tryz.ntmps17
    go_wp2
    go_end0
    exact ⟨rfl, rfl⟩
  · have hpp := fun W => ptr_eql_nil W t
    go_enter Tryz.func17, Tryz.ntmps17
    go_wp2
    go_end0
    exact ⟨rfl, rfl⟩

theorem no_spoil (w : World) : Calls Tryz.prog 27 #[.pointer none] w fun e w' => e = .returned (.tuple #[]) ∧ w = w' := by
  go_enter Tryz.func27, Tryz.ntmps27
  go_wp2
  go_end0
  exact ⟨rfl, rfl⟩

end Go.Proofs.YtnffnpndnaofhaaGreatDoor

/- aquiferlaw10.state: what a database has, as a transaction tells it; conditions stand in the theorem. -/
namespace Go.Proofs.YtnffnpndnaofhaaGreatDoor
open Go.RowKit
set_option maxRecDepth 100000

def pageCells : Option Leaf → List Value
  | some p => [.int .i64 (p.1 : Int), strV p.2, .bool false]
  | none => [.int .i64 0, .string ⟨#[]⟩, .bool true]

def numV (n : Nat) : Value := .int .i64 (n : Int)

theorem pageCells_length (p : Option Leaf) : (pageCells p).length = 3 := by cases p <;> rfl

theorem pageCells_one {l : List (Option Leaf)} : ∀ u ∈ l.flatMap pageCells, u.oneCell' = true := by
  intro u hu
  obtain ⟨q, -, hq⟩ := List.mem_flatMap.1 hu
  cases q <;> simp only [pageCells, List.mem_cons, List.not_mem_nil, or_false] at hq <;> rcases hq with rfl | rfl | rfl <;> rfl

/-- A state in memory: pages, pages that came free, roots. -/
def statP (pv fv rv : Value) (S : PSt) : HP :=
  packP [slP pv 54 3 S.pages.length (S.pages.flatMap pageCells), slP fv 3 1 S.freed.length (S.freed.map numV), slP rv 3 1 4 [numV S.r0, numV S.r1, numV S.r2, numV S.r3]]

theorem page_size : (Tryz.prog.info? 54).map (·.size) = some 3 := by kernel_rfl
theorem page_zero : (Tryz.prog.info? 54).bind (·.zero) = some (.agg #[.int .i64 0, .string ⟨#[]⟩, .bool false]) := by kernel_rfl
theorem page_agg : IsAgg Tryz.prog 54 := ⟨_, Tryz.underlying54, rfl⟩
theorem state_agg : IsAgg Tryz.prog 37 := ⟨_, Tryz.underlying37, rfl⟩
theorem state_size : (Tryz.prog.info? 37).map (·.size) = some 3 := by kernel_rfl
theorem info_page : ∃ i, Tryz.prog.info? 54 = some i ∧ i.zero = some (.agg #[.int .i64 0, .string ⟨#[]⟩, .bool false]) ∧ i.size = 3 ∧ i.bytes = 32 := by
  obtain ⟨i, h1, h2, h3, h4⟩ := info_of (P := Tryz.prog) (t := 54) (n := 3) (b := 32) (zs := [.int .i64 0, .string ⟨#[]⟩, .bool false]) (by kernel_rfl)
  exact ⟨i, h1, h2, h3, h4⟩

/-- At the head of a round of the first loop: k pages are told. -/
def StateAt (w0 wr : World) (ps : List HP) (x d t N log cnt E : Nat) (arm : Bool) (S : PSt) (rv : Value) (sb rb k : Nat) : Prop :=
  ∃ pv, St w0 wr (txP x d t N log cnt E arm S S (fun _ => false) false false :: objP sb [pv, .slice none 0 0, rv] 37 :: slP pv 54 3 k ((S.pages.take k).flatMap pageCells) :: slP rv 3 1 4 [numV S.r0, numV S.r1, numV S.r2, numV S.r3] :: objP rb [.slice none 0 0, .slice none 0 0, .slice none 0 0] 37 :: ps)

theorem there_some {S : PSt} {k : Nat} {p : Leaf} (h1 : 1 ≤ k) (h : S.pages[k]? = some (some p)) : S.there (k : Int) = 0 ∧ S.page (k : Int) = p := by
  have hl := (List.getElem?_eq_some_iff.1 h).1
  unfold PSt.there PSt.page
  rw [if_neg (by omega), Int.toNat_natCast, h, if_neg (by simp)]
  exact ⟨rfl, rfl⟩

theorem there_none {S : PSt} {k : Nat} (h1 : 1 ≤ k) (h : S.pages[k]? = some none) : S.there (k : Int) = 8 := by
  have hl := (List.getElem?_eq_some_iff.1 h).1
  unfold PSt.there
  rw [if_neg (by omega), Int.toNat_natCast, if_pos h]

theorem info_intS : ∃ i, Tryz.prog.info? 3 = some i ∧ i.zero = some (.int .i64 0) ∧ i.size = 1 ∧ i.bytes = 8 := by
  obtain ⟨i, h1, h2, h3, h4⟩ := info_parts (P := Tryz.prog) (show (Tryz.prog.info? 3).map (fun i => (i.zero, i.size, i.bytes)) = some (some (.int .i64 0), 1, 8) by kernel_rfl)
  exact ⟨i, h1, h2, h3, h4⟩

theorem nums_one {l : List Nat} : ∀ u ∈ l.map numV, u.oneCell' = true := by
  intro u hu
  obtain ⟨q, -, rfl⟩ := List.mem_map.1 hu
  rfl

/-- At the head of a round of the second loop: j pages that came free are told, the newest first. -/
def StateBt (w0 wr : World) (ps : List HP) (x d t N log cnt E : Nat) (arm : Bool) (S : PSt) (pv rv : Value) (sb rb F j : Nat) : Prop :=
  ∃ fv T tk mk, T.freed = S.freed.take (F - j) ∧ St w0 wr (txP x d t N log cnt E arm S T tk mk false :: objP sb [pv, fv, rv] 37 :: slP fv 3 1 j ((S.freed.drop (F - j)).map numV) :: slP pv 54 3 S.pages.length (S.pages.flatMap pageCells) :: slP rv 3 1 4 [numV S.r0, numV S.r1, numV S.r2, numV S.r3] :: objP rb [.slice none 0 0, .slice none 0 0, .slice none 0 0] 37 :: ps)

section
variable {w0 w : World} {ps : List HP} {x d N log cnt E : Nat} {arm : Bool} {S : PSt}

set_option maxHeartbeats 8000000 in
theorem law_state (hh : HalfAt w0) (H : St w0 w (dbP x d N log cnt E arm S :: ps)) :
    Calls Tryz.prog 14 #[.pointer (some ⟨x, 0, none⟩)] w fun e w' => ∃ pv fv rv, e = .returned (.tuple #[.agg #[pv, fv, rv], .bool true]) ∧ St w0 w' (statP pv fv rv S :: dbP x d N log cnt E arm S :: ps) := by
  obtain ⟨D, ok, -⟩ := dbP_open H
  have hcf := ok.rest.sh.few
  have hV := hid ok.view.views
  have hmost := ok.view.views.most
  have H0 := (H.alloc [.slice none 0 0, .slice none 0 0, .slice none 0 0] 37).pull 1 rfl
  have hbg := db_begin H0
  clear H H0 ok
  obtain ⟨Post, hPost⟩ : ∃ Post : Ending → World → Prop, Hid (Post = fun e w' => ∃ pv fv rv, e = .returned (.tuple #[.agg #[pv, fv, rv], .bool true]) ∧ St w0 w' (statP pv fv rv S :: dbP x d N log cnt E arm S :: ps)) := ⟨_, hid rfl⟩
  rw [← hPost.out]
  go_enter Tryz.func14, Tryz.ntmps14
  go_upto_region 4 with (go_at_call 15; refine hbg.mono ?_; rintro e w1 ⟨t, rfl, H1⟩)
  have H1 := hid H1
  clear hbg
  generalize w.heap.size = rb at *
  have A2 := At.new w1 [.int .i64 0, .string ⟨#[]⟩, .bool false] 54
  have H2 := hid (H1.out.slice (v := .slice (some ⟨w1.heap.size, 0, none⟩) 1 1) (E := 54) (sz := 3) (n := 1) (xs := [.int .i64 0, .string ⟨#[]⟩, .bool false]) ⟨rfl, .inr ⟨_, 1, _, rfl, A2, Nat.le_refl _, by simp [maxLen], rfl, rfl⟩⟩ ((Pres.refl [] w1).alloc _) (by simp [fpv]))
  have hr := fun W (hW : St w0 W (txP x d t N log cnt E arm S S (fun _ => false) false false :: slP (.slice (some ⟨w1.heap.size, 0, none⟩) 1 1) 54 3 1 [.int .i64 0, .string ⟨#[]⟩, .bool false] :: objP rb [.slice none 0 0, .slice none 0 0, .slice none 0 0] 37 :: ps)) =>
    (show (Calls Tryz.prog 29 #[.pointer (some ⟨t, 0, none⟩), .int .i64 0] W fun e w' => e = .returned (.int .i64 (S.r0 : Int)) ∧ W = w') ∧ (Calls Tryz.prog 29 #[.pointer (some ⟨t, 0, none⟩), .int .i64 1] W fun e w' => e = .returned (.int .i64 (S.r1 : Int)) ∧ W = w') ∧ (Calls Tryz.prog 29 #[.pointer (some ⟨t, 0, none⟩), .int .i64 2] W fun e w' => e = .returned (.int .i64 (S.r2 : Int)) ∧ W = w') ∧ (Calls Tryz.prog 29 #[.pointer (some ⟨t, 0, none⟩), .int .i64 3] W fun e w' => e = .returned (.int .i64 (S.r3 : Int)) ∧ W = w') from
      ⟨tp_root hW 0 (by omega), tp_root hW 1 (by omega), tp_root hW 2 (by omega), tp_root hW 3 (by omega)⟩)
  have H2 := hid (H2.out.pull 1 rfl)
  have hr := hr _ H2.out
  go_wp2_with ((with_reducible refine at_slit ?_); refine wpList_plain rfl fun K hK => wp_value (run_slit_one (n := 3) (v := .agg #[.int .i64 0, .string ⟨#[]⟩, .bool false]) rfl rfl Tryz.underlying34 page_size page_zero rfl (by omega) (by omega) rfl) (hK _ _ ?_); clear hK K)
  refine hr.1.mono ?_
  rintro e wr ⟨rfl, rfl⟩
  go_wp2_with fail
  refine hr.2.1.mono ?_
  rintro e wr ⟨rfl, rfl⟩
  go_wp2_with fail
  refine hr.2.2.1.mono ?_
  rintro e wr ⟨rfl, rfl⟩
  go_wp2_with fail
  refine hr.2.2.2.mono ?_
  rintro e wr ⟨rfl, rfl⟩
  clear hr H1 A2
  generalize w1.heap.size = pb at *
  generalize (w1.alloc _) = w2 at *
  go_upto_region 5 with fail
  have H3 := hid ((((H2.out.alloc [numV S.r0, numV S.r1, numV S.r2, numV S.r3] 3).see (q := slP (.slice (some ⟨w2.heap.size, 0, none⟩) 4 4) 3 1 4 [numV S.r0, numV S.r1, numV S.r2, numV S.r3]) (by
    rintro fp ⟨rfl, hA⟩
    exact ⟨rfl, rfl, .inr ⟨_, 4, _, rfl, hA, Nat.le_refl _, by simp [maxLen], rfl, rfl⟩⟩)).alloc [.slice (some ⟨pb, 0, none⟩) 1 1, .slice none 0 0, .slice (some ⟨w2.heap.size, 0, none⟩) 4 4] 37))
  rw [show (w2.alloc (.cells [numV S.r0, numV S.r1, numV S.r2, numV S.r3].toArray 3)).heap.size = w2.heap.size + 1 by simp] at H3
  simp only [numV] at H3
  generalize w2.heap.size + 1 = sb at *
  generalize (Value.slice (some ⟨w2.heap.size, 0, none⟩) 4 4) = rv at *
  generalize ((w2.alloc _).alloc _) = w3 at *
  clear H2
  obtain ⟨L, hLd⟩ : ∃ L, Hid (S.pages.length = L) := ⟨_, hid rfl⟩
  have hL := hmost
  rw [hLd.out] at hL
  have hL1 : 1 ≤ L := by have := hV.out.pos; have := hLd.out; omega
  obtain ⟨nf, hi', hz', hs2, hb2⟩ := info_page
  have HI := hid (And.intro hi' (And.intro hz' (And.intro hs2 hb2)))
  have HM : StateAt w0 w3 ps x d t N log cnt E arm S rv sb rb 1 := by
    refine ⟨.slice (some ⟨pb, 0, none⟩) 1 1, ?_⟩
    have e : (S.pages.take 1).flatMap pageCells = [.int .i64 0, .string ⟨#[]⟩, .bool false] := by
      rw [List.take_add_one, List.take_zero, hV.out.zero]
      rfl
    rw [e]
    exact (H3.out.pull 3 rfl |>.pull 1 rfl |>.pull 3 rfl)
  have HM := hid HM
  clear H3 hmost hi' hz' hs2 hb2
  go_wp2
  go_loopw [7] (fun iv wr => ∃ k : Nat, 1 ≤ k ∧ k ≤ L ∧ iv = .int .i64 (k : Int) ∧ StateAt w0 wr ps x d t N log cnt E arm S rv sb rb k) (fun iv _ => L - (intOf iv).toNat)
  case atStart => exact ⟨1, Nat.le_refl _, hL1, rfl, HM.out⟩
  case round =>
    obtain ⟨k, hk1, hk, rfl, pv, hS⟩ := hrel
    clear HM
    have HS := hid hS
    clear hS
    have hhi := fun W (h : St w0 W _) => tp_high (w := W) (H := (show St w0 W (txP x d t N log cnt E arm S S (fun _ => false) false false :: objP sb [pv, .slice none 0 0, rv] 37 :: slP pv 54 3 k ((S.pages.take k).flatMap pageCells) :: slP rv 3 1 4 [numV S.r0, numV S.r1, numV S.r2, numV S.r3] :: objP rb [.slice none 0 0, .slice none 0 0, .slice none 0 0] 37 :: ps) from h))
    rw [hLd.out] at hhi
    by_cases hlt : k < L
    · have hlt' : (k : Int) < (L : Int) := by omega
      obtain ⟨o, ho⟩ : ∃ o, S.pages[k]? = some o := ⟨_, List.getElem?_eq_getElem (by have := hLd.out; omega)⟩
      have HO := hid ho
      cases o with
      | some p =>
        · obtain ⟨q1, q2⟩ := there_some hk1 ho
          obtain ⟨pk, pl⟩ := p
          obtain ⟨z, hz, ez, -⟩ := str_z pl
          have ecs : pageCells (some (pk, pl)) = [.int .i64 (pk : Int), .string z, .bool false] := by simp only [pageCells]; rw [ez]
          have ECS := hid ecs
          clear ecs
          have hrd := tp_read hh HS.out (k : Int) (by omega)
          rw [q1, q2] at hrd
          simp only [if_true] at hrd
          rw [ez] at hrd
          clear q1 q2 ez hz ho
          go_upto_region 9 with (first
            | (go_at_call 25; refine (hhi _ HS.out).mono ?_; rintro e w5 ⟨rfl, rfl⟩)
            | (go_at_call 18; refine hrd.mono ?_; rintro e w6 ⟨rfl, H6⟩))
          have H6 := hid H6
          clear hrd HS
          have c0 := (H6.out.obj 1 rfl).cell 0
          have f0 := (H6.out.obj 1 rfl).frozen 0
          have hlt0 := (H6.out.obj 1 rfl).lt
          simp only [List.getElem?_cons_zero] at c0
          have A7 := At.new w6 [.int .i64 (pk : Int), .string z, .bool false] 54
          have H7 := hid (H6.out.quiet ((Pres.refl [] w6).alloc (.cells [.int .i64 (pk : Int), .string z, .bool false].toArray 54)))
          have hsl := H7.out.sl 2 rfl
          go_wp2_with (first
            | ((with_reducible refine at_slit ?_); refine wpList_plain rfl fun K hK => wp_value (run_slit_one (n := 3) (v := .agg #[.int .i64 (pk : Int), .string z, .bool false]) rfl rfl Tryz.underlying34 page_size page_zero rfl (by omega) (by omega) rfl) (hK _ _ ?_); clear hK K)
            | ((with_reducible refine at_append ?_); go_must (refine wpL_app rfl (.tmp 58) (.tmp 64) 34 34 rfl 54 nf _ 3 Tryz.underlying34 HI.out.1 HI.out.2.1 HI.out.2.2.1 rfl _ k _ rfl hsl 1 [.int .i64 (pk : Int), .string z, .bool false] (Src.at Tryz.underlying34 A7 rfl (by simp [Value.oneCell'])) (by simp only [maxLen]; omega) (by rw [HI.out.2.2.2]; omega) ?_); intro v8 w8 Y1 Y2 Y3; have H8 := hid (H7.out.grow 2 rfl Y1 Y2 Y3); obtain ⟨ao8, cap8, rfl, -, -⟩ := Y1.shape; have f8 := (H8.out.obj 1 rfl).frozen 0; have c8 := (H8.out.obj 1 rfl).cell 0; have l8 := (H8.out.obj 1 rfl).lt; simp only [List.getElem?_cons_zero] at c8; clear Y1 Y2 Y3 hsl A7 f0 c0 hlt0))
          go_roundw
          case rel =>
            refine ⟨k + 1, by omega, by omega, by go_num, .slice ao8 (k + 1) cap8, ?_⟩
            rw [List.take_add_one, HO.out, Option.toList_some, List.flatMap_append, List.flatMap_cons, List.flatMap_nil, List.append_nil, ECS.out]
            exact H8.out.set 1 rfl 0 (.slice ao8 (k + 1) cap8)
          case measure => first | (simp [intOf]; done) | (simp [intOf]; omega)
      | none =>
        · have q1 := there_none hk1 ho
          have hrd := tp_read hh HS.out (k : Int) (by omega)
          rw [q1] at hrd
          simp only [show ¬ ((8 : Int) = 0) by decide, if_false] at hrd
          rw [show strV [] = .string ⟨#[]⟩ from rfl] at hrd
          clear q1 ho
          go_upto_region 9 with (first
            | (go_at_call 25; refine (hhi _ HS.out).mono ?_; rintro e w5 ⟨rfl, rfl⟩)
            | (go_at_call 18; refine hrd.mono ?_; rintro e w6 ⟨rfl, H6⟩))
          have H6 := hid H6
          clear hrd HS
          have c0 := (H6.out.obj 1 rfl).cell 0
          have f0 := (H6.out.obj 1 rfl).frozen 0
          have hlt0 := (H6.out.obj 1 rfl).lt
          simp only [List.getElem?_cons_zero] at c0
          have A7 := At.new w6 [.int .i64 0, .string ⟨#[]⟩, .bool true] 54
          have H7 := hid (H6.out.quiet ((Pres.refl [] w6).alloc (.cells [.int .i64 0, .string ⟨#[]⟩, .bool true].toArray 54)))
          have hsl := H7.out.sl 2 rfl
          go_wp2_with (first
            | ((with_reducible refine at_slit ?_); refine wpList_plain rfl fun K hK => wp_value (run_slit_one (n := 3) (v := .agg #[.int .i64 0, .string ⟨#[]⟩, .bool true]) rfl rfl Tryz.underlying34 page_size page_zero rfl (by omega) (by omega) rfl) (hK _ _ ?_); clear hK K)
            | ((with_reducible refine at_append ?_); go_must (refine wpL_app rfl (.tmp 58) (.tmp 64) 34 34 rfl 54 nf _ 3 Tryz.underlying34 HI.out.1 HI.out.2.1 HI.out.2.2.1 rfl _ k _ rfl hsl 1 [.int .i64 0, .string ⟨#[]⟩, .bool true] (Src.at Tryz.underlying34 A7 rfl (by simp [Value.oneCell'])) (by simp only [maxLen]; omega) (by rw [HI.out.2.2.2]; omega) ?_); intro v8 w8 Y1 Y2 Y3; have H8 := hid (H7.out.grow 2 rfl Y1 Y2 Y3); obtain ⟨ao8, cap8, rfl, -, -⟩ := Y1.shape; have f8 := (H8.out.obj 1 rfl).frozen 0; have c8 := (H8.out.obj 1 rfl).cell 0; have l8 := (H8.out.obj 1 rfl).lt; simp only [List.getElem?_cons_zero] at c8; clear Y1 Y2 Y3 hsl A7 f0 c0 hlt0))
          go_roundw
          case rel =>
            refine ⟨k + 1, by omega, by omega, by go_num, .slice ao8 (k + 1) cap8, ?_⟩
            rw [List.take_add_one, HO.out, Option.toList_some, List.flatMap_append, List.flatMap_cons, List.flatMap_nil, List.append_nil]
            exact H8.out.set 1 rfl 0 (.slice ao8 (k + 1) cap8)
          case measure => first | (simp [intOf]; done) | (simp [intOf]; omega)
    · obtain rfl : k = L := by omega
      have hend : ¬ (k : Int) < (k : Int) := by omega
      have hfl := hid (nodup_len _ _ hV.out.nodup (fun a ha => (hV.out.mem ha).2))
      obtain ⟨F, hFd⟩ : ∃ F, Hid (S.freed.length = F) := ⟨_, hid rfl⟩
      have hFL : F ≤ k := by rw [← hFd.out, ← hLd.out]; exact hfl.out
      have hfr := fun W (h : St w0 W _) => tp_frees (w := W) (H := (show St w0 W (txP x d t N log cnt E arm S S (fun _ => false) false false :: objP sb [pv, .slice none 0 0, rv] 37 :: slP pv 54 3 k ((S.pages.take k).flatMap pageCells) :: slP rv 3 1 4 [numV S.r0, numV S.r1, numV S.r2, numV S.r3] :: objP rb [.slice none 0 0, .slice none 0 0, .slice none 0 0] 37 :: ps) from h))
      rw [hFd.out] at hfr
      go_upto_region 13 with (first
        | (go_at_call 25; refine (hhi _ HS.out).mono ?_; rintro e w5 ⟨rfl, rfl⟩)
        | (go_at_call 26; refine (hfr _ HS.out).mono ?_; rintro e w6 ⟨rfl, rfl⟩))
      have HM : StateBt w0 wr ps x d t N log cnt E arm S pv rv sb rb F 0 := by
        refine ⟨.slice none 0 0, S, fun _ => false, false, by rw [Nat.sub_zero, ← hFd.out, List.take_length], ?_⟩
        have e1 : S.freed.drop (F - 0) = [] := List.drop_eq_nil_of_le (by rw [hFd.out]; omega)
        have h := HS.out
        rw [List.take_of_length_le (by rw [hLd.out]; exact Nat.le_refl _), ← hLd.out] at h
        rw [e1]
        exact ((h.nil 3 1).pull 2 rfl).pull 2 rfl
      have HM := hid HM
      clear HS hfr hhi HI nf
      obtain ⟨nf, hi', hz', hs2, hb2⟩ := info_intS
      have HI := hid (And.intro hi' (And.intro hz' (And.intro hs2 hb2)))
      clear hi' hz' hs2 hb2
      go_wp2
      go_loopw [69] (fun iv wr => ∃ j : Nat, j ≤ F ∧ iv = .int .i64 (j : Int) ∧ StateBt w0 wr ps x d t N log cnt E arm S pv rv sb rb F j) (fun iv _ => F - (intOf iv).toNat)
      case atStart => exact ⟨0, Nat.zero_le _, rfl, HM.out⟩
      case round =>
        obtain ⟨j, hj, rfl, fv, T, tk, mk, hTf, hS⟩ := hrel
        clear HM
        have HS := hid hS
        clear hS
        by_cases hjF : j < F
        · have hjF' : (j : Int) < (F : Int) := by omega
          obtain ⟨a, ha⟩ : ∃ a, S.freed[F - j - 1]? = some a := ⟨_, List.getElem?_eq_getElem (by rw [hFd.out]; omega)⟩
          have htk : S.freed.take (F - j) = S.freed.take (F - (j + 1)) ++ [a] := by
            rw [show F - j = F - (j + 1) + 1 by omega, List.take_add_one, show F - (j + 1) = F - j - 1 by omega, ha]
            rfl
          have hdr : S.freed.drop (F - (j + 1)) = a :: S.freed.drop (F - j) := by
            obtain ⟨h, e⟩ := List.getElem?_eq_some_iff.1 ha
            rw [show F - (j + 1) = F - j - 1 by omega, List.drop_eq_getElem_cons h, e, show F - j - 1 + 1 = F - j by omega]
          have hTa : T.freed = S.freed.take (F - (j + 1)) ++ [a] := by rw [hTf, htk]
          have hal0 : T.alloc cnt = (a, 0, T.take a) := by
            unfold PSt.alloc
            rw [if_neg (by rw [hTa]; simp), hTa]
            simp
          have hal := tp_alloc hh HS.out
          rw [hal0] at hal
          simp only [if_true] at hal
          have HT := hid (And.intro hTa hdr)
          clear hTa htk hdr hTf ha hal0
          go_upto_region 17 with (go_at_call 21; refine hal.mono ?_; rintro e w6 ⟨rfl, H6⟩)
          have H6 := hid H6
          clear hal HS
          have c1 := (H6.out.obj 1 rfl).cell 1
          have f1 := (H6.out.obj 1 rfl).frozen 1
          have hlt1 := (H6.out.obj 1 rfl).lt
          simp only [List.getElem?_cons_succ, List.getElem?_cons_zero] at c1
          have A7 := At.new w6 [.int .i64 (a : Int)] 3
          have H7 := hid (H6.out.slice (v := .slice (some ⟨w6.heap.size, 0, none⟩) 1 1) (E := 3) (sz := 1) (n := 1) (xs := [.int .i64 (a : Int)]) ⟨rfl, .inr ⟨_, 1, _, rfl, A7, Nat.le_refl _, by simp [maxLen], rfl, rfl⟩⟩ ((Pres.refl [] w6).alloc _) (by simp [fpv]))
          have hsl := H7.out.sl 0 rfl
          have hfv := H7.out.sl 3 rfl
          have hfone := hid (nums_one (l := S.freed.drop (F - j)))
          go_wp2_with ((with_reducible refine at_append ?_); go_must (refine wpL_app rfl (.tmp 80) (.tmp 82) 35 35 rfl 3 nf _ 1 Tryz.underlying35 HI.out.1 HI.out.2.1 HI.out.2.2.1 rfl _ 1 _ rfl hsl j _ (Src.sl Tryz.underlying35 hfv hfone.out) (by simp only [maxLen]; omega) (by rw [HI.out.2.2.2]; omega) ?_); intro v8 w8 Y1 Y2 Y3; have H8 := hid (H7.out.grow 0 rfl Y1 Y2 Y3); obtain ⟨ao8, cap8, rfl, -, -⟩ := Y1.shape; have f8 := (H8.out.obj 2 rfl).frozen 1; have c8 := (H8.out.obj 2 rfl).cell 1; have l8 := (H8.out.obj 2 rfl).lt; simp only [List.getElem?_cons_succ, List.getElem?_cons_zero] at c8; clear Y1 Y2 Y3 hsl hfv A7 f1 c1 hlt1)
          go_roundw
          case rel =>
            refine ⟨j + 1, by omega, by go_num, .slice ao8 (1 + j) cap8, T.take a, tchK tk a, true, ?_, ?_⟩
            · simp only [PSt.take]
              rw [HT.out.1]
              simp
            · rw [HT.out.2]
              have h := ((H8.out.set 2 rfl 1 (.slice ao8 (1 + j) cap8)).pull 3 rfl).drop
              rw [show j + 1 = 1 + j by omega]
              exact (h.pull 2 rfl).pull 2 rfl
          case measure => first | (simp [intOf]; done) | (simp [intOf]; omega)
        · obtain rfl : j = F := by omega
          have hendF : ¬ (j : Int) < (j : Int) := by omega
          have hab := tp_abort HS.out
          go_upto_region 20 with (go_at_call 17; refine hab.mono ?_; rintro e w6 ⟨rfl, H6⟩)
          have H6 := hid (H6.pull 1 rfl).drop
          clear hab HS
          obtain ⟨ap, cp, hpv, -, -⟩ := (H6.out.sl 3 rfl).shape
          obtain ⟨af, cf, hfv, -, -⟩ := (H6.out.sl 2 rfl).shape
          obtain ⟨ar, cr, hrv, -, -⟩ := (H6.out.sl 4 rfl).shape
          have hone : Hid (∀ v ∈ [pv, fv, rv], v.oneCell' = true) := hid (by
            intro v hv
            simp only [List.mem_cons, List.not_mem_nil, or_false] at hv
            rcases hv with rfl | rfl | rfl
            · rw [hpv]; rfl
            · rw [hfv]; rfl
            · rw [hrv]; rfl)
          clear hpv hfv hrv
          go_wp2_with (first
            | ((with_reducible refine at_load ?_); refine wpL_load rfl 37 (.tmp 6) rfl sb 0 3 rfl _ _ (H6.out.obj 1 rfl) state_agg state_size (by simp) ?_; simp only [List.drop_zero, List.take_succ_cons, List.take_zero])
            | ((with_reducible refine at_store ?_); refine wpL_store rfl 37 (.tmp 2) (.tmp 88) rfl rb 0 3 rfl [pv, fv, rv] rfl _ _ (H6.out.obj 5 rfl) state_size rfl (by simp) hone.out ?_; intro w8 A8 P8 S8; have H8 := hid (H6.out.put 5 rfl A8 P8)))
          (try simp only [Exit.inBlock, Exit.then])
          refine bodyPost_ret (results_cell_at (cs := [pv, fv, rv]) rfl rfl state_agg state_size (show At w8 rb [pv, fv, rv] 37 from A8)) rfl ?_
          rw [hPost.out]
          refine ⟨pv, fv, rv, rfl, ?_⟩
          have e2 : S.freed.drop (j - j) = S.freed := by rw [Nat.sub_self]; rfl
          have h9 := (H8.out.pull 5 rfl).drop
          simp only [List.set, List.eraseIdx] at h9
          rw [e2, ← hFd.out] at h9
          refine St.pack [_, _, _] ?_
          have h10 := (h9.pull 1 rfl).drop
          exact (h10.pull 3 rfl |>.pull 2 rfl |>.pull 3 rfl)
end

end Go.Proofs.YtnffnpndnaofhaaGreatDoor

/- aquiferref10.Same: are two states alike; conditions stand in the theorem. -/
namespace Go.Proofs.YtnffnpndnaofhaaGreatDoor
open Go.RowKit
set_option maxRecDepth 100000

/-- A state, as it is read. -/
structure SlSt (w : World) (pv fv rv : Value) (S : PSt) : Prop where
  pages : Sl w 54 3 pv S.pages.length (S.pages.flatMap pageCells)
  freed : Sl w 3 1 fv S.freed.length (S.freed.map numV)
  roots : Sl w 3 1 rv 4 [numV S.r0, numV S.r1, numV S.r2, numV S.r3]

theorem SlSt.pres {w w' : World} {pv fv rv : Value} {S : PSt} (h : SlSt w pv fv rv S) (hp : Pres [] w w') : SlSt w' pv fv rv S := ⟨h.pages.pres hp (by simp), h.freed.pres hp (by simp), h.roots.pres hp (by simp)⟩

theorem statP_read {w0 w : World} {ps : List HP} {pv fv rv : Value} {S : PSt} (H : St w0 w (statP pv fv rv S :: ps)) : SlSt w pv fv rv S := by
  have h := H.unpack
  exact ⟨h.sl 0 rfl, h.sl 1 rfl, h.sl 2 rfl⟩

theorem page_eqIn (W : World) (k1 k2 : Int) (z1 z2 : ByteArray) (f1 f2 : Bool) (d : Nat) : (Op.equalIn (d + 2) 54 (.agg #[.int .i64 k1, .string z1, .bool f1]) (.agg #[.int .i64 k2, .string z2, .bool f2])).run Tryz.prog W = .ok (decide (k1 = k2) && (z1 == z2) && decide (f1 = f2)) W := by
  simp [Op.equalIn, run_underlying Tryz.underlying54, run_underlying Tryz.underlying3, run_underlying Tryz.underlying9, run_underlying Tryz.underlying4, part, Tryz.isAgg3, Tryz.sizeOf3, Tryz.isAgg9, Tryz.sizeOf9, Tryz.isAgg4, Tryz.sizeOf4]
  by_cases h1 : k1 = k2
  · rw [if_pos h1]
    cases hz : z1 == z2
    · simp
    · by_cases h3 : f1 = f2 <;> simp [h1, h3]
  · rw [if_neg h1]
    simp [h1]

theorem ba_beq (z1 z2 : ByteArray) : (z1 == z2) = true ↔ z1 = z2 := by
  constructor
  · intro h
    cases z1
    cases z2
    rename_i a b
    have : (a == b) = true := h
    simpa using this
  · rintro rfl
    cases z1
    rename_i a
    have : (a == a) = true := by simp
    exact this

theorem page_eq (W : World) (k1 k2 : Int) (z1 z2 : ByteArray) (f1 f2 : Bool) : (Op.equal 54 (.agg #[.int .i64 k1, .string z1, .bool f1]) (.agg #[.int .i64 k2, .string z2, .bool f2])).run Tryz.prog W = .ok (decide (k1 = k2) && (z1 == z2) && decide (f1 = f2)) W := page_eqIn W k1 k2 z1 z2 f1 f2 9998

theorem page_neq (W : World) (k1 k2 : Int) (z1 z2 : ByteArray) (f1 f2 : Bool) (b : Bool) (hb : (decide (k1 = k2) && (z1 == z2) && decide (f1 = f2)) = b) : (binOp .neq 54 (.agg #[.int .i64 k1, .string z1, .bool f1]) (.agg #[.int .i64 k2, .string z2, .bool f2])).run Tryz.prog W = .ok (.bool !b) W := by
  simp only [binOp]
  simp [page_eq W k1 k2 z1 z2 f1 f2, hb]

/-- A page's three cells, told by kind, body and mark. -/
theorem pageCells_three (o : Option Leaf) : ∃ (k : Nat) (z : ByteArray) (f : Bool), pageCells o = [.int .i64 (k : Int), .string z, .bool f] := by
  cases o with
  | none => exact ⟨0, ⟨#[]⟩, true, rfl⟩
  | some p => exact ⟨p.1, ⟨p.2.toArray⟩, false, rfl⟩

theorem pageCells_inj {a b : Option Leaf} (h : pageCells a = pageCells b) : a = b := by
  cases a with
  | none =>
    cases b with
    | none => rfl
    | some p => simp [pageCells] at h
  | some p =>
    cases b with
    | none => simp [pageCells] at h
    | some q =>
      simp only [pageCells, strV, List.cons.injEq, Value.int.injEq, true_and, Value.string.injEq, ByteArray.mk.injEq, and_true] at h
      obtain ⟨h1, h2⟩ := h
      have e1 : p.1 = q.1 := by omega
      have e2 : p.2 = q.2 := by
        have := congrArg Array.toList h2
        simpa using this
      rw [Option.some.injEq]
      exact Prod.ext e1 e2

theorem pages_cell {w : World} {g n cap : Nat} {l : List (Option Leaf)} (h : Sl w 54 3 (.slice (some ⟨g, 0, none⟩) n cap) n (l.flatMap pageCells)) {i : Nat} {o : Option Leaf} (ho : l[i]? = some o) :
    ∀ (j : Nat) (v : Value), (pageCells o)[j]? = some v → w.cell? ⟨g, i * 3 + j, none⟩ = some v := by
  intro j v hj
  have hi := (List.getElem?_eq_some_iff.1 ho).1
  have hj3 : j < 3 := by
    have := (List.getElem?_eq_some_iff.1 hj).1
    rwa [pageCells_length] at this
  refine sl_cells h ?_
  have hp := flat_piece (f := pageCells) (sz := 3) (l := l) (i := i) (fun x _ => pageCells_length x) hi
  have e : l[i] = o := by
    rw [List.getElem?_eq_getElem hi] at ho
    exact Option.some.inj ho
  rw [e] at hp
  have : ((l.flatMap pageCells).drop (i * 3)).take 3 = pageCells o := hp
  rw [← hj, ← this, List.getElem?_take, if_pos hj3, List.getElem?_drop]

theorem run_loadc {P : Program} {w : World} {o : Oper} {a : Act} (ty : TypeId) (x : Operand) (ho : o.op = .load ty x) (b off : Nat) (hx : a.eval x = .pointer (some ⟨b, off, none⟩)) (cs : List Value)
    (ha : IsAgg P ty) (hs : (P.info? ty).map (·.size) = some cs.length) (h : ∀ j v, cs[j]? = some v → w.cell? ⟨b, off + j, none⟩ = some v) : (execOp a.eval o).run P w = .ok (.value (.agg cs.toArray)) w := by
  have := run_loadVar_cells (P := P) (w := w) (ad := ⟨b, off, none⟩) (ty := ty) ha hs (fun j v hj => by rw [addr_add]; exact h j v hj)
  unfold execOp
  simp only [ho, hx, Instr.loadAt, Instr.sureAddr, Sem.run_bind, Sem.run_pure, Result.andThen_ok, this]

end Go.Proofs.YtnffnpndnaofhaaGreatDoor

/- aquiferref10.Same: are two states alike; conditions stand in the theorem. -/
namespace Go.Proofs.YtnffnpndnaofhaaGreatDoor
open Go.RowKit
set_option maxRecDepth 100000

theorem pst_eq {a b : PSt} (h1 : a.pages = b.pages) (h2 : a.freed = b.freed) (h3 : a.r0 = b.r0) (h4 : a.r1 = b.r1) (h5 : a.r2 = b.r2) (h6 : a.r3 = b.r3) : a = b := by
  cases a
  cases b
  simp only at h1 h2 h3 h4 h5 h6
  subst h1 h2 h3 h4 h5 h6
  rfl

theorem nums_cell {w : World} {g n cap : Nat} {l : List Nat} (h : Sl w 3 1 (.slice (some ⟨g, 0, none⟩) n cap) n (l.map numV)) {i x : Nat} (hx : l[i]? = some x) : w.cell? ⟨g, i, none⟩ = some (.int .i64 (x : Int)) :=
  sl_cells h (by rw [List.getElem?_map, hx]; rfl)

set_option maxHeartbeats 16000000 in
theorem same_call (w : World) (pa fa ra pb fb rb : Value) (Sa Sb : PSt) (ha : SlSt w pa fa ra Sa) (hb : SlSt w pb fb rb Sb) (hla : Sa.pages.length ≤ 1000000) (hfa : Sa.freed.length ≤ 1000000) :
    Calls Tryz.prog 19 #[.agg #[pa, fa, ra], .agg #[pb, fb, rb]] w fun e w' => ∃ b, e = .returned (.bool b) ∧ (b = true ↔ Sa = Sb) ∧ Pres [] w w' := by
  obtain ⟨Post, hPost⟩ : ∃ Post : Ending → World → Prop, Hid (Post = fun e w' => ∃ b, e = .returned (.bool b) ∧ (b = true ↔ Sa = Sb) ∧ Pres [] w w') := ⟨_, hid rfl⟩
  rw [← hPost.out]
  have hno : ∀ w', ¬ Sa = Sb → Pres [] w w' → Post (.returned (.bool false)) w' := fun w' h hp => by rw [hPost.out]; exact ⟨false, rfl, by simp [h], hp⟩
  have hyes : ∀ w', Sa = Sb → Pres [] w w' → Post (.returned (.bool true)) w' := fun w' h hp => by rw [hPost.out]; exact ⟨true, rfl, by simp [h], hp⟩
  have HE := hid (And.intro hno hyes)
  have HA := hid ha
  have HB := hid hb
  obtain ⟨apa, cpa, epa, -, -⟩ := ha.pages.shape
  obtain ⟨afa, cfa, efa, -, -⟩ := ha.freed.shape
  obtain ⟨ara, cra, era, -, -⟩ := ha.roots.shape
  obtain ⟨apb, cpb, epb, -, -⟩ := hb.pages.shape
  obtain ⟨afb, cfb, efb, -, -⟩ := hb.freed.shape
  obtain ⟨arb, crb, erb, -, -⟩ := hb.roots.shape
  obtain ⟨na, hna⟩ : ∃ n, Hid (Sa.pages.length = n) := ⟨_, hid rfl⟩
  obtain ⟨nb, hnb⟩ : ∃ n, Hid (Sb.pages.length = n) := ⟨_, hid rfl⟩
  obtain ⟨ma, hma⟩ : ∃ n, Hid (Sa.freed.length = n) := ⟨_, hid rfl⟩
  obtain ⟨mb, hmb⟩ : ∃ n, Hid (Sb.freed.length = n) := ⟨_, hid rfl⟩
  rw [hna.out] at epa hla
  rw [hnb.out] at epb
  rw [hma.out] at efa hfa
  rw [hmb.out] at efb
  clear ha hb hno hyes
  subst epa efa era epb efb erb
  have H0 := hid (((St.start w).alloc [.slice apa na cpa, .slice afa ma cfa, .slice ara 4 cra] 37).alloc [.slice apb nb cpb, .slice afb mb cfb, .slice arb 4 crb] 37)
  rw [show (w.alloc (.cells [.slice apa na cpa, .slice afa ma cfa, .slice ara 4 cra].toArray 37)).heap.size = w.heap.size + 1 by simp] at H0
  go_enter Tryz.func19, Tryz.ntmps19
  go_upto_region 1 with fail
  generalize w.heap.size + 1 = b2 at *
  generalize w.heap.size = b1 at *
  generalize ((w.alloc _).alloc _) = w1 at *
  have H0 := hid (show St w w1 [objP b2 [.slice apb nb cpb, .slice afb mb cfb, .slice arb 4 crb] 37, objP b1 [.slice apa na cpa, .slice afa ma cfa, .slice ara 4 cra] 37] from H0.out)
  have a0 := (H0.out.obj 1 rfl).cell 0
  have a1 := (H0.out.obj 1 rfl).cell 1
  have b0 := (H0.out.obj 0 rfl).cell 0
  have b1' := (H0.out.obj 0 rfl).cell 1
  simp only [List.getElem?_cons_succ, List.getElem?_cons_zero] at a0 a1 b0 b1'
  by_cases hn : na = nb
  · subst hn
    have e1 : ((na : Int) == (na : Int)) = true := by simp
    by_cases hm : ma = mb
    · subst hm
      have e2 : ((ma : Int) == (ma : Int)) = true := by simp
      clear a0 a1 b0 b1'
      have a0 := (H0.out.obj 1 rfl).cell 0
      have a1 := (H0.out.obj 1 rfl).cell 1
      have b0 := (H0.out.obj 0 rfl).cell 0
      have b1' := (H0.out.obj 0 rfl).cell 1
      simp only [List.getElem?_cons_succ, List.getElem?_cons_zero] at a0 a1 b0 b1'
      go_upto_region 3 with fail
      clear a0 a1 b0 b1' e1 e2
      go_wp2
      go_loopw [5] (fun iv wr => ∃ i : Nat, i ≤ na ∧ iv = .int .i64 (i : Int) ∧ (∀ j, j < i → Sa.pages[j]? = Sb.pages[j]?) ∧ St w wr [objP b2 [.slice apb na cpb, .slice afb ma cfb, .slice arb 4 crb] 37, objP b1 [.slice apa na cpa, .slice afa ma cfa, .slice ara 4 cra] 37]) (fun iv _ => na - (intOf iv).toNat)
      case atStart => exact ⟨0, Nat.zero_le _, rfl, by simp, H0.out⟩
      case round =>
        obtain ⟨i, hi, rfl, hsame, hS⟩ := hrel
        clear H0
        have HS := hid hS
        have HQ := hid hsame
        clear hS hsame
        have a0 := (HS.out.obj 1 rfl).cell 0
        have b0 := (HS.out.obj 0 rfl).cell 0
        simp only [List.getElem?_cons_zero] at a0 b0
        by_cases hlt : i < na
        · have hlt' : (i : Int) < (na : Int) := by omega
          obtain ⟨oa, hoa⟩ : ∃ o, Sa.pages[i]? = some o := ⟨_, List.getElem?_eq_getElem (by have := hna.out; omega)⟩
          obtain ⟨ob, hob⟩ : ∃ o, Sb.pages[i]? = some o := ⟨_, List.getElem?_eq_getElem (by have := hnb.out; omega)⟩
          have hpa := HA.out.pages.pres HS.out.pres (by simp)
          have hpb := HB.out.pages.pres HS.out.pres (by simp)
          rw [hna.out] at hpa
          rw [hnb.out] at hpb
          obtain ⟨ga, cga, cura, ea, -⟩ := hpa.get (by omega)
          obtain ⟨gb, cgb, curb, eb, -⟩ := hpb.get (by omega)
          simp only [Value.slice.injEq] at ea eb
          obtain ⟨rfl, -, rfl⟩ := ea
          obtain ⟨rfl, -, rfl⟩ := eb
          have ca := pages_cell hpa hoa
          have cb := pages_cell hpb hob
          obtain ⟨ka, za, fa', epa⟩ := pageCells_three oa
          obtain ⟨kb, zb, fb', epb⟩ := pageCells_three ob
          rw [epa] at ca
          rw [epb] at cb
          obtain ⟨q, hq⟩ : ∃ q, Hid ((decide ((ka : Int) = (kb : Int)) && (za == zb) && decide (fa' = fb')) = q) := ⟨_, hid rfl⟩
          have hneq := fun W => page_neq W (ka : Int) (kb : Int) za zb fa' fb' q hq.out
          have HO := hid (And.intro hoa (And.intro hob (And.intro epa epb)))
          clear hpa hpb hoa hob epa epb
          go_upto_region 6 with fail
          refine wp_stages (by kernel_rfl) ?_
          have HS2 := hid HS.out.drew
          have S0 : wr.drew.cell? ⟨b1, 0, none⟩ = some (.slice (some ⟨ga, 0, none⟩) na cpa) ∧ wr.drew.cell? ⟨b2, 0, none⟩ = some (.slice (some ⟨gb, 0, none⟩) na cpb) ∧ (∀ (j : Nat) (v : Value), [Value.int .i64 (ka : Int), .string za, .bool fa'][j]? = some v → wr.drew.cell? ⟨ga, i * 3 + j, none⟩ = some v) ∧ (∀ (j : Nat) (v : Value), [Value.int .i64 (kb : Int), .string zb, .bool fb'][j]? = some v → wr.drew.cell? ⟨gb, i * 3 + j, none⟩ = some v) := ⟨a0, b0, ca, cb⟩
          clear HS a0 b0 ca cb
          generalize wr.drew = wd at *
          refine wp_stage (fun W => W.cell? ⟨b1, 0, none⟩ = some (.slice (some ⟨ga, 0, none⟩) na cpa) ∧ W.cell? ⟨b2, 0, none⟩ = some (.slice (some ⟨gb, 0, none⟩) na cpb) ∧ (∀ (j : Nat) (v : Value), [Value.int .i64 (ka : Int), .string za, .bool fa'][j]? = some v → W.cell? ⟨ga, i * 3 + j, none⟩ = some v) ∧ (∀ (j : Nat) (v : Value), [Value.int .i64 (kb : Int), .string zb, .bool fb'][j]? = some v → W.cell? ⟨gb, i * 3 + j, none⟩ = some v)) [(0, true), (1, true), (2, true), (3, true), (4, true), (5, true), (6, true), (7, true), (8, true), (9, true)] 1 rfl (by kernel_rfl) (by intro c a dd v w h; cases dd <;> exact h) (S0) ?_
          iterate 4 (refine wpOrd_read (v := _) rfl rfl (by intro w' hS; obtain ⟨s1, s2, -, -⟩ := id hS; clear hS; go_simp; rfl) ?_; (try simp only [Act.put, List.setIfInBounds_toArray, List.set_cons_succ, List.set_cons_zero, List.getElem_toArray, List.getElem_cons_succ, List.getElem_cons_zero]))
          refine wpOrd_read (v := _) rfl rfl (by intro w' hS; obtain ⟨-, -, s3, -⟩ := id hS; exact run_loadc 54 (.tmp 34) rfl ga (i * 3) rfl [.int .i64 (ka : Int), .string za, .bool fa'] page_agg page_size s3) ?_
          (try simp only [Act.put, List.setIfInBounds_toArray, List.set_cons_succ, List.set_cons_zero, List.getElem_toArray, List.getElem_cons_succ, List.getElem_cons_zero])
          iterate 4 (refine wpOrd_read (v := _) rfl rfl (by intro w' hS; obtain ⟨s1, s2, -, -⟩ := id hS; clear hS; go_simp; rfl) ?_; (try simp only [Act.put, List.setIfInBounds_toArray, List.set_cons_succ, List.set_cons_zero, List.getElem_toArray, List.getElem_cons_succ, List.getElem_cons_zero]))
          refine wpOrd_read (v := _) rfl rfl (by intro w' hS; obtain ⟨-, -, -, s4⟩ := id hS; exact run_loadc 54 (.tmp 39) rfl gb (i * 3) rfl [.int .i64 (kb : Int), .string zb, .bool fb'] page_agg page_size s4) ?_
          (try simp only [Act.put, List.setIfInBounds_toArray, List.set_cons_succ, List.set_cons_zero, List.getElem_toArray, List.getElem_cons_succ, List.getElem_cons_zero])
          refine wpOrd_end ?_
          refine wp_stages_end 10 (by rfl) (by kernel_rfl) ?_
          simp only [List.drop_succ_cons, List.drop_zero]
          clear S0
          cases hqq : q
          · rw [hqq] at hneq hq
            go_wp2
            refine HE.out.1 _ (fun h => ?_) HS2.out.pres
            have h1 := HO.out.1
            rw [h] at h1
            have h2 : oa = ob := Option.some.inj (h1.symm.trans HO.out.2.1)
            have h3 := HO.out.2.2.1
            rw [h2, HO.out.2.2.2] at h3
            simp only [List.cons.injEq, Value.int.injEq, true_and, Value.string.injEq, Value.bool.injEq, and_true] at h3
            have h4 := hq.out
            rw [h3.1, h3.2.1, h3.2.2] at h4
            simp [(ba_beq za za).2 rfl] at h4
          · rw [hqq] at hneq hq
            go_wp2
            go_roundw
            case rel =>
              refine ⟨i + 1, by omega, by go_num, fun j hj => ?_, HS2.out⟩
              by_cases hji : j = i
              · subst hji
                rw [HO.out.1, HO.out.2.1]
                have h4 := hq.out
                simp only [Bool.and_eq_true, decide_eq_true_eq] at h4
                obtain ⟨⟨h5, h6⟩, h7⟩ := h4
                have h8 : oa = ob := pageCells_inj (by rw [HO.out.2.2.1, HO.out.2.2.2, h5, (ba_beq _ _).1 h6, h7])
                rw [h8]
              · exact HQ.out j (by omega)
            case measure => first | (simp [intOf]; done) | (simp [intOf]; omega)
        · obtain rfl : na = i := by omega
          have hend : ¬ (na : Int) < (na : Int) := by omega
          have HPg : Hid (Sa.pages = Sb.pages) := hid (List.ext_getElem? fun j => by
            by_cases hj : j < na
            · exact HQ.out j hj
            · rw [List.getElem?_eq_none (by have := hna.out; omega), List.getElem?_eq_none (by have := hnb.out; omega)])
          clear HQ
          have a1 := (HS.out.obj 1 rfl).cell 1
          have b1' := (HS.out.obj 0 rfl).cell 1
          simp only [List.getElem?_cons_succ, List.getElem?_cons_zero] at a1 b1'
          go_wp2
          clear a0 b0 a1 b1'
          go_loopw [6] (fun iv wr => ∃ i : Nat, i ≤ ma ∧ iv = .int .i64 (i : Int) ∧ (∀ j, j < i → Sa.freed[j]? = Sb.freed[j]?) ∧ St w wr [objP b2 [.slice apb na cpb, .slice afb ma cfb, .slice arb 4 crb] 37, objP b1 [.slice apa na cpa, .slice afa ma cfa, .slice ara 4 cra] 37]) (fun iv _ => ma - (intOf iv).toNat)
          case atStart => exact ⟨0, Nat.zero_le _, rfl, by simp, HS.out⟩
          case round =>
            obtain ⟨i, hi, rfl, hsame, hS⟩ := hrel
            clear HS
            have HS := hid hS
            have HQ := hid hsame
            clear hS hsame
            have a0 := (HS.out.obj 1 rfl).cell 1
            have b0 := (HS.out.obj 0 rfl).cell 1
            simp only [List.getElem?_cons_succ, List.getElem?_cons_zero] at a0 b0
            by_cases hlt : i < ma
            · have hlt' : (i : Int) < (ma : Int) := by omega
              obtain ⟨xa, hxa⟩ : ∃ x, Sa.freed[i]? = some x := ⟨_, List.getElem?_eq_getElem (by have := hma.out; omega)⟩
              obtain ⟨xb, hxb⟩ : ∃ x, Sb.freed[i]? = some x := ⟨_, List.getElem?_eq_getElem (by have := hmb.out; omega)⟩
              have hpa := (by have h := HA.out.freed.pres HS.out.pres (by simp); rw [hma.out] at h; exact h)
              have hpb := (by have h := HB.out.freed.pres HS.out.pres (by simp); rw [hmb.out] at h; exact h)
              obtain ⟨ga, cga, cura, ea, -⟩ := hpa.get (by omega)
              obtain ⟨gb, cgb, curb, eb, -⟩ := hpb.get (by omega)
              simp only [Value.slice.injEq] at ea eb
              obtain ⟨rfl, -, rfl⟩ := ea
              obtain ⟨rfl, -, rfl⟩ := eb
              have ca := nums_cell hpa hxa
              have cb := nums_cell hpb hxb
              have HO := hid (And.intro hxa hxb)
              clear hpa hpb hxa hxb
              go_upto_region 11 with fail
              refine wp_stages (by kernel_rfl) ?_
              have HS2 := hid HS.out.drew
              have S0 : wr.drew.cell? ⟨b1, 1, none⟩ = some (.slice (some ⟨ga, 0, none⟩) ma cfa) ∧ wr.drew.cell? ⟨b2, 1, none⟩ = some (.slice (some ⟨gb, 0, none⟩) ma cfb) ∧ wr.drew.cell? ⟨ga, i, none⟩ = some (.int .i64 (xa : Int)) ∧ wr.drew.cell? ⟨gb, i, none⟩ = some (.int .i64 (xb : Int)) := ⟨a0, b0, ca, cb⟩
              clear HS a0 b0 ca cb
              generalize wr.drew = wd at *
              refine wp_stage (fun W => W.cell? ⟨b1, 1, none⟩ = some (.slice (some ⟨ga, 0, none⟩) ma cfa) ∧ W.cell? ⟨b2, 1, none⟩ = some (.slice (some ⟨gb, 0, none⟩) ma cfb) ∧ W.cell? ⟨ga, i, none⟩ = some (.int .i64 (xa : Int)) ∧ W.cell? ⟨gb, i, none⟩ = some (.int .i64 (xb : Int))) [(0, true), (1, true), (2, true), (3, true), (4, true), (5, true), (6, true), (7, true), (8, true), (9, true)] 1 rfl (by kernel_rfl) (by intro c a dd v w h; cases dd <;> exact h) (S0) ?_
              iterate 10 (refine wpOrd_read (v := _) rfl rfl (by intro w' hS; obtain ⟨s1, s2, s3, s4⟩ := id hS; clear hS; go_simp; rfl) ?_; (try simp only [Act.put, List.setIfInBounds_toArray, List.set_cons_succ, List.set_cons_zero, List.getElem_toArray, List.getElem_cons_succ, List.getElem_cons_zero]))
              refine wpOrd_end ?_
              refine wp_stages_end 10 (by rfl) (by kernel_rfl) ?_
              simp only [List.drop_succ_cons, List.drop_zero]
              clear S0
              by_cases hx : xa = xb
              · have e1 : ((xa : Int) == (xb : Int)) = true := by rw [hx]; simp
                have HX := hid hx
                clear hx
                go_wp2
                go_roundw
                case rel =>
                  refine ⟨i + 1, by omega, by go_num, fun j hj => ?_, HS2.out⟩
                  by_cases hji : j = i
                  · subst hji
                    rw [HO.out.1, HO.out.2, HX.out]
                  · exact HQ.out j (by omega)
                case measure => first | (simp [intOf]; done) | (simp [intOf]; omega)
              · have e1 : ((xa : Int) == (xb : Int)) = false := by rw [beq_eq_false_iff_ne]; omega
                have HX := hid hx
                clear hx
                go_wp2
                refine HE.out.1 _ (fun h => HX.out ?_) HS2.out.pres
                have h1 := HO.out.1
                rw [h] at h1
                exact Option.some.inj (h1.symm.trans HO.out.2)
            · obtain rfl : ma = i := by omega
              have hend : ¬ (ma : Int) < (ma : Int) := by omega
              have HFr : Hid (Sa.freed = Sb.freed) := hid (List.ext_getElem? fun j => by
                by_cases hj : j < ma
                · exact HQ.out j hj
                · rw [List.getElem?_eq_none (by have := hma.out; omega), List.getElem?_eq_none (by have := hmb.out; omega)])
              clear HQ
              go_wp2
              clear a0 b0
              go_loopw [7] (fun iv wr => ∃ i : Nat, i ≤ 4 ∧ iv = .int .i64 (i : Int) ∧ (∀ j, j < i → [Sa.r0, Sa.r1, Sa.r2, Sa.r3][j]? = [Sb.r0, Sb.r1, Sb.r2, Sb.r3][j]?) ∧ St w wr [objP b2 [.slice apb na cpb, .slice afb ma cfb, .slice arb 4 crb] 37, objP b1 [.slice apa na cpa, .slice afa ma cfa, .slice ara 4 cra] 37]) (fun iv _ => 4 - (intOf iv).toNat)
              case atStart => exact ⟨0, Nat.zero_le _, rfl, by simp, HS.out⟩
              case round =>
                obtain ⟨i, hi, rfl, hsame, hS⟩ := hrel
                clear HS
                have HS := hid hS
                have HQ := hid hsame
                clear hS hsame
                have a0 := (HS.out.obj 1 rfl).cell 2
                have b0 := (HS.out.obj 0 rfl).cell 2
                simp only [List.getElem?_cons_succ, List.getElem?_cons_zero] at a0 b0
                by_cases hlt : i < 4
                · have hlt' : (i : Int) < (4 : Int) := by omega
                  obtain ⟨xa, hxa⟩ : ∃ x, [Sa.r0, Sa.r1, Sa.r2, Sa.r3][i]? = some x := ⟨_, List.getElem?_eq_getElem (by simp; omega)⟩
                  obtain ⟨xb, hxb⟩ : ∃ x, [Sb.r0, Sb.r1, Sb.r2, Sb.r3][i]? = some x := ⟨_, List.getElem?_eq_getElem (by simp; omega)⟩
                  have hpa := HA.out.roots.pres HS.out.pres (by simp)
                  have hpb := HB.out.roots.pres HS.out.pres (by simp)
                  obtain ⟨ga, cga, cura, ea, -⟩ := hpa.get (by omega)
                  obtain ⟨gb, cgb, curb, eb, -⟩ := hpb.get (by omega)
                  simp only [Value.slice.injEq] at ea eb
                  obtain ⟨rfl, -, rfl⟩ := ea
                  obtain ⟨rfl, -, rfl⟩ := eb
                  have ca := nums_cell hpa hxa
                  have cb := nums_cell hpb hxb
                  have HO := hid (And.intro hxa hxb)
                  clear hpa hpb hxa hxb
                  go_upto_region 16 with fail
                  refine wp_stages (by kernel_rfl) ?_
                  have HS2 := hid HS.out.drew
                  have S0 : wr.drew.cell? ⟨b1, 2, none⟩ = some (.slice (some ⟨ga, 0, none⟩) 4 cra) ∧ wr.drew.cell? ⟨b2, 2, none⟩ = some (.slice (some ⟨gb, 0, none⟩) 4 crb) ∧ wr.drew.cell? ⟨ga, i, none⟩ = some (.int .i64 (xa : Int)) ∧ wr.drew.cell? ⟨gb, i, none⟩ = some (.int .i64 (xb : Int)) := ⟨a0, b0, ca, cb⟩
                  clear HS a0 b0 ca cb
                  generalize wr.drew = wd at *
                  refine wp_stage (fun W => W.cell? ⟨b1, 2, none⟩ = some (.slice (some ⟨ga, 0, none⟩) 4 cra) ∧ W.cell? ⟨b2, 2, none⟩ = some (.slice (some ⟨gb, 0, none⟩) 4 crb) ∧ W.cell? ⟨ga, i, none⟩ = some (.int .i64 (xa : Int)) ∧ W.cell? ⟨gb, i, none⟩ = some (.int .i64 (xb : Int))) [(0, true), (1, true), (2, true), (3, true), (4, true), (5, true), (6, true), (7, true), (8, true), (9, true)] 1 rfl (by kernel_rfl) (by intro c a dd v w h; cases dd <;> exact h) (S0) ?_
                  iterate 10 (refine wpOrd_read (v := _) rfl rfl (by intro w' hS; obtain ⟨s1, s2, s3, s4⟩ := id hS; clear hS; go_simp; rfl) ?_; (try simp only [Act.put, List.setIfInBounds_toArray, List.set_cons_succ, List.set_cons_zero, List.getElem_toArray, List.getElem_cons_succ, List.getElem_cons_zero]))
                  refine wpOrd_end ?_
                  refine wp_stages_end 10 (by rfl) (by kernel_rfl) ?_
                  simp only [List.drop_succ_cons, List.drop_zero]
                  clear S0
                  by_cases hx : xa = xb
                  · have e1 : ((xa : Int) == (xb : Int)) = true := by rw [hx]; simp
                    have HX := hid hx
                    clear hx
                    go_wp2
                    go_roundw
                    case rel =>
                      refine ⟨i + 1, by omega, by go_num, fun j hj => ?_, HS2.out⟩
                      by_cases hji : j = i
                      · subst hji
                        rw [HO.out.1, HO.out.2, HX.out]
                      · exact HQ.out j (by omega)
                    case measure => first | (simp [intOf]; done) | (simp [intOf]; omega)
                  · have e1 : ((xa : Int) == (xb : Int)) = false := by rw [beq_eq_false_iff_ne]; omega
                    have HX := hid hx
                    clear hx
                    go_wp2
                    refine HE.out.1 _ (fun h => HX.out ?_) HS2.out.pres
                    have h1 := HO.out.1
                    rw [h] at h1
                    exact Option.some.inj (h1.symm.trans HO.out.2)
                · obtain rfl : i = 4 := by omega
                  have hend : ¬ ((4 : Nat) : Int) < 4 := by omega
                  have HRt : Hid ([Sa.r0, Sa.r1, Sa.r2, Sa.r3] = [Sb.r0, Sb.r1, Sb.r2, Sb.r3]) := hid (List.ext_getElem? fun j => by
                    by_cases hj : j < 4
                    · exact HQ.out j hj
                    · rw [List.getElem?_eq_none (by simp; omega), List.getElem?_eq_none (by simp; omega)])
                  go_wp2
                  have h := HRt.out
                  simp only [List.cons.injEq, and_true] at h
                  exact HE.out.2 _ (pst_eq HPg.out HFr.out h.1 h.2.1 h.2.2.1 h.2.2.2) HS.out.pres
    · have e2 : ((ma : Int) == (mb : Int)) = false := by rw [beq_eq_false_iff_ne]; omega
      have HM := hid hm
      clear hm
      go_wp2
      refine HE.out.1 _ (fun h => HM.out (by rw [← hma.out, ← hmb.out, h])) H0.out.pres
  · have e1 : ((na : Int) == (nb : Int)) = false := by rw [beq_eq_false_iff_ne]; omega
    have HN := hid hn
    clear hn
    go_wp2
    refine HE.out.1 _ (fun h => HN.out (by rw [← hna.out, ← hnb.out, h])) H0.out.pres

end Go.Proofs.YtnffnpndnaofhaaGreatDoor
