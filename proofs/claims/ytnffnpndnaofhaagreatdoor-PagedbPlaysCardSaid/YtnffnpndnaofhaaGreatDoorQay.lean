/- Parts of the proof: A database's pages as the document tells them: kinds, bodies, the order in which pages came free, roots; what each call of a transaction makes of them. Plain Lean, no Go. -/
import Derived.Test.YtnffnpndnaofhaaGreatDoorQax
import Derived.Test.YtnffnpndnaofhaaGreatDoorQai

/- A database's pages as the document tells them: kinds, bodies, the order in which pages came free, roots; what each call of a transaction makes of them. Plain Lean, no Go. -/
namespace Go.Proofs.YtnffnpndnaofhaaGreatDoor
set_option maxRecDepth 100000

/-- What a database has. A page that is free has nothing. -/
structure PSt where
  pages : List (Option Leaf)
  freed : List Nat
  r0 : Nat
  r1 : Nat
  r2 : Nat
  r3 : Nat

/-- Pages free, the newest first: each tells the next one. -/
def Chain (v : Nat → Leaf) : Nat → List Nat → Prop
  | f, [] => f = 0
  | f, a :: r => f = a ∧ ∃ nxt, v a = (255, numLE nxt 4) ∧ nxt < 2147483648 ∧ Chain v nxt r

/-- The view v, with page 0 as m, is S. -/
structure Views (m : Meta) (v : Nat → Leaf) (S : PSt) (cnt : Nat) : Prop where
  high : m.high = S.pages.length
  pos : 1 ≤ S.pages.length
  most : S.pages.length ≤ cnt
  zero : S.pages[0]? = some (some (0, []))
  count : m.count = S.freed.length
  root0 : m.r0 = S.r0
  root1 : m.r1 = S.r1
  root2 : m.r2 = S.r2
  root3 : m.r3 = S.r3
  small0 : S.r0 < 2147483648
  small1 : S.r1 < 2147483648
  small2 : S.r2 < 2147483648
  small3 : S.r3 < 2147483648
  chain : Chain v m.free S.freed.reverse
  nodup : S.freed.Nodup
  free : ∀ k, S.pages[k]? = some none ↔ k ∈ S.freed
  page : ∀ k p, 1 ≤ k → S.pages[k]? = some (some p) → v k = p ∧ 1 ≤ p.1 ∧ p.1 ≤ 254 ∧ p.2.length ≤ 500

theorem Chain.congr {v v' : Nat → Leaf} : ∀ {l : List Nat} {f : Nat}, (∀ a ∈ l, v' a = v a) → Chain v f l → Chain v' f l
  | [], _, _, h => h
  | a :: r, f, e, ⟨h1, nxt, h2, h3, h4⟩ => ⟨h1, nxt, by rw [e a (by simp)]; exact h2, h3, h4.congr (fun x hx => e x (by simp [hx]))⟩

theorem Chain.head {v : Nat → Leaf} {f : Nat} {l : List Nat} (h : Chain v f l) : f = l.headD 0 := by
  cases l with
  | nil => exact h
  | cons a r => exact h.1

section
variable {m : Meta} {v : Nat → Leaf} {S : PSt} {cnt : Nat}

theorem Views.mem (V : Views m v S cnt) {k : Nat} (h : k ∈ S.freed) : 1 ≤ k ∧ k < S.pages.length := by
  have h1 := (V.free k).2 h
  refine ⟨?_, (List.getElem?_eq_some_iff.1 h1).1⟩
  rcases Nat.eq_zero_or_pos k with rfl | h2
  · rw [V.zero] at h1; cases h1
  · exact h2

theorem chain_mem : ∀ {l : List Nat} {f : Nat}, Chain v f l → ∀ a ∈ l, ∃ nxt, v a = (255, numLE nxt 4) ∧ nxt < 2147483648
  | [], _, _, a, ha => by cases ha
  | b :: r, f, ⟨_, nxt, h2, h3, h4⟩, a, ha => by
    rcases List.mem_cons.1 ha with rfl | ha
    · exact ⟨nxt, h2, h3⟩
    · exact chain_mem h4 a ha

/-- What a page is, free or not. -/
theorem Views.leaf (V : Views m v S cnt) {k : Nat} (h1 : 1 ≤ k) (h2 : k < m.high) : 1 ≤ (v k).1 ∧ (v k).1 ≤ 255 ∧ (v k).2.length ≤ 500 ∧ ((v k).1 = 255 ↔ S.pages[k]? = some none) := by
  rw [V.high] at h2
  obtain ⟨o, ho⟩ : ∃ o, S.pages[k]? = some o := ⟨_, List.getElem?_eq_getElem h2⟩
  cases o with
  | none =>
    obtain ⟨nxt, e, -⟩ := chain_mem V.chain k (by rw [List.mem_reverse]; exact (V.free k).1 ho)
    rw [e]
    simp only []
    rw [length_numLE]
    exact ⟨by omega, by omega, by omega, fun _ => ho, fun _ => by first | rfl | trivial⟩
  | some p =>
    obtain ⟨e, h3, h4, h5⟩ := V.page k p h1 ho
    rw [e]
    exact ⟨h3, by omega, h5, fun h => by omega, fun h => by rw [ho] at h; cases h⟩

def PSt.there (S : PSt) (k : Int) : Int := if k < 1 ∨ (S.pages.length : Int) ≤ k then 2 else if S.pages[k.toNat]? = some none then 8 else 0

def PSt.page (S : PSt) (k : Int) : Leaf := ((S.pages[k.toNat]?).join).getD (0, [])

theorem Views.there (V : Views m v S cnt) (k : Int) : (thereR m v k).2 = S.there k ∧ (S.there k = 0 → thereR m v k = (S.page k, 0)) := by
  unfold thereR PSt.there PSt.page
  rcases getR_cases m v k with h | ⟨h1, h2, h⟩
  · have hc : k < 1 ∨ (S.pages.length : Int) ≤ k := by
      rw [← V.high]
      unfold getR at h
      by_cases hc : k < 1 ∨ (m.high : Int) ≤ k
      · exact hc
      · rw [if_neg hc] at h; exact absurd (congrArg Prod.snd h) (by simp)
    rw [h, if_pos hc]
    simp
  · have hc : ¬ (k < 1 ∨ (S.pages.length : Int) ≤ k) := by rw [← V.high]; omega
    rw [h, if_neg hc]
    obtain ⟨-, -, -, h4⟩ := V.leaf (k := k.toNat) (by omega) (by omega)
    simp only [true_and]
    by_cases h5 : S.pages[k.toNat]? = some none
    · rw [if_pos (h4.2 h5), if_pos h5]
      simp
    · rw [if_neg (fun e => h5 (h4.1 e)), if_neg h5]
      simp only [true_and]
      intro _
      obtain ⟨o, ho⟩ : ∃ o, S.pages[k.toNat]? = some o := ⟨_, List.getElem?_eq_getElem (by rw [← V.high]; omega)⟩
      cases o with
      | none => exact absurd ho h5
      | some p =>
        obtain ⟨e, -⟩ := V.page k.toNat p (by omega) ho
        rw [ho, e]
        rfl

/-! ## What the calls make of it -/

def PSt.write (S : PSt) (k : Nat) (p : Leaf) : PSt := { S with pages := S.pages.set k (some p) }
def PSt.free (S : PSt) (k : Nat) : PSt := { S with pages := S.pages.set k none, freed := S.freed ++ [k] }
def PSt.grow (S : PSt) : PSt := { S with pages := S.pages ++ [some (1, [])] }
def PSt.take (S : PSt) (k : Nat) : PSt := { S with pages := S.pages.set k (some (1, [])), freed := S.freed.dropLast }

def putV (v : Nat → Leaf) (k : Nat) (p : Leaf) : Nat → Leaf := fun j => if j = k then p else v j

theorem Views.write (V : Views m v S cnt) {k : Nat} {p : Leaf} (h : S.there (k : Int) = 0) (h1 : 1 ≤ p.1) (h2 : p.1 ≤ 254) (h3 : p.2.length ≤ 500) : Views m (putV v k p) (S.write k p) cnt := by
  have hk : 1 ≤ k ∧ k < S.pages.length ∧ S.pages[k]? ≠ some none := by
    unfold PSt.there at h
    split at h
    · cases h
    split at h
    · cases h
    · rename_i h4 h5
      exact ⟨by omega, by omega, h5⟩
  have hnf : k ∉ S.freed := fun hm => hk.2.2 ((V.free k).2 hm)
  refine ⟨by simpa [PSt.write] using V.high, by simpa [PSt.write] using V.pos, by simpa [PSt.write] using V.most, ?_, V.count, V.root0, V.root1, V.root2, V.root3, V.small0, V.small1, V.small2, V.small3, ?_, V.nodup, ?_, ?_⟩
  · simp only [PSt.write]
    rw [List.getElem?_set_ne (by omega)]
    exact V.zero
  · refine V.chain.congr (fun a ha => ?_)
    rw [List.mem_reverse] at ha
    simp only [putV]
    rw [if_neg (fun e => hnf (by rw [← e]; exact ha))]
  · intro j
    simp only [PSt.write]
    by_cases e : k = j
    · subst e
      rw [List.getElem?_set_self hk.2.1]
      exact ⟨fun h => by (cases h), fun h => absurd h hnf⟩
    · rw [List.getElem?_set_ne e]
      exact V.free j
  · intro j q hj hq
    simp only [PSt.write] at hq
    simp only [putV]
    by_cases e : k = j
    · subst e
      rw [List.getElem?_set_self hk.2.1] at hq
      simp only [Option.some.injEq] at hq
      subst hq
      rw [if_pos rfl]
      exact ⟨rfl, h1, h2, h3⟩
    · rw [List.getElem?_set_ne e] at hq
      rw [if_neg (fun h => e h.symm)]
      exact V.page j q hj hq

theorem Views.setRoot (V : Views m v S cnt) (i : Nat) (x : Nat) (hx : x < 2147483648) : Views (m.setRoot i x) v (match i with | 0 => { S with r0 := x } | 1 => { S with r1 := x } | 2 => { S with r2 := x } | _ => { S with r3 := x }) cnt := by
  match i with
  | 0 => exact { V with root0 := rfl, small0 := hx }
  | 1 => exact { V with root1 := rfl, small1 := hx }
  | 2 => exact { V with root2 := rfl, small2 := hx }
  | i + 3 => exact { V with root3 := rfl, small3 := hx }

theorem Views.grow (V : Views m v S cnt) (hlt : S.pages.length < cnt) : Views m.more (putV v m.high (1, [])) S.grow cnt := by
  have hp := V.pos
  have hh := V.high
  refine ⟨by simp [Meta.more, PSt.grow, hh], by simp [PSt.grow], by simp only [PSt.grow, List.length_append, List.length_cons, List.length_nil]; omega, ?_, V.count, V.root0, V.root1, V.root2, V.root3, V.small0, V.small1, V.small2, V.small3, ?_, V.nodup, ?_, ?_⟩
  · simp only [PSt.grow]
    rw [List.getElem?_append_left (by omega)]
    exact V.zero
  · refine V.chain.congr (fun a ha => ?_)
    rw [List.mem_reverse] at ha
    have := V.mem ha
    simp only [putV]
    rw [if_neg (by omega)]
  · intro j
    simp only [PSt.grow]
    by_cases e : j < S.pages.length
    · rw [List.getElem?_append_left e]
      exact V.free j
    · rw [List.getElem?_append_right (by omega)]
      constructor
      · intro h
        cases hj : j - S.pages.length with
        | zero => rw [hj] at h; simp at h
        | succ q => rw [hj] at h; simp at h
      · intro h
        have := (V.mem h).2
        omega
  · intro j q hj hq
    simp only [PSt.grow] at hq
    simp only [putV]
    by_cases e : j < S.pages.length
    · rw [List.getElem?_append_left e] at hq
      rw [if_neg (by omega)]
      exact V.page j q hj hq
    · rw [List.getElem?_append_right (by omega)] at hq
      have e2 : j = S.pages.length := by
        cases hj : j - S.pages.length with
        | zero => omega
        | succ q => rw [hj] at hq; simp at hq
      subst e2
      simp at hq
      subst hq
      rw [if_pos hh.symm]
      exact ⟨rfl, by simp, by simp, by simp⟩

/-- A page is freed. -/
theorem Views.free' (V : Views m v S cnt) {k : Nat} (h : S.there (k : Int) = 0) (hc : cnt < 2147483648) : Views (m.push k) (putV v k (255, numLE m.free 4)) (S.free k) cnt := by
  have hk : 1 ≤ k ∧ k < S.pages.length ∧ S.pages[k]? ≠ some none := by
    unfold PSt.there at h
    split at h
    · cases h
    split at h
    · cases h
    · rename_i h4 h5
      exact ⟨by omega, by omega, h5⟩
  have hnf : k ∉ S.freed := fun hm => hk.2.2 ((V.free k).2 hm)
  have hmf : m.free < 2147483648 := by
    rw [V.chain.head]
    cases hr : S.freed.reverse with
    | nil => simp
    | cons a r =>
      have := V.mem (k := a) (by rw [← List.mem_reverse, hr]; simp)
      have := V.most
      simp only [List.headD_cons]
      omega
  refine ⟨by simpa [PSt.free, Meta.push] using V.high, by simpa [PSt.free] using V.pos, by simpa [PSt.free] using V.most, ?_, by simp [PSt.free, Meta.push, V.count], V.root0, V.root1, V.root2, V.root3, V.small0, V.small1, V.small2, V.small3, ?_, ?_, ?_, ?_⟩
  · simp only [PSt.free]
    rw [List.getElem?_set_ne (by omega)]
    exact V.zero
  · simp only [PSt.free, List.reverse_append, List.reverse_cons, List.reverse_nil, List.nil_append, List.cons_append]
    refine ⟨rfl, m.free, by simp [putV], hmf, V.chain.congr (fun a ha => ?_)⟩
    rw [List.mem_reverse] at ha
    simp only [putV]
    rw [if_neg (fun e => hnf (by rw [← e]; exact ha))]
  · simp only [PSt.free]
    rw [List.nodup_append]
    exact ⟨V.nodup, by simp, by intro a ha b hb e; simp at hb; subst hb; subst e; exact hnf ha⟩
  · intro j
    simp only [PSt.free, List.mem_append, List.mem_singleton]
    by_cases e : k = j
    · subst e
      rw [List.getElem?_set_self hk.2.1]
      simp
    · rw [List.getElem?_set_ne e, V.free j]
      constructor
      · exact .inl
      · rintro (h | h)
        · exact h
        · exact absurd h.symm e
  · intro j q hj hq
    simp only [PSt.free] at hq
    simp only [putV]
    by_cases e : k = j
    · subst e
      rw [List.getElem?_set_self hk.2.1] at hq
      simp at hq
    · rw [List.getElem?_set_ne e] at hq
      rw [if_neg (fun h => e h.symm)]
      exact V.page j q hj hq

/-- The newest page that came free is taken. -/
theorem Views.take (V : Views m v S cnt) {a : Nat} {r : List Nat} (hr : S.freed = r ++ [a]) : m.free = a ∧ 1 ≤ a ∧ a < m.high ∧ 1 ≤ m.count ∧ ∃ nxt, nxt < 2147483648 ∧ v a = (255, numLE nxt 4) ∧ Views (m.pop nxt) (putV v a (1, [])) (S.take a) cnt := by
  have hch := V.chain
  rw [hr, List.reverse_append] at hch
  obtain ⟨h1, nxt, h2, h3, h4⟩ := hch
  have ham := V.mem (k := a) (by rw [hr]; simp)
  have hnd := V.nodup
  rw [hr, List.nodup_append] at hnd
  have hna : a ∉ r := fun h => hnd.2.2 a h a (by simp) rfl
  have hcount := V.count
  rw [hr, List.length_append, List.length_singleton] at hcount
  refine ⟨h1, ham.1, by rw [V.high]; exact ham.2, by omega, nxt, h3, h2, ?_⟩
  have hdl : S.freed.dropLast = r := by rw [hr]; simp
  refine ⟨by simpa [PSt.take, Meta.pop] using V.high, by simpa [PSt.take] using V.pos, by simpa [PSt.take] using V.most, ?_, by simp only [PSt.take, Meta.pop, hdl]; omega, V.root0, V.root1, V.root2, V.root3, V.small0, V.small1, V.small2, V.small3, ?_, ?_, ?_, ?_⟩
  · simp only [PSt.take]
    rw [List.getElem?_set_ne (by omega)]
    exact V.zero
  · simp only [PSt.take, hdl]
    refine h4.congr (fun x hx => ?_)
    simp only [putV]
    rw [if_neg (fun e => hna (by subst e; simpa using hx))]
  · simp only [PSt.take, hdl]
    exact hnd.1
  · intro j
    simp only [PSt.take, hdl]
    by_cases e : a = j
    · subst e
      rw [List.getElem?_set_self ham.2]
      exact ⟨fun h => by (cases h), fun h => absurd h hna⟩
    · rw [List.getElem?_set_ne e, V.free j, hr]
      simp only [List.mem_append, List.mem_singleton]
      constructor
      · rintro (h | h)
        · exact h
        · exact absurd h.symm e
      · exact .inl
  · intro j q hj hq
    simp only [PSt.take] at hq
    simp only [putV]
    by_cases e : a = j
    · subst e
      rw [List.getElem?_set_self ham.2] at hq
      simp only [Option.some.injEq] at hq
      subst hq
      rw [if_pos rfl]
      exact ⟨rfl, by simp, by simp, by simp⟩
    · rw [List.getElem?_set_ne e] at hq
      rw [if_neg (fun h => e h.symm)]
      exact V.page j q hj hq

end
end Go.Proofs.YtnffnpndnaofhaaGreatDoor

/- A database and its transaction as one piece of memory each, told in the document's words; conditions stand in the theorems. -/
namespace Go.Proofs.YtnffnpndnaofhaaGreatDoor
open Go.RowKit
set_option maxRecDepth 100000

/-! ## Many pieces as one -/

def packP (l : List HP) : HP := ⟨fun w fp => Sep l w fp, Sep.lt, Sep.keep⟩

theorem Sep.append : ∀ {l ps : List HP} {w : World} {f g : List Nat}, Sep l w f → Sep ps w g → (∀ k ∈ f, k ∉ g) → Sep (l ++ ps) w (f ++ g)
  | [], ps, w, f, g, h1, h2, _ => by
    rw [show f = [] from h1]
    exact h2
  | p :: l, ps, w, f, g, ⟨f1, f2, e, hp, hs, hd⟩, h2, h3 => by
    subst e
    refine ⟨f1, f2 ++ g, by simp, hp, hs.append h2 (fun k hk => h3 k (by simp [hk])), fun k hk hm => ?_⟩
    rcases List.mem_append.1 hm with h | h
    · exact hd k hk h
    · exact h3 k (by simp [hk]) h

theorem Sep.parts : ∀ {l ps : List HP} {w : World} {fp : List Nat}, Sep (l ++ ps) w fp → ∃ f g, fp = f ++ g ∧ Sep l w f ∧ Sep ps w g ∧ ∀ k ∈ f, k ∉ g
  | [], ps, w, fp, h => ⟨[], fp, rfl, rfl, h, by simp⟩
  | p :: l, ps, w, fp, ⟨f1, g1, e, hp, hs, hd⟩ => by
    obtain ⟨f, g, e2, h1, h2, h3⟩ := Sep.parts hs
    subst e e2
    refine ⟨f1 ++ f, g, by simp, ⟨f1, f, rfl, hp, h1, fun k hk hm => hd k hk (by simp [hm])⟩, h2, fun k hk hm => ?_⟩
    rcases List.mem_append.1 hk with h | h
    · exact hd k h (by simp [hm])
    · exact h3 k h hm

theorem St.unpack {w0 w : World} {l ps : List HP} (H : St w0 w (packP l :: ps)) : St w0 w (l ++ ps) := by
  obtain ⟨fp, ⟨f, g, rfl, hp, hs, hd⟩, hb⟩ := H.sep
  exact ⟨H.pres, f ++ g, Sep.append hp hs hd, hb⟩

theorem St.pack {w0 w : World} (l : List HP) {ps : List HP} (H : St w0 w (l ++ ps)) : St w0 w (packP l :: ps) := by
  obtain ⟨fp, hs, hb⟩ := H.sep
  obtain ⟨f, g, rfl, h1, h2, h3⟩ := hs.parts
  exact ⟨H.pres, f ++ g, ⟨f, g, rfl, h1, h2, h3⟩, hb⟩

/-! ## What the pages say -/

structure PgView (cnt : Nat) (P : Nat → List UInt8) (m : Meta) (v : Nat → Leaf) (S : PSt) : Prop where
  zero : (P 0 = zeroPg ∧ m = metaOne) ∨ P 0 = pageB 0 1 (metaB m)
  views : Views m v S cnt
  pages : ∀ k, 1 ≤ k → k < m.high → P k = pageB k (v k).1 (v k).2

theorem nodup_len : ∀ (n : Nat) (l : List Nat), l.Nodup → (∀ a ∈ l, a < n) → l.length ≤ n
  | 0, [], _, _ => by simp
  | 0, a :: l, _, h => by have := h a (by simp); omega
  | n + 1, l, hn, h => by
    have h1 := nodup_len n (l.erase n) (hn.erase n) (fun a ha => by
      rw [hn.mem_erase_iff] at ha
      have := h a ha.2
      have := ha.1
      omega)
    rw [List.length_erase] at h1
    split at h1 <;> omega

theorem Views.ok {m : Meta} {v : Nat → Leaf} {S : PSt} {cnt : Nat} (V : Views m v S cnt) (hc : cnt ≤ 8192) : m.Ok := by
  have hm := V.most
  have hmf : m.free < 2 ^ 31 := by
    rw [V.chain.head]
    cases hr : S.freed.reverse with
    | nil => simp
    | cons a r =>
      have := V.mem (k := a) (by rw [← List.mem_reverse, hr]; simp)
      simp only [List.headD_cons]
      omega
  have hcount : m.count < 2 ^ 31 := by
    rw [V.count]
    have h1 : S.freed.length ≤ S.pages.length := nodup_len _ _ V.nodup (fun a ha => (V.mem ha).2)
    omega
  exact ⟨by rw [V.root0]; exact V.small0, by rw [V.root1]; exact V.small1, by rw [V.root2]; exact V.small2, by rw [V.root3]; exact V.small3, by rw [V.high]; omega, hmf, hcount⟩

theorem Shape.few {N log cnt : Nat} (h : Shape N log cnt) : cnt ≤ 8192 := by have := h.fits; have := h.most; omega

/-! ## The pieces -/

structure DbD where
  b : Nat
  m : Meta
  l : Lg
  σ : Dk
  P : Nat → List UInt8
  v : Nat → Leaf

structure DbOk (N log cnt E : Nat) (arm : Bool) (S : PSt) (D : DbD) : Prop where
  rest : Rest N log cnt E D.P D.l D.σ
  view : PgView cnt D.P D.m D.v S
  arm : D.σ.armed = arm

/-- A database that is open, with no transaction. -/
def dbP (x d N log cnt E : Nat) (arm : Bool) (S : PSt) : HP := exP fun D : DbD => ifP (DbOk N log cnt E arm S D) (packP [objP x (dbCells d D.b log D.m (.pointer none) false) 62, diskP d D.σ, logP D.b d D.l])

structure TxD where
  D : DbD
  mb : Nat
  n : Meta
  v : Nat → Leaf
  M : Nat → Option Leaf
  ks : List Nat
  marked : Bool

structure TxOk (cnt : Nat) (S T : PSt) (tk : Nat → Bool) (mk : Bool) (X : TxD) : Prop where
  views : Views X.n X.v T cnt
  seen : ∀ k, 1 ≤ k → k < X.n.high → X.M k = some (X.v k) ∨ (X.M k = none ∧ k < X.D.m.high ∧ X.v k = X.D.v k)
  ids : ∀ k, X.M k ≠ none → 1 ≤ k ∧ k < X.n.high
  clean : X.marked = false → X.n = X.D.m
  none : (∀ k, tk k = false) → mk = false → T = S
  touch : ∀ k, tk k = (X.M k).isSome
  mark : X.marked = mk
  high : X.D.m.high ≤ X.n.high
  nodup : X.ks.Nodup
  keys : ∀ k, k ∈ X.ks ↔ X.M k ≠ Option.none

def txPs (x d t log : Nat) (spoilt : Bool) (X : TxD) : List HP :=
  [objP t (txCells x X.n (.map (some X.mb)) X.marked spoilt) 67, objP x (dbCells d X.D.b log X.D.m (.pointer (some ⟨t, 0, Option.none⟩)) false) 62, diskP d X.D.σ, mapP leafR leafD X.mb X.M X.ks, logP X.D.b d X.D.l]

/-- A database with a transaction: it had S, the transaction has T; tk: the pages that it touched; mk: page 0 is another one. -/
def txP (x d t N log cnt E : Nat) (arm : Bool) (S T : PSt) (tk : Nat → Bool) (mk : Bool) (spoilt : Bool) : HP := exP fun X : TxD => ifP (DbOk N log cnt E arm S X.D ∧ TxOk cnt S T tk mk X) (packP (txPs x d t log spoilt X))

/-- A disk without power: whatever is kept, a database that has one of Q can be opened. -/
def darkP (d N log cnt E : Nat) (Q : PSt → Prop) : HP := exP fun σ : Dk => ifP (Dn σ N ∧ Crash σ (fun img => ∃ P m v S, Q S ∧ RecI log cnt E P img ∧ PgView cnt P m v S)) (diskP d σ)

/-- A disk with power, on which a database that has S can be opened. -/
def coldP (d N log cnt E : Nat) (arm : Bool) (S : PSt) : HP := exP fun σ : Dk => ifP (∃ P m v, Cold N log cnt E P σ ∧ PgView cnt P m v S ∧ σ.armed = arm) (diskP d σ)

/-- A transaction that is over. -/
def staleP (t x : Nat) : HP := exP fun q : Meta × Value × Bool × Bool => objP t (txCells x q.1 q.2.1 q.2.2.1 q.2.2.2) 67

theorem dbP_cold {w0 w : World} {ps : List HP} {x d N log cnt E : Nat} {arm : Bool} {S : PSt} (H : St w0 w (dbP x d N log cnt E arm S :: ps)) : St w0 w (coldP d N log cnt E arm S :: ps) := by
  obtain ⟨D, H⟩ := H.ex
  obtain ⟨ok, H⟩ := H.fact
  have H := H.unpack.drop.pull 1 rfl |>.drop
  exact H.with ⟨D.P, D.m, D.v, ok.rest.cold, ok.view, ok.arm⟩ |>.any D.σ

/-- Nothing was written yet. -/
def PSt.new : PSt := ⟨[some (0, [])], [], 0, 0, 0, 0⟩

theorem view_new {cnt : Nat} (h : 1 ≤ cnt) : PgView cnt (fun _ => zeroPg) metaOne (fun _ => (0, [])) PSt.new := by
  refine ⟨.inl ⟨rfl, rfl⟩, ⟨rfl, by simp [PSt.new], by simpa [PSt.new] using h, rfl, rfl, rfl, rfl, rfl, rfl, by simp [PSt.new], by simp [PSt.new], by simp [PSt.new], by simp [PSt.new], rfl, by simp [PSt.new], ?_, ?_⟩, ?_⟩
  · intro k
    cases k <;> simp [PSt.new]
  · intro k p hk hp
    cases k with
    | zero => omega
    | succ k => simp [PSt.new] at hp
  · intro k h1 h2
    simp only [metaOne] at h2
    omega

theorem coldP_new {w0 w : World} {ps : List HP} {d N log cnt : Nat} (sh : Shape N log cnt) (H : St w0 w (diskP d (Dk.new N) :: ps)) : St w0 w (coldP d N log cnt 0 false PSt.new :: ps) :=
  St.any (F := fun σ : Dk => ifP (∃ P m v, Cold N log cnt 0 P σ ∧ PgView cnt P m v PSt.new ∧ σ.armed = false) (diskP d σ)) (Dk.new N) (H.with ⟨_, _, _, cold_new sh, view_new (by have := sh.four; omega), rfl⟩)

section
variable {w0 w : World} {ps : List HP} {x d t N log cnt E : Nat} {arm spoilt mk : Bool} {S T : PSt} {tk : Nat → Bool}

set_option maxHeartbeats 1000000 in
theorem db_open (hh : HalfAt w0) (H : St w0 w (coldP d N log cnt E arm S :: ps)) (hE : E < 1000000) :
    Calls Tryz.prog 11 #[.pointer (some ⟨d, 0, none⟩), .int .i64 (log : Int)] w fun e w' =>
      (∃ x, e = .returned (.tuple #[.pointer (some ⟨x, 0, none⟩), .int .i64 0]) ∧ St w0 w' (dbP x d N log cnt (E + 1) arm S :: ps)) ∨
      (arm = true ∧ e = .returned (.tuple #[.pointer none, .int .i64 10]) ∧ St w0 w' (darkP d N log cnt (E + 1) (fun s => s = S) :: ps)) := by
  obtain ⟨σ, H⟩ := H.ex
  obtain ⟨⟨P, m, v, C, V, ha⟩, H⟩ := H.fact
  obtain ⟨l, rs, hop, hrec, hR, hrun⟩ := open_run C (by omega)
  have h1 := C.sh.two
  have h2 := C.sh.fits
  have h3 := C.sh.most
  have h4 := C.sh.few
  have hpg : ∀ G : Dk, (∀ k, k < cnt → pageOf log G.look k = P k) → ((sectorsB G log 8 = zeroPg ∧ m = metaOne) ∨ sectorsB G log 8 = pageB 0 1 (metaB m)) := by
    intro G hG
    have e : sectorsB G log 8 = P 0 := by
      rw [← hG 0 (by have := C.sh.four; omega), ← sectorsB_page, Nat.mul_zero, Nat.add_zero]
    rw [e]
    exact V.zero
  have hopen := pd_open hh H log cnt l rs m hop hrec (by rw [C.up.len]; exact C.sh.div) (by rw [C.up.len]; omega) (by omega) C.sh.four hR (by have := C.room; omega) (V.views.ok h4) (by rw [V.views.high]; exact V.views.pos) (by rw [V.views.high]; exact V.views.most) (by
    intro r1 s1
    rcases hrun with ⟨-, h⟩ | ⟨-, h, -⟩
    · rcases h with ⟨-, h, -⟩ | ⟨-, h, -⟩
      · exact ⟨h.up.down, by rw [h.up.len, C.up.len], hpg _ h.pages⟩
      · rw [s1] at h; cases h
    · rw [r1] at h; cases h)
  refine hopen.mono ?_
  intro e w' he
  have dark : ∀ τ, Dn τ N → Crash τ (RecI log cnt (E + 1) P) → St w0 w' (diskP d τ :: ps) → St w0 w' (darkP d N log cnt (E + 1) (fun s => s = S) :: ps) := fun τ hd hc hS =>
    St.any (F := fun σ : Dk => ifP (Dn σ N ∧ Crash σ (fun img => ∃ P m v S', S' = S ∧ RecI log cnt (E + 1) P img ∧ PgView cnt P m v S')) (diskP d σ)) τ (hS.with ⟨hd, hc.mono (fun img h => ⟨P, m, v, S, rfl, h, V⟩)⟩)
  rcases hrun with ⟨r1, hrun⟩ | ⟨r0, r1, r2, r3⟩
  · rw [if_pos r1] at he
    rcases hrun with ⟨s1, s2, s3⟩ | ⟨s0, s1, s2, s3⟩
    · rw [if_pos s1] at he
      obtain ⟨x, b, rfl, hS⟩ := he
      refine .inl ⟨x, rfl, ?_⟩
      refine St.any (F := fun D : DbD => ifP (DbOk N log cnt (E + 1) arm S D) (packP [objP x (dbCells d D.b log D.m (.pointer none) false) 62, diskP d D.σ, logP D.b d D.l])) ⟨b, m, (settleB l (redoAll log rs σ).2).2.1, (settleB l (redoAll log rs σ).2).2.2, P, v⟩ ?_
      refine St.with ⟨s2, V, by rw [s3]; exact ha⟩ ?_
      exact St.pack _ (hS.pull 2 rfl |>.pull 1 rfl)
    · rw [if_neg (by omega), s1] at he
      exact .inr ⟨by rw [← ha]; exact s0, he.1, dark _ s2 s3 he.2⟩
  · rw [if_neg (by omega), r1] at he
    exact .inr ⟨by rw [← ha]; exact r0, he.1, dark _ r2 r3 he.2⟩

theorem txP_mk (X : TxD) (h1 : DbOk N log cnt E arm S X.D) (h2 : TxOk cnt S T tk mk X) (H : St w0 w (txPs x d t log spoilt X ++ ps)) : St w0 w (txP x d t N log cnt E arm S T tk mk spoilt :: ps) :=
  St.any (F := fun X : TxD => ifP (DbOk N log cnt E arm S X.D ∧ TxOk cnt S T tk mk X) (packP (txPs x d t log spoilt X))) X (St.with ⟨h1, h2⟩ (St.pack _ H))

theorem txP_open (H : St w0 w (txP x d t N log cnt E arm S T tk mk spoilt :: ps)) : ∃ X : TxD, DbOk N log cnt E arm S X.D ∧ TxOk cnt S T tk mk X ∧ St w0 w (txPs x d t log spoilt X ++ ps) := by
  obtain ⟨X, H⟩ := H.ex
  obtain ⟨⟨h1, h2⟩, H⟩ := H.fact
  exact ⟨X, h1, h2, H.unpack⟩

theorem dbP_mk (D : DbD) (h1 : DbOk N log cnt E arm S D) (H : St w0 w ([objP x (dbCells d D.b log D.m (.pointer none) false) 62, diskP d D.σ, logP D.b d D.l] ++ ps)) : St w0 w (dbP x d N log cnt E arm S :: ps) :=
  St.any (F := fun D : DbD => ifP (DbOk N log cnt E arm S D) (packP [objP x (dbCells d D.b log D.m (.pointer none) false) 62, diskP d D.σ, logP D.b d D.l])) D (St.with h1 (St.pack _ H))

theorem dbP_open (H : St w0 w (dbP x d N log cnt E arm S :: ps)) : ∃ D : DbD, DbOk N log cnt E arm S D ∧ St w0 w (objP x (dbCells d D.b log D.m (.pointer none) false) 62 :: diskP d D.σ :: logP D.b d D.l :: ps) := by
  obtain ⟨D, H⟩ := H.ex
  obtain ⟨h, H⟩ := H.fact
  exact ⟨D, h, H.unpack⟩

theorem db_begin (H : St w0 w (dbP x d N log cnt E arm S :: ps)) :
    Calls Tryz.prog 15 #[.pointer (some ⟨x, 0, none⟩)] w fun e w' => ∃ t, e = .returned (.tuple #[.pointer (some ⟨t, 0, none⟩), .int .i64 0]) ∧ St w0 w' (txP x d t N log cnt E arm S S (fun _ => false) false false :: ps) := by
  obtain ⟨D, ok, H⟩ := dbP_open H
  refine (pd_begin H ok.rest.up.down).mono ?_
  rintro e w' ⟨t, mb, rfl, H2⟩
  refine ⟨t, rfl, txP_mk ⟨D, mb, D.m, D.v, fun _ => none, [], false⟩ ok ?_ H2⟩
  exact ⟨ok.view.views, fun k h1 h2 => .inr ⟨rfl, h2, rfl⟩, by simp, fun _ => rfl, fun _ _ => rfl, fun _ => rfl, rfl, Nat.le_refl _, by simp, by simp⟩

theorem TxOk.sees {X : TxD} (h1 : DbOk N log cnt E arm S X.D) (h2 : TxOk cnt S T tk mk X) : Sees X.n X.M X.D.σ log X.v := by
  have hm := h2.views.most
  rw [← h2.views.high] at hm
  refine ⟨fun k a b => ?_, by rw [h1.rest.up.len]; have := h1.rest.sh.fits; omega⟩
  rcases h2.seen k a b with h | ⟨ha, hb, hc⟩
  · exact .inl h
  · obtain ⟨l1, l2, l3, -⟩ := h1.view.views.leaf a hb
    exact .inr ⟨ha, by rw [sectorsB_page, h1.rest.pages k (by omega), h1.view.pages k a hb, hc], by rw [hc]; exact l1, by rw [hc]; exact l2, by rw [hc]; exact l3⟩

theorem TxOk.few {X : TxD} (h2 : TxOk cnt S T tk mk X) : X.ks.length ≤ cnt := by
  have hm := h2.views.most
  rw [← h2.views.high] at hm
  have := nodup_len _ _ h2.nodup (fun a ha => (h2.ids a ((h2.keys a).1 ha)).2)
  omega

end
end Go.Proofs.YtnffnpndnaofhaaGreatDoor
