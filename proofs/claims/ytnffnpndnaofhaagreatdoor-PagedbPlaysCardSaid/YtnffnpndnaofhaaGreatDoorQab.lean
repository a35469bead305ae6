/- Parts of the proof: What the arguments of a statement read as, in the words of Base (Reads, ReadsN); from the row's own reading (DataW.trod). No condition. -/
import Derived.Test.YtnffnpndnaofhaaGreatDoorQaa
import Derived.ProofKit
import Derived.Deep.Slices
import Derived.Lib.SmallJoins
import Derived.Test.YtnffnpndnaofhaaGreatDoorRows
import Derived.OpenShut

/- What the arguments of a statement read as, in the words of Base (Reads, ReadsN); from the row's own reading (DataW.trod). No condition. -/
namespace Go.Proofs.YtnffnpndnaofhaaGreatDoor
open Go.RowKit Go.WideShapes Go.ChangeShapes Go.Deep

/-- Slice v reads as cs, each element so many cells. -/
def ReadsN (w : World) (v : Value) (m : Nat) (cs : List (List Value)) : Prop :=
  ∃ ao cap, v = .slice ao cs.length cap ∧ cs.length ≤ cap ∧ cap ≤ maxLen ∧ ∀ j l, cs[j]? = some l → l.length = m ∧ ∃ b off, ao = some ⟨b, off, none⟩ ∧ ∀ i x, l[i]? = some x → w.cell? ⟨b, off + j * m + i, none⟩ = some x

theorem ReadsN.pres {fp : List Nat} {w w' : World} {v : Value} {m : Nat} {cs : List (List Value)} (h : ReadsN w v m cs) (hp : Pres fp w w') (hn : cs ≠ [] → ∀ k ∈ fpv v, k ∉ fp) : ReadsN w' v m cs := by
  obtain ⟨ao, cap, rfl, h1, h2, h3⟩ := h
  refine ⟨ao, cap, rfl, h1, h2, fun j l hj => ?_⟩
  obtain ⟨hl, b, off, rfl, hc⟩ := h3 j l hj
  exact ⟨hl, b, off, rfl, fun i x hx => hp.cell (hc i x hx) (hn (fun e => by rw [e] at hj; simp at hj) b (by simp [fpv]))⟩

section
variable {H : Type} {enc : TypeId × Value → H} {P : Program} {w : World} {held : Bool}

theorem cells_get {a : Addr} {n : Nat} {l : List Value} {w : World} (h : w.cells? 0 a n = some l) : l.length = n ∧ ∀ i x, l[i]? = some x → w.cell? (a.add i) = some x := by
  have h2 : (List.range n).mapM (fun i => w.cell? (a.add i)) = some l := by simpa [World.cells?] using h
  have key : ∀ (r : List Nat) (l : List Value), r.mapM (fun i => w.cell? (a.add i)) = some l → l.length = r.length ∧ ∀ (i : Nat) k x, r[i]? = some k → l[i]? = some x → w.cell? (a.add k) = some x := by
    intro r
    induction r with
    | nil => intro l h; simp at h; subst h; simp
    | cons k r ih =>
      intro l h
      simp only [List.mapM_cons, Option.bind_eq_bind, Option.bind_eq_some_iff, Option.pure_def, Option.some.injEq] at h
      obtain ⟨y, hy, ys, hys, rfl⟩ := h
      obtain ⟨h3, h4⟩ := ih ys hys
      refine ⟨by simp [h3], fun i k' x hk hx => ?_⟩
      cases i with
      | zero => simp at hk hx; subst hk; subst hx; exact hy
      | succ i => exact h4 i k' x (by simpa using hk) (by simpa using hx)
  obtain ⟨h3, h4⟩ := key _ _ h2
  rw [List.length_range] at h3
  refine ⟨h3, fun i x hx => h4 i i x ?_ hx⟩
  have : i < n := by rw [← h3]; exact (List.getElem?_eq_some_iff.1 hx).1
  simp [this]

/-- A slice that reads, element by element. -/
theorem readsN_of_slice {t e : TypeId} {fuel : Nat} {v : Value} {x : DataW H × List MemPlace} (ht : P.underlying t = some (.slice e)) (hc : 0 < P.cellsOf e)
    (h : DataW.trod enc P w 0 (fun _ => true) held fuel t [v] = some x) :
    ∃ cs, ReadsN w v (P.cellsOf e) cs ∧ ∀ y ∈ cs, ∃ n d, DataW.trod enc P w 0 (fun _ => true) held n e y = some d := by
  rcases open_slice ht h with ⟨h1, _⟩ | ⟨a, len, cap, m, n, D, Pl, h1, _, hl, hm, hmm, _, hel⟩
  · simp only [List.cons.injEq, and_true] at h1
    subst h1
    exact ⟨[], ⟨none, 0, rfl, Nat.le_refl _, by simp [maxLen], by simp⟩, by simp⟩
  · simp only [List.cons.injEq, and_true] at h1
    subst h1
    have hle : len ≤ m := by rw [hmm]; simp; exact hl
    have hex : ∀ i : Nat, ∃ cs', i < len → w.cells? 0 (a.add (i * P.cellsOf e)) (P.cellsOf e) = some cs' ∧ DataW.trod enc P w 0 (fun _ => true) held n e cs' = some (D i, Pl i) := by
      intro i
      by_cases hi : i < len
      · obtain ⟨cs', h2⟩ := hel i (by omega)
        exact ⟨cs', fun _ => h2⟩
      · exact ⟨[], fun h => absurd h hi⟩
    obtain ⟨F, hF⟩ := Classical.axiomOfChoice hex
    refine ⟨(List.range len).map F, ⟨some a, cap, by simp, by simpa using hl, hm, fun j l hj => ?_⟩, fun y hy => ?_⟩
    · have hjl : j < len := by simpa using (List.getElem?_eq_some_iff.1 hj).1
      have e : F j = l := by simpa [hjl] using hj
      subst e
      obtain ⟨h2, h3⟩ := hF j hjl
      obtain ⟨h4, h5⟩ := cells_get h2
      refine ⟨h4, ?_⟩
      obtain ⟨b, off, spot⟩ := a
      have hspot : spot = none := by
        obtain ⟨h20, -⟩ := hF 0 (by omega)
        obtain ⟨h40, h50⟩ := cells_get h20
        obtain ⟨y, hy⟩ : ∃ y, (F 0)[0]? = some y := ⟨_, List.getElem?_eq_getElem (by omega)⟩
        have h6 := World.cell?_spot (h50 0 y hy)
        simpa [Addr.add] using h6
      subst hspot
      refine ⟨b, off, rfl, fun i x hx => ?_⟩
      have := h5 i x hx
      rwa [addr_add, addr_add] at this
    · obtain ⟨j, hj, rfl⟩ := List.mem_map.1 hy
      exact ⟨n, _, (hF j (by simpa using hj)).2⟩

theorem map_of_forall {α : Type} {f : α → List Value} {p : α → Prop} : ∀ {cs : List (List Value)}, (∀ y ∈ cs, ∃ s, y = f s ∧ p s) → ∃ ss : List α, cs = ss.map f ∧ ∀ s ∈ ss, p s
  | [], _ => ⟨[], rfl, by simp⟩
  | y :: cs, h => by
    obtain ⟨s, hy, hs⟩ := h y (by simp)
    subst hy
    obtain ⟨ss, rfl, hss⟩ := map_of_forall (cs := cs) (fun z hz => h z (by simp [hz]))
    exact ⟨s :: ss, rfl, by simpa using ⟨hs, hss⟩⟩

theorem ReadsN.one {v : Value} {cs : List Value} (h : ReadsN w v 1 (cs.map fun c => [c])) : Reads w v cs := by
  obtain ⟨ao, cap, e, h1, h2, h3⟩ := h
  rw [List.length_map] at e h1
  refine ⟨ao, cap, e, h1, h2, fun j x hj => ?_⟩
  obtain ⟨_, b, off, rfl, hc⟩ := h3 j [x] (by simp [hj])
  have := hc 0 x rfl
  simp only [Nat.mul_one, Nat.add_zero] at this
  exact ⟨b, off, rfl, this⟩

theorem bools_of_slice {t e : TypeId} {fuel : Nat} {v : Value} {x : DataW H × List MemPlace} (ht : P.underlying t = some (.slice e)) (he : P.underlying e = some .bool) (hc : P.cellsOf e = 1)
    (h : DataW.trod enc P w 0 (fun _ => true) held fuel t [v] = some x) : ∃ bs : List Bool, Reads w v (bs.map Value.bool) := by
  obtain ⟨cs, h1, h2⟩ := readsN_of_slice ht (by omega) h
  rw [hc] at h1
  obtain ⟨bs, rfl, -⟩ := map_of_forall (f := fun b : Bool => [Value.bool b]) (p := fun _ => True) (fun y hy => by
    obtain ⟨n, d, hd⟩ := h2 y hy
    obtain ⟨b, hb, _⟩ := DataW.trod_bool he hd
    exact ⟨b, hb, trivial⟩)
  exact ⟨bs, ReadsN.one (by simpa [Function.comp_def] using h1)⟩

theorem strings_of_slice {t e : TypeId} {fuel : Nat} {v : Value} {x : DataW H × List MemPlace} (ht : P.underlying t = some (.slice e)) (he : P.underlying e = some .string) (hc : P.cellsOf e = 1)
    (h : DataW.trod enc P w 0 (fun _ => true) held fuel t [v] = some x) : ∃ ss : List ByteArray, Reads w v (ss.map Value.string) ∧ ∀ s ∈ ss, s.size ≤ maxLen := by
  obtain ⟨cs, h1, h2⟩ := readsN_of_slice ht (by omega) h
  rw [hc] at h1
  obtain ⟨ss, rfl, hs⟩ := map_of_forall (f := fun b : ByteArray => [Value.string b]) (p := fun s => s.size ≤ maxLen) (fun y hy => by
    obtain ⟨n, d, hd⟩ := h2 y hy
    obtain ⟨b, hb, _, hm⟩ := DataW.trod_string he hd
    exact ⟨b, hb, hm⟩)
  exact ⟨ss, ReadsN.one (by simpa [Function.comp_def] using h1), hs⟩

end
end Go.Proofs.YtnffnpndnaofhaaGreatDoor

/- Two closed facts of the program that every row asks. No condition. -/
namespace Go.Proofs.YtnffnpndnaofhaaGreatDoor
open Go.RowKit

theorem own : ownKnob Tryz.prog.godebug = none := by kernel_rfl
theorem laidOut : laidOutB Tryz.prog = true := by kernel_rfl

theorem wf_bounds {n : Int} (h : (Lit.int .i64 n).wf = true) : -9223372036854775808 ≤ n ∧ n ≤ 9223372036854775807 := by
  simp only [Lit.wf, decide_eq_true_eq, Bool.and_eq_true] at h
  exact ⟨h.1, h.2⟩

end Go.Proofs.YtnffnpndnaofhaaGreatDoor

/- Pieces of memory that lie apart from one another, all of them newer than a first world: a list of them is the state of a walk. No condition but what each lemma says. -/
namespace Go.Proofs.YtnffnpndnaofhaaGreatDoor
open Go.RowKit

/-- A piece of memory: what holds of the blocks fp. -/
structure HP where
  at' : World → List Nat → Prop
  lt : ∀ {w : World} {fp : List Nat}, at' w fp → ∀ k ∈ fp, k < w.heap.size
  keep : ∀ {w w' : World} {fp : List Nat}, at' w fp → (∀ k ∈ fp, w'.heap[k]? = w.heap[k]?) → at' w' fp

def Sep : List HP → World → List Nat → Prop
  | [], _, fp => fp = []
  | p :: ps, w, fp => ∃ f g, fp = f ++ g ∧ p.at' w f ∧ Sep ps w g ∧ ∀ k ∈ f, k ∉ g

theorem Sep.lt : ∀ {ps : List HP} {w : World} {fp : List Nat}, Sep ps w fp → ∀ k ∈ fp, k < w.heap.size
  | [], _, _, h, k, hk => by rw [show _ = ([] : List Nat) from h] at hk; cases hk
  | p :: ps, w, fp, ⟨f, g, e, hp, hs, _⟩, k, hk => by
    subst e
    rcases List.mem_append.1 hk with h | h
    · exact p.lt hp k h
    · exact hs.lt k h

theorem Sep.keep : ∀ {ps : List HP} {w w' : World} {fp : List Nat}, Sep ps w fp → (∀ k ∈ fp, w'.heap[k]? = w.heap[k]?) → Sep ps w' fp
  | [], _, _, _, h, _ => h
  | p :: ps, w, w', fp, ⟨f, g, e, hp, hs, hd⟩, hk => by
    subst e
    exact ⟨f, g, rfl, p.keep hp (fun k h => hk k (List.mem_append_left _ h)), hs.keep (fun k h => hk k (List.mem_append_right _ h)), hd⟩

/-- Behind w0: the pieces ps lie apart, in new memory, and nothing that was there in w0 has changed. -/
structure St (w0 w : World) (ps : List HP) : Prop where
  pres : Pres [] w0 w
  sep : ∃ fp, Sep ps w fp ∧ ∀ k ∈ fp, w0.heap.size ≤ k

theorem St.start (w : World) : St w w [] := ⟨Pres.refl _ _, [], rfl, by simp⟩

/-- What holds of a piece behind a step that turned it alone. -/
def Turned (w : World) (fp : List Nat) (q : HP) (w' : World) : Prop := ∃ f', q.at' w' f' ∧ Pres fp w w' ∧ ∀ k ∈ f', k ∈ fp ∨ w.heap.size ≤ k

theorem Sep.turn : ∀ {ps : List HP} {w : World} {fp : List Nat} {p : HP} (i : Nat), ps[i]? = some p → Sep ps w fp →
    ∃ f, p.at' w f ∧ (∀ k ∈ f, k ∈ fp) ∧ ∀ (q : HP) (w' : World), Turned w f q w' → ∃ fp', Sep (ps.set i q) w' fp' ∧ ∀ k ∈ fp', k ∈ fp ∨ w.heap.size ≤ k
  | [], _, _, _, i, h, _ => by simp at h
  | p :: ps, w, fp, p', 0, h, ⟨f, g, e, hp, hs, hd⟩ => by
    simp only [List.getElem?_cons_zero, Option.some.injEq] at h
    subst h e
    refine ⟨f, hp, fun k hk => List.mem_append_left _ hk, fun q w' ⟨f', h1, h2, h3⟩ => ?_⟩
    refine ⟨f' ++ g, ⟨f', g, rfl, h1, hs.keep (fun k hk => h2.block k (hs.lt k hk) (fun hm => hd k hm hk)), fun k hk hm => ?_⟩, fun k hk => ?_⟩
    · rcases h3 k hk with h | h
      · exact hd k h hm
      · have := hs.lt k hm; omega
    · rcases List.mem_append.1 hk with h | h
      · rcases h3 k h with h4 | h4
        · exact .inl (List.mem_append_left _ h4)
        · exact .inr h4
      · exact .inl (List.mem_append_right _ h)
  | p :: ps, w, fp, p', i + 1, h, ⟨f, g, e, hp, hs, hd⟩ => by
    simp only [List.getElem?_cons_succ] at h
    subst e
    obtain ⟨f1, h1, h2, h3⟩ := hs.turn i h
    refine ⟨f1, h1, fun k hk => List.mem_append_right _ (h2 k hk), fun q w' ht => ?_⟩
    obtain ⟨g', h4, h5⟩ := h3 q w' ht
    obtain ⟨f', -, hpr, -⟩ := ht
    refine ⟨f ++ g', ⟨f, g', rfl, p.keep hp (fun k hk => hpr.block k (p.lt hp k hk) (fun hm => hd k hk (h2 k hm))), h4, fun k hk hm => ?_⟩, fun k hk => ?_⟩
    · rcases h5 k hm with h | h
      · exact hd k hk h
      · have := p.lt hp k hk; omega
    · rcases List.mem_append.1 hk with h | h
      · exact .inl (List.mem_append_left _ h)
      · rcases h5 k h with h6 | h6
        · exact .inl (List.mem_append_right _ h6)
        · exact .inr h6

/-- One piece turns, the others stay. -/
theorem St.turn {w0 w : World} {ps : List HP} {p : HP} (H : St w0 w ps) (i : Nat) (h : ps[i]? = some p) :
    ∃ f, p.at' w f ∧ (∀ k ∈ f, w0.heap.size ≤ k) ∧ ∀ (q : HP) (w' : World), Turned w f q w' → St w0 w' (ps.set i q) := by
  obtain ⟨fp, hs, hb⟩ := H.sep
  obtain ⟨f, h1, h2, h3⟩ := hs.turn i h
  refine ⟨f, h1, fun k hk => hb k (h2 k hk), fun q w' ht => ?_⟩
  obtain ⟨fp', h4, h5⟩ := h3 q w' ht
  obtain ⟨f', -, hpr, -⟩ := ht
  refine ⟨H.pres.trans hpr (fun x hx => .inr (hb x (h2 x hx))), fp', h4, fun k hk => ?_⟩
  rcases h5 k hk with h6 | h6
  · exact hb k h6
  · have := H.pres.size; omega

theorem St.get {w0 w : World} {ps : List HP} {p : HP} (H : St w0 w ps) (i : Nat) (h : ps[i]? = some p) : ∃ f, p.at' w f ∧ ∀ k ∈ f, w0.heap.size ≤ k := by
  obtain ⟨f, h1, h2, -⟩ := H.turn i h
  exact ⟨f, h1, h2⟩

/-- A call that turns the first piece alone. -/
theorem St.run {P : Program} {f : FuncId} {args : Array Value} {w0 w : World} {p q : HP} {ps : List HP} {R : Ending → Prop} (H : St w0 w (p :: ps))
    (c : ∀ fp, p.at' w fp → Calls P f args w fun e w' => R e ∧ Turned w fp q w') : Calls P f args w fun e w' => R e ∧ St w0 w' (q :: ps) := by
  obtain ⟨fp, h1, -, h2⟩ := H.turn 0 rfl
  exact (c fp h1).mono fun e w' h => ⟨h.1, h2 q w' h.2⟩

theorem St.quiet {w0 w w' : World} {ps : List HP} (H : St w0 w ps) (hp : Pres [] w w') : St w0 w' ps := by
  obtain ⟨fp, hs, hb⟩ := H.sep
  exact ⟨H.pres.then hp, fp, hs.keep (fun k hk => hp.block k (hs.lt k hk) (by simp)), hb⟩

theorem St.fresh {w0 w w' : World} {ps : List HP} (H : St w0 w ps) (q : HP) (hp : Pres [] w w') (h : ∃ f, q.at' w' f ∧ ∀ k ∈ f, w.heap.size ≤ k) : St w0 w' (q :: ps) := by
  obtain ⟨fp, hs, hb⟩ := H.sep
  obtain ⟨f, h1, h2⟩ := h
  refine ⟨H.pres.then hp, f ++ fp, ⟨f, fp, rfl, h1, hs.keep (fun k hk => hp.block k (hs.lt k hk) (by simp)), fun k hk hm => ?_⟩, fun k hk => ?_⟩
  · have := h2 k hk; have := hs.lt k hm; omega
  · rcases List.mem_append.1 hk with h | h
    · have := h2 k h; have := H.pres.size; omega
    · exact hb k h

theorem Sep.perm {w : World} {ps qs : List HP} (h : ps.Perm qs) : ∀ {fp : List Nat}, Sep ps w fp → ∃ fq, Sep qs w fq ∧ ∀ k, k ∈ fq ↔ k ∈ fp := by
  induction h with
  | nil => intro fp hs; exact ⟨fp, hs, fun _ => Iff.rfl⟩
  | cons x _ ih =>
    rintro fp ⟨f, g, rfl, hp, hs, hd⟩
    obtain ⟨g', h1, h2⟩ := ih hs
    exact ⟨f ++ g', ⟨f, g', rfl, hp, h1, fun k hk hm => hd k hk ((h2 k).1 hm)⟩, fun k => by simp [h2]⟩
  | swap x y l =>
    rintro fp ⟨f, g', rfl, hp, ⟨f2, g, rfl, hp2, hs, hd2⟩, hd⟩
    refine ⟨f2 ++ (f ++ g), ⟨f2, f ++ g, rfl, hp2, ⟨f, g, rfl, hp, hs, fun k hk hm => hd k hk (by simp [hm])⟩, fun k hk hm => ?_⟩, fun k => by simp [or_left_comm]⟩
    rcases List.mem_append.1 hm with h | h
    · exact hd k h (by simp [hk])
    · exact hd2 k hk h
  | trans _ _ ih1 ih2 =>
    intro fp hs
    obtain ⟨f1, h1, h2⟩ := ih1 hs
    obtain ⟨f2, h3, h4⟩ := ih2 h1
    exact ⟨f2, h3, fun k => (h4 k).trans (h2 k)⟩

theorem St.perm {w0 w : World} {ps qs : List HP} (H : St w0 w ps) (h : ps.Perm qs) : St w0 w qs := by
  obtain ⟨fp, hs, hb⟩ := H.sep
  obtain ⟨fq, h1, h2⟩ := hs.perm h
  exact ⟨H.pres, fq, h1, fun k hk => hb k ((h2 k).1 hk)⟩

theorem perm_pull {α : Type _} : ∀ {l : List α} (i : Nat) {x : α}, l[i]? = some x → l.Perm (x :: l.eraseIdx i)
  | [], i, x, h => by simp at h
  | y :: l, 0, x, h => by simp at h; subst h; simp
  | y :: l, i + 1, x, h => by
    simp only [List.getElem?_cons_succ] at h
    exact ((perm_pull i h).cons y).trans (List.Perm.swap x y _)

/-- Piece i comes to the head. -/
theorem St.pull {w0 w : World} {ps : List HP} {p : HP} (H : St w0 w ps) (i : Nat) (h : ps[i]? = some p) : St w0 w (p :: ps.eraseIdx i) := H.perm (perm_pull i h)

theorem St.drop {w0 w : World} {p : HP} {ps : List HP} (H : St w0 w (p :: ps)) : St w0 w ps := by
  obtain ⟨fp, ⟨f, g, rfl, -, hs, -⟩, hb⟩ := H.sep
  exact ⟨H.pres, g, hs, fun k hk => hb k (List.mem_append_right _ hk)⟩

/-- The first piece is seen otherwise. -/
theorem St.see {w0 w : World} {p q : HP} {ps : List HP} (H : St w0 w (p :: ps)) (h : ∀ fp, p.at' w fp → q.at' w fp) : St w0 w (q :: ps) := by
  obtain ⟨fp, ⟨f, g, rfl, hp, hs, hd⟩, hb⟩ := H.sep
  exact ⟨H.pres, f ++ g, ⟨f, g, rfl, h f hp, hs, hd⟩, hb⟩

/-! ## Kinds of pieces -/

/-- Two pieces as one. -/
def sepP (p q : HP) : HP where
  at' w fp := ∃ f g, fp = f ++ g ∧ p.at' w f ∧ q.at' w g ∧ ∀ k ∈ f, k ∉ g
  lt := by
    rintro w fp ⟨f, g, rfl, hp, hq, -⟩ k hk
    rcases List.mem_append.1 hk with h | h
    · exact p.lt hp k h
    · exact q.lt hq k h
  keep := by
    rintro w w' fp ⟨f, g, rfl, hp, hq, hd⟩ hk
    exact ⟨f, g, rfl, p.keep hp (fun k h => hk k (List.mem_append_left _ h)), q.keep hq (fun k h => hk k (List.mem_append_right _ h)), hd⟩

def exP {α : Type} (F : α → HP) : HP where
  at' w fp := ∃ x, (F x).at' w fp
  lt := by rintro w fp ⟨x, h⟩; exact (F x).lt h
  keep := by rintro w w' fp ⟨x, h⟩ hk; exact ⟨x, (F x).keep h hk⟩

def ifP (φ : Prop) (p : HP) : HP where
  at' w fp := φ ∧ p.at' w fp
  lt := by rintro w fp ⟨-, h⟩; exact p.lt h
  keep := by rintro w w' fp ⟨x, h⟩ hk; exact ⟨x, p.keep h hk⟩

def noneP : HP where
  at' _ fp := fp = []
  lt := by rintro w fp rfl k hk; cases hk
  keep := by rintro w w' fp rfl _; rfl

theorem St.split {w0 w : World} {p q : HP} {ps : List HP} (H : St w0 w (sepP p q :: ps)) : St w0 w (p :: q :: ps) := by
  obtain ⟨fp, ⟨f, g, rfl, ⟨f1, f2, rfl, hp, hq, h12⟩, hs, hd⟩, hb⟩ := H.sep
  refine ⟨H.pres, f1 ++ (f2 ++ g), ⟨f1, f2 ++ g, rfl, hp, ⟨f2, g, rfl, hq, hs, fun k hk hm => hd k (by simp [hk]) hm⟩, fun k hk hm => ?_⟩, fun k hk => hb k (by simpa [or_assoc] using hk)⟩
  rcases List.mem_append.1 hm with h | h
  · exact h12 k hk h
  · exact hd k (by simp [hk]) h

theorem St.join {w0 w : World} {p q : HP} {ps : List HP} (H : St w0 w (p :: q :: ps)) : St w0 w (sepP p q :: ps) := by
  obtain ⟨fp, ⟨f1, g', rfl, hp, ⟨f2, g, rfl, hq, hs, hd2⟩, hd⟩, hb⟩ := H.sep
  refine ⟨H.pres, (f1 ++ f2) ++ g, ⟨f1 ++ f2, g, rfl, ⟨f1, f2, rfl, hp, hq, fun k hk hm => hd k hk (by simp [hm])⟩, hs, fun k hk hm => ?_⟩, fun k hk => hb k (by simpa [or_assoc] using hk)⟩
  rcases List.mem_append.1 hk with h | h
  · exact hd k h (by simp [hm])
  · exact hd2 k h hm

theorem St.ex {α : Type} {w0 w : World} {F : α → HP} {ps : List HP} (H : St w0 w (exP F :: ps)) : ∃ x, St w0 w (F x :: ps) := by
  obtain ⟨fp, ⟨f, g, rfl, ⟨x, hp⟩, hs, hd⟩, hb⟩ := H.sep
  exact ⟨x, H.pres, f ++ g, ⟨f, g, rfl, hp, hs, hd⟩, hb⟩

theorem St.any {α : Type} {w0 w : World} {F : α → HP} {ps : List HP} (x : α) (H : St w0 w (F x :: ps)) : St w0 w (exP F :: ps) := H.see fun _ h => ⟨x, h⟩

theorem St.fact {w0 w : World} {φ : Prop} {p : HP} {ps : List HP} (H : St w0 w (ifP φ p :: ps)) : φ ∧ St w0 w (p :: ps) := by
  obtain ⟨fp, ⟨f, g, rfl, ⟨x, hp⟩, hs, hd⟩, hb⟩ := H.sep
  exact ⟨x, H.pres, f ++ g, ⟨f, g, rfl, hp, hs, hd⟩, hb⟩

theorem St.with {w0 w : World} {φ : Prop} {p : HP} {ps : List HP} (h : φ) (H : St w0 w (p :: ps)) : St w0 w (ifP φ p :: ps) := H.see fun _ hp => ⟨h, hp⟩

/-- A block known whole. -/
def objP (b : Nat) (cs : List Value) (E : TypeId) : HP where
  at' w fp := fp = [b] ∧ At w b cs E
  lt := by rintro w fp ⟨rfl, h⟩ k hk; simp at hk; subst hk; exact h.lt
  keep := by rintro w w' fp ⟨rfl, h⟩ hk; exact ⟨rfl, h.keep (hk b (by simp))⟩

/-- A slice that owns its block. -/
def slP (v : Value) (E : TypeId) (sz n : Nat) (xs : List Value) : HP where
  at' w fp := fp = fpv v ∧ Sl w E sz v n xs
  lt := by rintro w fp ⟨rfl, h⟩ k hk; exact h.lt k hk
  keep := by rintro w w' fp ⟨rfl, h⟩ hk; exact ⟨rfl, h.keep hk⟩

section
variable {w0 w : World} {ps : List HP}

theorem St.obj (H : St w0 w ps) (i : Nat) {b : Nat} {cs : List Value} {E : TypeId} (h : ps[i]? = some (objP b cs E)) : At w b cs E := by
  obtain ⟨f, ⟨-, h1⟩, -⟩ := H.get i h
  exact h1

theorem St.new (H : St w0 w ps) (i : Nat) {b : Nat} {cs : List Value} {E : TypeId} (h : ps[i]? = some (objP b cs E)) : w0.heap.size ≤ b := by
  obtain ⟨f, ⟨rfl, h1⟩, h2⟩ := H.get i h
  exact h2 b (by simp)

theorem St.sl (H : St w0 w ps) (i : Nat) {v : Value} {E : TypeId} {sz n : Nat} {xs : List Value} (h : ps[i]? = some (slP v E sz n xs)) : Sl w E sz v n xs := by
  obtain ⟨f, ⟨-, h1⟩, -⟩ := H.get i h
  exact h1

/-- A cell of a block is written. -/
theorem St.set (H : St w0 w ps) (i : Nat) {b : Nat} {cs : List Value} {E : TypeId} (h : ps[i]? = some (objP b cs E)) (j : Nat) (v : Value) : St w0 (w.setCell ⟨b, j, none⟩ v) (ps.set i (objP b (cs.set j v) E)) := by
  obtain ⟨f, ⟨rfl, h1⟩, -, h2⟩ := H.turn i h
  exact h2 _ _ ⟨[b], ⟨rfl, h1.setCell j v⟩, (Pres.refl _ _).setCell (by simp) _, fun k hk => .inl hk⟩

/-- A block is turned by some step of its own. -/
theorem St.put (H : St w0 w ps) (i : Nat) {b : Nat} {cs : List Value} {E : TypeId} (h : ps[i]? = some (objP b cs E)) {ds : List Value} {w' : World} (ha : At w' b ds E) (hp : Pres [b] w w') : St w0 w' (ps.set i (objP b ds E)) := by
  obtain ⟨f, ⟨rfl, h1⟩, -, h2⟩ := H.turn i h
  exact h2 _ _ ⟨[b], ⟨rfl, ha⟩, hp, fun k hk => .inl hk⟩

/-- A slice is appended to. -/
theorem St.grow (H : St w0 w ps) (i : Nat) {v : Value} {E : TypeId} {sz n : Nat} {xs : List Value} (h : ps[i]? = some (slP v E sz n xs)) {v' : Value} {n' : Nat} {ys : List Value} {w' : World}
    (ha : Sl w' E sz v' n' ys) (hp : Pres (fpv v) w w') (hf : ∀ k ∈ fpv v', k ∈ fpv v ∨ w.heap.size ≤ k) : St w0 w' (ps.set i (slP v' E sz n' ys)) := by
  obtain ⟨f, ⟨rfl, h1⟩, -, h2⟩ := H.turn i h
  exact h2 _ _ ⟨fpv v', ⟨rfl, ha⟩, hp, hf⟩

theorem St.drew (H : St w0 w ps) : St w0 w.drew ps := H.quiet (Pres.refl _ _).drew

theorem St.alloc (H : St w0 w ps) (cs : List Value) (E : TypeId) : St w0 (w.alloc (.cells cs.toArray E)) (objP w.heap.size cs E :: ps) :=
  H.fresh _ ((Pres.refl _ _).alloc _) ⟨[w.heap.size], ⟨rfl, At.new w cs E⟩, by simp⟩

theorem St.made (H : St w0 w ps) {cs : List Value} {E : TypeId} {w' : World} (ha : At w' w.heap.size cs E) (hp : Pres [] w w') : St w0 w' (objP w.heap.size cs E :: ps) :=
  H.fresh _ hp ⟨[w.heap.size], ⟨rfl, ha⟩, by simp⟩

theorem St.nil (H : St w0 w ps) (E : TypeId) (sz : Nat) : St w0 w (slP (.slice none 0 0) E sz 0 [] :: ps) :=
  H.fresh _ (Pres.refl _ _) ⟨[], ⟨rfl, Sl.nil w E sz⟩, by simp⟩

theorem St.slice (H : St w0 w ps) {v : Value} {E : TypeId} {sz n : Nat} {xs : List Value} {w' : World} (ha : Sl w' E sz v n xs) (hp : Pres [] w w') (hf : ∀ k ∈ fpv v, w.heap.size ≤ k) : St w0 w' (slP v E sz n xs :: ps) :=
  H.fresh _ hp ⟨fpv v, ⟨rfl, ha⟩, hf⟩
end

theorem Sep.apart : ∀ {ps : List HP} {w : World} {fp : List Nat} (i j : Nat) {p q : HP}, i < j → ps[i]? = some p → ps[j]? = some q → Sep ps w fp → ∃ f g, p.at' w f ∧ q.at' w g ∧ (∀ k ∈ f, k ∉ g) ∧ (∀ k ∈ g, k ∈ fp)
  | [], _, _, i, j, _, _, _, h, _, _ => by simp at h
  | p :: ps, w, fp, 0, j + 1, p', q, _, h1, h2, ⟨f, g, e, hp, hs, hd⟩ => by
    simp only [List.getElem?_cons_zero, Option.some.injEq] at h1
    subst h1 e
    simp only [List.getElem?_cons_succ] at h2
    obtain ⟨f2, h3, h4, -⟩ := hs.turn j h2
    exact ⟨f, f2, hp, h3, fun k hk hm => hd k hk (h4 k hm), fun k hk => List.mem_append_right _ (h4 k hk)⟩
  | p :: ps, w, fp, i + 1, j + 1, p', q, hlt, h1, h2, ⟨f, g, e, hp, hs, hd⟩ => by
    simp only [List.getElem?_cons_succ] at h1 h2
    subst e
    obtain ⟨f1, f2, h3, h4, h5, h6⟩ := hs.apart i j (by omega) h1 h2
    exact ⟨f1, f2, h3, h4, h5, fun k hk => List.mem_append_right _ (h6 k hk)⟩

/-- Two blocks of the state are not one. -/
theorem St.ne {w0 w : World} {ps : List HP} (H : St w0 w ps) (i j : Nat) (hij : i < j) {b c : Nat} {cs ds : List Value} {E F : TypeId} (h1 : ps[i]? = some (objP b cs E)) (h2 : ps[j]? = some (objP c ds F)) : b ≠ c := by
  obtain ⟨fp, hs, -⟩ := H.sep
  obtain ⟨f, g, ⟨rfl, -⟩, ⟨rfl, -⟩, h3, -⟩ := hs.apart i j hij h1 h2
  intro e
  subst e
  exact h3 b (by simp) (by simp)


/-- Slice v reads as cs, in the first world or as a piece of the state. -/
def Safe (w0 : World) (ps : List HP) (v : Value) (cs : List Value) : Prop := Reads w0 v cs ∨ (∃ (i : Nat) (E : TypeId) (n : Nat), ps[i]? = some (slP v E 1 n cs)) ∨ ∃ (i : Nat) (p : HP), ps[i]? = some p ∧ ∀ w fp, p.at' w fp → Reads w v cs ∧ ∀ k ∈ fpv v, k ∈ fp

theorem Safe.reads {w0 w : World} {ps : List HP} {v : Value} {cs : List Value} (h : Safe w0 ps v cs) (H : St w0 w ps) : Reads w v cs := by
  rcases h with h | ⟨i, E, n, h⟩ | ⟨i, p, h, hr⟩
  · exact h.pres H.pres (by simp)
  · exact (H.sl i h).reads
  · obtain ⟨f, h1, -⟩ := H.get i h
    exact (hr _ _ h1).1

theorem Safe.nil (w0 : World) (ps : List HP) : Safe w0 ps (.slice none 0 0) [] := .inl (Reads.nil w0)

/-- A call that turns the first piece alone, and reads a slice besides. -/
theorem St.runS {P : Program} {f : FuncId} {args : Array Value} {w0 w : World} {p q : HP} {ps : List HP} {R : Ending → Prop} {v : Value} {cs : List Value} (H : St w0 w (p :: ps)) (hs : Safe w0 ps v cs)
    (c : ∀ fp, p.at' w fp → (cs ≠ [] → ∀ k ∈ fpv v, k ∉ fp) → Calls P f args w fun e w' => R e ∧ Turned w fp q w') : Calls P f args w fun e w' => R e ∧ St w0 w' (q :: ps) := by
  obtain ⟨fq, ⟨fp, g, rfl, hp, hsp, hd⟩, hb⟩ := H.sep
  have hdis : cs ≠ [] → ∀ k ∈ fpv v, k ∉ fp := by
    intro hc k hk hm
    rcases hs with h | ⟨i, E, n, h⟩ | ⟨i, p', h, hr⟩
    · have := h.lt hc k hk
      have := hb k (List.mem_append_left _ hm)
      omega
    · obtain ⟨f2, ⟨rfl, -⟩, h2, -⟩ := hsp.turn i h
      exact hd k hm (h2 k hk)
    · obtain ⟨f2, h1, h2, -⟩ := hsp.turn i h
      exact hd k hm (h2 k ((hr _ _ h1).2 k hk))
  refine (c fp hp hdis).mono fun e w' h => ⟨h.1, ?_⟩
  obtain ⟨f', h1, h2, h3⟩ := h.2
  refine ⟨H.pres.trans h2 (fun x hx => .inr (hb x (List.mem_append_left _ hx))), f' ++ g, ⟨f', g, rfl, h1, hsp.keep (fun k hk => h2.block k (hsp.lt k hk) (fun hm => hd k hm hk)), fun k hk hm => ?_⟩, fun k hk => ?_⟩
  · rcases h3 k hk with h | h
    · exact hd k h hm
    · have := hsp.lt k hm; omega
  · rcases List.mem_append.1 hk with h | h
    · rcases h3 k h with h4 | h4
      · exact hb k (List.mem_append_left _ h4)
      · have := H.pres.size; omega
    · exact hb k (List.mem_append_right _ h)

end Go.Proofs.YtnffnpndnaofhaaGreatDoor
