/- What the arguments of a statement read as, in the words of Base (Reads, ReadsN); from the row's own reading (DataW.trod). No condition. -/
import Derived.Test.YtjaabhdgahljcaaDoorBase
import Derived.ProofKit
import Derived.Deep.Slices
import Derived.Lib.SmallJoins
namespace Go.Proofs.YtjaabhdgahljcaaDoor
open Go.RowKit Go.WideShapes Go.ChangeShapes Go.Deep

/-- Slice v reads as cs, each element so many cells. -/
def ReadsN (w : World) (v : Value) (m : Nat) (cs : List (List Value)) : Prop :=
  ∃ ao cap, v = .slice ao cs.length cap ∧ cs.length ≤ cap ∧ cap ≤ maxLen ∧ ∀ j l, cs[j]? = some l → l.length = m ∧ ∃ b off, ao = some ⟨b, off, none⟩ ∧ ∀ i x, l[i]? = some x → w.cell? ⟨b, off + j * m + i, none⟩ = some x

theorem ReadsN.pres {fp : List Nat} {w w' : World} {v : Value} {m : Nat} {cs : List (List Value)} (h : ReadsN w v m cs) (hp : Pres fp w w') (hn : cs ≠ [] → ∀ k ∈ fpv v, k ∉ fp) : ReadsN w' v m cs := by
  obtain ⟨ao, cap, rfl, h1, h2, h3⟩ := h
  refine ⟨ao, cap, rfl, h1, h2, fun j l hj => ?_⟩
  obtain ⟨hl, b, off, rfl, hc⟩ := h3 j l hj
  exact ⟨hl, b, off, rfl, fun i x hx => hp.cell (hc i x hx) (hn (fun e => by rw [e] at hj; simp at hj) b (by simp [fpv]))⟩

section
variable {H : Type} {enc : TypeId × Value → H} {P : Program} {w : World} {held : Bool}

theorem cells_get {a : Addr} {n : Nat} {l : List Value} {w : World} (h : w.cells? 0 a n = some l) : l.length = n ∧ ∀ i x, l[i]? = some x → w.cell? (a.add i) = some x := by
  have h2 : (List.range n).mapM (fun i => w.cell? (a.add i)) = some l := by simpa [World.cells?] using h
  have key : ∀ (r : List Nat) (l : List Value), r.mapM (fun i => w.cell? (a.add i)) = some l → l.length = r.length ∧ ∀ (i : Nat) k x, r[i]? = some k → l[i]? = some x → w.cell? (a.add k) = some x := by
    intro r
    induction r with
    | nil => intro l h; simp at h; subst h; simp
    | cons k r ih =>
      intro l h
      simp only [List.mapM_cons, Option.bind_eq_bind, Option.bind_eq_some_iff, Option.pure_def, Option.some.injEq] at h
      obtain ⟨y, hy, ys, hys, rfl⟩ := h
      obtain ⟨h3, h4⟩ := ih ys hys
      refine ⟨by simp [h3], fun i k' x hk hx => ?_⟩
      cases i with
      | zero => simp at hk hx; subst hk; subst hx; exact hy
      | succ i => exact h4 i k' x (by simpa using hk) (by simpa using hx)
  obtain ⟨h3, h4⟩ := key _ _ h2
  rw [List.length_range] at h3
  refine ⟨h3, fun i x hx => h4 i i x ?_ hx⟩
  have : i < n := by rw [← h3]; exact (List.getElem?_eq_some_iff.1 hx).1
  simp [this]

/-- A slice that reads, element by element. -/
theorem readsN_of_slice {t e : TypeId} {fuel : Nat} {v : Value} {x : DataW H × List MemPlace} (ht : P.underlying t = some (.slice e)) (hc : 0 < P.cellsOf e)
    (h : DataW.trod enc P w 0 (fun _ => true) held fuel t [v] = some x) :
    ∃ cs, ReadsN w v (P.cellsOf e) cs ∧ ∀ y ∈ cs, ∃ n d, DataW.trod enc P w 0 (fun _ => true) held n e y = some d := by
  rcases open_slice ht h with ⟨h1, _⟩ | ⟨a, len, cap, m, n, D, Pl, h1, _, hl, hm, hmm, _, hel⟩
  · simp only [List.cons.injEq, and_true] at h1
    subst h1
    exact ⟨[], ⟨none, 0, rfl, Nat.le_refl _, by simp [maxLen], by simp⟩, by simp⟩
  · simp only [List.cons.injEq, and_true] at h1
    subst h1
    have hle : len ≤ m := by rw [hmm]; simp; exact hl
    have hex : ∀ i : Nat, ∃ cs', i < len → w.cells? 0 (a.add (i * P.cellsOf e)) (P.cellsOf e) = some cs' ∧ DataW.trod enc P w 0 (fun _ => true) held n e cs' = some (D i, Pl i) := by
      intro i
      by_cases hi : i < len
      · obtain ⟨cs', h2⟩ := hel i (by omega)
        exact ⟨cs', fun _ => h2⟩
      · exact ⟨[], fun h => absurd h hi⟩
    obtain ⟨F, hF⟩ := Classical.axiomOfChoice hex
    refine ⟨(List.range len).map F, ⟨some a, cap, by simp, by simpa using hl, hm, fun j l hj => ?_⟩, fun y hy => ?_⟩
    · have hjl : j < len := by simpa using (List.getElem?_eq_some_iff.1 hj).1
      have e : F j = l := by simpa [hjl] using hj
      subst e
      obtain ⟨h2, h3⟩ := hF j hjl
      obtain ⟨h4, h5⟩ := cells_get h2
      refine ⟨h4, ?_⟩
      obtain ⟨b, off, spot⟩ := a
      have hspot : spot = none := by
        obtain ⟨h20, -⟩ := hF 0 (by omega)
        obtain ⟨h40, h50⟩ := cells_get h20
        obtain ⟨y, hy⟩ : ∃ y, (F 0)[0]? = some y := ⟨_, List.getElem?_eq_getElem (by omega)⟩
        have h6 := World.cell?_spot (h50 0 y hy)
        simpa [Addr.add] using h6
      subst hspot
      refine ⟨b, off, rfl, fun i x hx => ?_⟩
      have := h5 i x hx
      rwa [addr_add, addr_add] at this
    · obtain ⟨j, hj, rfl⟩ := List.mem_map.1 hy
      exact ⟨n, _, (hF j (by simpa using hj)).2⟩

theorem map_of_forall {α : Type} {f : α → List Value} {p : α → Prop} : ∀ {cs : List (List Value)}, (∀ y ∈ cs, ∃ s, y = f s ∧ p s) → ∃ ss : List α, cs = ss.map f ∧ ∀ s ∈ ss, p s
  | [], _ => ⟨[], rfl, by simp⟩
  | y :: cs, h => by
    obtain ⟨s, hy, hs⟩ := h y (by simp)
    subst hy
    obtain ⟨ss, rfl, hss⟩ := map_of_forall (cs := cs) (fun z hz => h z (by simp [hz]))
    exact ⟨s :: ss, rfl, by simpa using ⟨hs, hss⟩⟩

theorem ReadsN.one {v : Value} {cs : List Value} (h : ReadsN w v 1 (cs.map fun c => [c])) : Reads w v cs := by
  obtain ⟨ao, cap, e, h1, h2, h3⟩ := h
  rw [List.length_map] at e h1
  refine ⟨ao, cap, e, h1, h2, fun j x hj => ?_⟩
  obtain ⟨_, b, off, rfl, hc⟩ := h3 j [x] (by simp [hj])
  have := hc 0 x rfl
  simp only [Nat.mul_one, Nat.add_zero] at this
  exact ⟨b, off, rfl, this⟩

theorem bools_of_slice {t e : TypeId} {fuel : Nat} {v : Value} {x : DataW H × List MemPlace} (ht : P.underlying t = some (.slice e)) (he : P.underlying e = some .bool) (hc : P.cellsOf e = 1)
    (h : DataW.trod enc P w 0 (fun _ => true) held fuel t [v] = some x) : ∃ bs : List Bool, Reads w v (bs.map Value.bool) := by
  obtain ⟨cs, h1, h2⟩ := readsN_of_slice ht (by omega) h
  rw [hc] at h1
  obtain ⟨bs, rfl, -⟩ := map_of_forall (f := fun b : Bool => [Value.bool b]) (p := fun _ => True) (fun y hy => by
    obtain ⟨n, d, hd⟩ := h2 y hy
    obtain ⟨b, hb, _⟩ := DataW.trod_bool he hd
    exact ⟨b, hb, trivial⟩)
  exact ⟨bs, ReadsN.one (by simpa [Function.comp_def] using h1)⟩

theorem strings_of_slice {t e : TypeId} {fuel : Nat} {v : Value} {x : DataW H × List MemPlace} (ht : P.underlying t = some (.slice e)) (he : P.underlying e = some .string) (hc : P.cellsOf e = 1)
    (h : DataW.trod enc P w 0 (fun _ => true) held fuel t [v] = some x) : ∃ ss : List ByteArray, Reads w v (ss.map Value.string) ∧ ∀ s ∈ ss, s.size ≤ maxLen := by
  obtain ⟨cs, h1, h2⟩ := readsN_of_slice ht (by omega) h
  rw [hc] at h1
  obtain ⟨ss, rfl, hs⟩ := map_of_forall (f := fun b : ByteArray => [Value.string b]) (p := fun s => s.size ≤ maxLen) (fun y hy => by
    obtain ⟨n, d, hd⟩ := h2 y hy
    obtain ⟨b, hb, _, hm⟩ := DataW.trod_string he hd
    exact ⟨b, hb, hm⟩)
  exact ⟨ss, ReadsN.one (by simpa [Function.comp_def] using h1), hs⟩

end
end Go.Proofs.YtjaabhdgahljcaaDoor
