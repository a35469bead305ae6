/- What a []Act (aquiferlaw08) reads as: a list of calls. No condition. -/
import Derived.Test.YtjaabhdgahljcaaDoorArgs
import Derived.Test.YtjaabhdgahljcaaDoorChecked
namespace Go.Proofs.YtjaabhdgahljcaaDoor
open Go.RowKit Go.WideShapes Go.ChangeShapes Go.Deep
set_option maxRecDepth 100000

structure ActD where
  kind : Int
  pos : Int
  s : ByteArray
  kv : Value
  keep : List Bool

def ActD.cells (a : ActD) : List Value := [.int .i64 a.kind, .int .i64 a.pos, .string a.s, a.kv]

structure ActD.Ok (w : World) (a : ActD) : Prop where
  kind : (Lit.int .i64 a.kind).wf = true
  pos : (Lit.int .i64 a.pos).wf = true
  s : a.s.size ≤ maxLen
  keep : Reads w a.kv (a.keep.map Value.bool)

/-- Slice v reads as these calls. -/
def ActsAt (w : World) (v : Value) (l : List ActD) : Prop := ReadsN w v 4 (l.map ActD.cells) ∧ ∀ a ∈ l, a.Ok w

theorem act_of_trod {H : Type} {enc : TypeId × Value → H} {w : World} {held : Bool} {n : Nat} {cs : List Value} {x : DataW H × List MemPlace}
    (h : DataW.trod enc Tryd.prog w 0 (fun _ => true) held n 35 cs = some x) : ∃ a : ActD, cs = a.cells ∧ a.Ok w := by
  obtain ⟨xs, m, _, _, hl, hlen, hf⟩ := DataW.trod_struct Tryd.underlying35 h
  have hc : Tryd.prog.cellsOf 35 = 4 := by kernel_rfl
  have ci : Tryd.prog.cellsOf 3 = 1 := by kernel_rfl
  have cst : Tryd.prog.cellsOf 9 = 1 := by kernel_rfl
  have cb : Tryd.prog.cellsOf 33 = 1 := by kernel_rfl
  have cbo : Tryd.prog.cellsOf 4 = 1 := by kernel_rfl
  rw [hc] at hl
  obtain ⟨c0, c1, c2, c3, rfl⟩ : ∃ c0 c1 c2 c3, cs = [c0, c1, c2, c3] := by
    match cs, hl with
    | [c0, c1, c2, c3], _ => exact ⟨c0, c1, c2, c3, rfl⟩
  have f0 : DataW.trod enc Tryd.prog w 0 (fun _ => true) held m 3 (([c0, c1, c2, c3].drop 0).take (Tryd.prog.cellsOf 3)) = xs[0]? := hf 0 _ rfl
  have f1 : DataW.trod enc Tryd.prog w 0 (fun _ => true) held m 3 (([c0, c1, c2, c3].drop 1).take (Tryd.prog.cellsOf 3)) = xs[1]? := hf 1 _ rfl
  have f2 : DataW.trod enc Tryd.prog w 0 (fun _ => true) held m 9 (([c0, c1, c2, c3].drop 2).take (Tryd.prog.cellsOf 9)) = xs[2]? := hf 2 _ rfl
  have f3 : DataW.trod enc Tryd.prog w 0 (fun _ => true) held m 33 (([c0, c1, c2, c3].drop 3).take (Tryd.prog.cellsOf 33)) = xs[3]? := hf 3 _ rfl
  rw [ci] at f0 f1
  rw [cst] at f2
  rw [cb] at f3
  have hx : ∀ i, i < 4 → ∃ y, xs[i]? = some y := fun i hi => ⟨_, List.getElem?_eq_getElem (by rw [hlen]; exact hi)⟩
  obtain ⟨y0, e0⟩ := hx 0 (by omega)
  obtain ⟨y1, e1⟩ := hx 1 (by omega)
  obtain ⟨y2, e2⟩ := hx 2 (by omega)
  obtain ⟨y3, e3⟩ := hx 3 (by omega)
  rw [e0] at f0
  rw [e1] at f1
  rw [e2] at f2
  rw [e3] at f3
  obtain ⟨a, ea, _, wa⟩ := DataW.trod_int Tryd.underlying3 f0
  obtain ⟨b, eb, _, wb⟩ := DataW.trod_int Tryd.underlying3 f1
  obtain ⟨s, es, _, hs⟩ := DataW.trod_string Tryd.underlying9 f2
  simp only [List.drop_zero, List.drop_succ_cons, List.take_succ_cons, List.take_zero, List.cons.injEq, and_true] at ea eb es f3
  subst ea eb es
  obtain ⟨bs, hb⟩ := bools_of_slice Tryd.underlying33 Tryd.underlying4 cbo f3
  exact ⟨⟨a, b, s, c3, bs⟩, rfl, ⟨wa, wb, hs, hb⟩⟩

theorem acts_of_slice {H : Type} {enc : TypeId × Value → H} {w : World} {held : Bool} {fuel : Nat} {v : Value} {x : DataW H × List MemPlace}
    (h : DataW.trod enc Tryd.prog w 0 (fun _ => true) held fuel 22 [v] = some x) : ∃ l : List ActD, ActsAt w v l := by
  have hc : Tryd.prog.cellsOf 35 = 4 := by kernel_rfl
  obtain ⟨cs, h1, h2⟩ := readsN_of_slice Tryd.underlying22 (by omega) h
  rw [hc] at h1
  obtain ⟨l, rfl, hl⟩ := map_of_forall (f := ActD.cells) (p := fun a => a.Ok w) (fun y hy => by
    obtain ⟨n, d, hd⟩ := h2 y hy
    exact act_of_trod hd)
  exact ⟨l, h1, hl⟩

theorem ActsAt.pres {fp : List Nat} {w w' : World} {v : Value} {l : List ActD} (h : ActsAt w v l) (hp : Pres fp w w') (hn : ∀ k < w.heap.size, k ∉ fp) : ActsAt w' v l := by
  have hlt : ∀ {m : Nat} {cs : List (List Value)}, 0 < m → ReadsN w v m cs → cs ≠ [] → ∀ k ∈ fpv v, k < w.heap.size := by
    intro m cs hm h hc k hk
    obtain ⟨ao, cap, rfl, _, _, h3⟩ := h
    obtain ⟨x, r, rfl⟩ := List.exists_cons_of_ne_nil hc
    obtain ⟨hl, b, off, rfl, h4⟩ := h3 0 x rfl
    simp [fpv] at hk
    subst hk
    obtain ⟨y, hy⟩ : ∃ y, x[0]? = some y := ⟨_, List.getElem?_eq_getElem (by omega)⟩
    exact World.block_lt_of_cell? w _ (h4 0 y hy)
  exact ⟨h.1.pres hp (fun hc k hk => hn k (hlt (by omega) h.1 hc k hk)), fun a ha => ⟨(h.2 a ha).kind, (h.2 a ha).pos, (h.2 a ha).s, (h.2 a ha).keep.pres hp (fun hc k hk => hn k ((h.2 a ha).keep.lt hc k hk))⟩⟩

/-- One call's cells. -/
theorem ActsAt.get {w : World} {v : Value} {l : List ActD} (h : ActsAt w v l) {k : Nat} {a : ActD} (ha : l[k]? = some a) :
    ∃ b off cap, v = .slice (some ⟨b, off, none⟩) l.length cap ∧ l.length ≤ cap ∧ cap ≤ maxLen ∧ (∀ i x, a.cells[i]? = some x → w.cell? ⟨b, off + k * 4 + i, none⟩ = some x) ∧ b < w.heap.size := by
  obtain ⟨ao, cap, rfl, h1, h2, h3⟩ := h.1
  rw [List.length_map] at h1
  obtain ⟨_, b, off, rfl, h4⟩ := h3 k a.cells (by simp [ha])
  exact ⟨b, off, cap, by simp, h1, h2, h4, World.block_lt_of_cell? w _ (h4 0 _ rfl)⟩

end Go.Proofs.YtjaabhdgahljcaaDoor
