/- append of whatever reads as cells (a slice, nil, a text) to a slice that owns its block; conditions stand in the lemmas. -/
import Derived.Test.YtjaabhdgahljcaaDoorSt
import Derived.Laws.IdiomStrings
namespace Go.Proofs.YtjaabhdgahljcaaDoor
open Go.RowKit

/-- A text as a cell. -/
def strV (l : List UInt8) : Value := .string ⟨l.toArray⟩

/-- x has m elements of sz cells each, which read as news. -/
structure Src (P : Program) (w : World) (tx : TypeId) (sz : Nat) (x : Value) (m : Nat) (news : List Value) : Prop where
  ty : P.underlying tx = some .string ∨ ∃ E, P.underlying tx = some (.slice E)
  len : ∀ W, (Builtin.lenOf x).run P W = .ok m W
  cells : (Builtin.firstCells sz m x).run P w = .ok news.toArray w
  drew : (Builtin.firstCells sz m x).run P w.drew = .ok news.toArray w.drew
  size : news.length = m * sz
  one : ∀ u ∈ news, u.oneCell' = true

theorem Src.slice {P : Program} {w : World} {tx E : TypeId} {sz : Nat} (ht : P.underlying tx = some (.slice E)) {ad : Addr} {m c : Nat} {news : List Value} (hl : news.length = m * sz)
    (hn : ∀ j u, news[j]? = some u → w.cell? (ad.add j) = some u) (h1 : ∀ u ∈ news, u.oneCell' = true) : Src P w tx sz (.slice (some ad) m c) m news :=
  ⟨.inr ⟨_, ht⟩, fun W => by simp [Builtin.lenOf], run_firstCells_some (P := P) w sz m ad m c news hl hn, run_firstCells_some (P := P) w.drew sz m ad m c news hl (by simpa using hn), hl, h1⟩

theorem Src.nil {P : Program} {w : World} {tx E : TypeId} {sz c : Nat} (ht : P.underlying tx = some (.slice E)) : Src P w tx sz (.slice none 0 c) 0 [] :=
  ⟨.inr ⟨_, ht⟩, fun W => by simp [Builtin.lenOf], by simp [Builtin.firstCells], by simp [Builtin.firstCells], by simp, by simp⟩

theorem Src.text {P : Program} {w : World} {tx : TypeId} (ht : P.underlying tx = some .string) (s : ByteArray) : Src P w tx 1 (.string s) s.size (s.data.toList.map byteV) :=
  ⟨.inl ht, fun W => by simp [Builtin.lenOf], by have := firstCells_string (P := P) (w := w) s s.size; rwa [List.take_of_length_le (by simp)] at this,
    by have := firstCells_string (P := P) (w := w.drew) s s.size; rwa [List.take_of_length_le (by simp)] at this, by simp, bytes_one⟩

/-- A slice that owns its block, as a source. -/
theorem Src.sl {P : Program} {w : World} {tx E E' : TypeId} {sz : Nat} (ht : P.underlying tx = some (.slice E)) {v : Value} {n : Nat} {xs : List Value} (h : Sl w E' sz v n xs) (h1 : ∀ u ∈ xs, u.oneCell' = true) : Src P w tx sz v n xs := by
  rcases h.2 with ⟨rfl, rfl⟩ | ⟨g, cap, cur, rfl, hg, h2, h3, h4, h5⟩
  · have : xs = [] := List.eq_nil_of_length_eq_zero (by simpa using h.1)
    subst this
    exact Src.nil ht
  · refine Src.slice ht h.1 (fun j u hj => ?_) h1
    rw [← h5] at hj
    have := hg.piece 0 (n * sz) j u (by simpa using hj)
    simpa using this

theorem Src.reads {P : Program} {w : World} {tx E : TypeId} (ht : P.underlying tx = some (.slice E)) {v : Value} {cs : List Value} (h : Reads w v cs) (h1 : ∀ u ∈ cs, u.oneCell' = true) : Src P w tx 1 v cs.length cs := by
  obtain ⟨ao, cap, rfl, -, -, hr⟩ := h
  cases cs with
  | nil => cases ao with
    | none => exact Src.nil ht
    | some ad => exact Src.slice ht (by simp) (by simp) (by simp)
  | cons x cs =>
    obtain ⟨b, off, rfl, -⟩ := hr 0 x rfl
    exact Src.slice ht (by simp) (fun j u hj => by
      obtain ⟨b', off', e, h⟩ := hr j u hj
      simp only [Option.some.injEq, Addr.mk.injEq, and_true] at e
      obtain ⟨rfl, rfl⟩ := e
      rw [addr_add]; exact h) h1

/-- A block known whole, as a source. -/
theorem Src.at {P : Program} {w : World} {tx E F : TypeId} {sz : Nat} (ht : P.underlying tx = some (.slice E)) {b m c : Nat} {cs : List Value} (h : At w b cs F) (hl : cs.length = m * sz) (h1 : ∀ u ∈ cs, u.oneCell' = true) : Src P w tx sz (.slice (some ⟨b, 0, none⟩) m c) m cs :=
  Src.slice ht hl (fun j u hu => by rw [addr_add, Nat.zero_add, h.cell]; exact hu) h1

theorem sl_cells {w : World} {E : TypeId} {g n cap sz : Nat} {xs : List Value} (h : Sl w E sz (.slice (some ⟨g, 0, none⟩) n cap) n xs) {j : Nat} {x : Value} (hj : xs[j]? = some x) : w.cell? ⟨g, j, none⟩ = some x := by
  rcases h.2 with ⟨e, _⟩ | ⟨g', cap', cur, e, hg, -, -, hc, ht⟩
  · cases e
  · simp only [Value.slice.injEq, Option.some.injEq, Addr.mk.injEq, and_true] at e
    obtain ⟨rfl, -⟩ := e
    rw [← ht, List.getElem?_take] at hj
    split at hj
    · rw [hg.cell]; exact hj
    · cases hj

theorem piece_get {α : Type} {l m : List α} {a n : Nat} (h : (l.drop a).take n = m) (j : Nat) {x : α} (hj : m[j]? = some x) : l[a + j]? = some x := by
  rw [← h, List.getElem?_take] at hj
  split at hj
  · rwa [List.getElem?_drop] at hj
  · cases hj

theorem map_set {α β : Type} (f : α → β) (l : List α) (i : Nat) (x : α) : (l.map f).set i (f x) = (l.set i x).map f := by rw [List.map_set]

/-- A cell of a slice that owns its block is written. -/
theorem St.sset {w0 w : World} {ps : List HP} (H : St w0 w ps) (i : Nat) {g n cap : Nat} {E : TypeId} {xs : List Value} (h : ps[i]? = some (slP (.slice (some ⟨g, 0, none⟩) n cap) E 1 n xs)) (j : Nat) (hj : j < n) (u : Value) :
    St w0 (w.setCell ⟨g, j, none⟩ u) (ps.set i (slP (.slice (some ⟨g, 0, none⟩) n cap) E 1 n (xs.set j u))) := by
  obtain ⟨f, ⟨rfl, h1⟩, -, h2⟩ := H.turn i h
  refine h2 _ _ ⟨_, ⟨rfl, ?_⟩, (Pres.refl _ _).setCell (by simp [fpv]) _, fun k hk => .inl hk⟩
  have hl := h1.1
  rcases h1.2 with ⟨e, -⟩ | ⟨g', cap', cur, e, hg, h3, h4, h5, h6⟩
  · cases e
  · simp only [Value.slice.injEq, Option.some.injEq, Addr.mk.injEq, and_true, true_and] at e
    obtain ⟨rfl, rfl⟩ := e
    refine ⟨by simpa using hl, .inr ⟨g, cap, cur.set j u, rfl, hg.setCell j u, h3, h4, by simpa using h5, ?_⟩⟩
    rw [← h6, List.take_set]

theorem Sl.frozen {w : World} {E : TypeId} {g n cap sz : Nat} {xs : List Value} (h : Sl w E sz (.slice (some ⟨g, 0, none⟩) n cap) n xs) (j : Nat) : w.frozen? ⟨g, j, none⟩ = false := by
  rcases h.2 with ⟨e, _⟩ | ⟨g', cap', cur, e, hg, -⟩
  · cases e
  · simp only [Value.slice.injEq, Option.some.injEq, Addr.mk.injEq, and_true] at e
    obtain ⟨rfl, -⟩ := e
    exact hg.frozen j


theorem run_append_src {P : Program} {w : World} {t tx ty E : TypeId} {i : TypeInfo} {z : Value} {sz : Nat} (ht : P.underlying t = some (.slice E)) (hi : P.info? E = some i) (hz : i.zero = some z)
    (hsize : i.size = sz) (hzs : z.cells.size = sz) {v : Value} {n : Nat} {xs : List Value} (hs : Sl w E sz v n xs)
    {x : Value} {m : Nat} {news : List Value} (hx : Src P w tx sz x m news) (h63 : n + m ≤ maxLen) (hbytes : (n + m) * i.bytes ≤ 140737488355328) :
    ∃ v' w', (Builtin.append_ #[t, tx] ty #[v, x]).run P w = .ok v' w' ∧ Sl w' E sz v' (n + m) (xs ++ news) ∧ Pres (fpv v) w w' ∧ (∀ k ∈ fpv v', k ∈ fpv v ∨ w.heap.size ≤ k) := by
  subst hsize
  obtain ⟨hd, hlen', hcells, hdrew, hl, h1⟩ := hx
  have hsmall : n + m ≤ 9223372036854775807 := by simp only [maxLen] at h63; omega
  have hlen : (xs ++ news).length = (n + m) * i.size := by rw [List.length_append, hs.1, hl, Nat.add_mul]
  have grown : ∀ (old : Nat) (fp : List Nat),
      Sl (w.drew.alloc (.cells (xs.toArray ++ news.toArray ++ Builtin.zeroCells z.cells (grownCap w (n + m) old E - (n + m))) E)) E i.size
        (.slice (some ⟨w.heap.size, 0, none⟩) (n + m) (grownCap w (n + m) old E)) (n + m) (xs ++ news) ∧
      Pres fp w (w.drew.alloc (.cells (xs.toArray ++ news.toArray ++ Builtin.zeroCells z.cells (grownCap w (n + m) old E - (n + m))) E)) := by
    intro old fp
    have hge := grownCap_ge w (n + m) old E
    have hcm : grownCap w (n + m) old E ≤ maxLen := grownCap_le_maxLen w (n + m) old E h63
    refine ⟨⟨hlen, .inr ⟨w.heap.size, _, xs ++ news ++ (Builtin.zeroCells z.cells (grownCap w (n + m) old E - (n + m))).toList, rfl, ?_, hge, hcm, ?_, ?_⟩⟩, ((Pres.refl _ _).drew).alloc _⟩
    · unfold At
      rw [show w.heap.size = w.drew.heap.size from rfl, heap_alloc_new]
      simp
    · have h2 : (Builtin.zeroCells z.cells (grownCap w (n + m) old E - (n + m))).toList.length = (grownCap w (n + m) old E - (n + m)) * i.size := by
        rw [Array.length_toList, size_zeroCells, hzs]
      rw [List.length_append, hlen, h2, ← Nat.add_mul]
      congr 1
      omega
    · rw [← hlen]; exact List.take_left
  rcases hs.2 with ⟨rfl, rfl⟩ | ⟨g, cap, cur, rfl, hg, hnc, hcm, hcs, htake⟩
  · have hx : xs = [] := List.eq_nil_of_length_eq_zero (by simpa using hs.1)
    subst hx
    by_cases hm : m = 0
    · subst hm
      have hn : news = [] := List.eq_nil_of_length_eq_zero (by simpa using hl)
      subst hn
      refine ⟨.slice none 0 0, w, ?_, Sl.nil w E i.size, Pres.refl _ _, by simp [fpv]⟩
      rcases hd with hd | ⟨E', hd⟩ <;> simp [Builtin.append_, run_underlying ht, run_underlying hd, sizeOf, typeInfo, hi, hlen', hcells]
    · have h63' : ¬ (9223372036854775807 < (m : Int)) := by omega
      have h48' : ¬ (281474976710656 < Builtin.nextslicecap m 0 * i.bytes) := by rw [nextslicecap_zero (by omega)]; have hb := hbytes; simp only [Nat.zero_add] at hb; omega
      have hgr := grown 0 (fpv (.slice none 0 0))
      simp only [Nat.zero_add, List.nil_append, Array.empty_append] at hgr ⊢
      refine ⟨_, _, ?_, hgr.1, hgr.2, by simp [fpv]⟩
      rcases hd with hd | ⟨E', hd⟩ <;> simp [Builtin.append_, run_underlying ht, run_underlying hd, sizeOf, typeInfo, zeroValue, hi, hz, hlen', hm, h63', h48', Question.forced, run_firstCells_none, hdrew, newRow, grownCap]
  · by_cases hroom : n + m ≤ cap
    · have hfit : n * i.size + news.length ≤ cur.toArray.size := by rw [hl, List.size_toArray, hcs, ← Nat.add_mul]; exact Nat.mul_le_mul_right _ hroom
      have hst := run_storeCells_at P g (n * i.size) E news 0 cur.toArray w hg (by simpa using hfit) h1
      simp only [Nat.add_zero] at hst
      refine ⟨.slice (some ⟨g, 0, none⟩) (n + m) cap, w.setRow g (cur.take (n * i.size) ++ news ++ cur.drop (n * i.size + news.length)).toArray, ?_, ⟨hlen, .inr ⟨g, cap, _, rfl, hg.setRow _, hroom, hcm, ?_, ?_⟩⟩, (Pres.refl _ _).setRow (by simp [fpv]) _, by simp [fpv]⟩
      · have hadd : (⟨g, 0, none⟩ : Addr).add (n * i.size) = ⟨g, n * i.size, none⟩ := by rw [addr_add]; simp
        rcases hd with hd | ⟨E', hd⟩ <;> simp [Builtin.append_, run_underlying ht, run_underlying hd, sizeOf, typeInfo, hi, hlen', hroom, hcells, hadd, hst]
      · simp only [List.length_append, List.length_take, List.length_drop, List.size_toArray] at hfit ⊢
        omega
      · rw [htake, ← hlen]
        exact List.take_left
    · have holds : ∀ j u, xs[j]? = some u → w.drew.cell? ((⟨g, 0, none⟩ : Addr).add j) = some u := by
        rw [← htake]; simpa using hg.piece 0 (n * i.size)
      have hfo := run_firstCells_some (P := P) w.drew i.size n ⟨g, 0, none⟩ n cap xs hs.1 holds
      have h63' : ¬ (9223372036854775807 < ((n : Int) + (m : Int))) := by omega
      have h48' : ¬ (281474976710656 < Builtin.nextslicecap (n + m) cap * i.bytes) := by have := growslice_fits (need := n + m) (old := cap) (bytes := i.bytes) (by omega) hbytes; omega
      have hgr := grown cap (fpv (.slice (some ⟨g, 0, none⟩) n cap))
      refine ⟨_, _, ?_, hgr.1, hgr.2, by simp [fpv]⟩
      rcases hd with hd | ⟨E', hd⟩ <;> (simp [Builtin.append_, run_underlying ht, run_underlying hd, sizeOf, typeInfo, zeroValue, hi, hz, hlen', hroom, h63', h48', Question.forced, hdrew, hfo, newRow, grownCap]; congr 2; apply Array.ext'; simp [List.append_assoc])

section
variable {P : Program} {ops : Array Oper} {rest : List Oper} {o : Oper} {a : Act} {w : World} {Q : Exit → Act → World → Prop} {K : Act → World → Prop}

theorem wp_app (s x : Operand) (t tx : TypeId) (ho : o.op = .call { callee := .builtin .append, args := #[s, x], argTypes := #[t, tx] })
    (E : TypeId) (i : TypeInfo) (z : Value) (sz : Nat) (ht : P.underlying t = some (.slice E)) (hi : P.info? E = some i) (hz : i.zero = some z) (hsize : i.size = sz) (hzs : z.cells.size = sz)
    (v : Value) (n : Nat) (xs : List Value) (hsv : a.eval s = v) (hs : Sl w E sz v n xs) (m : Nat) (news : List Value) (hx : Src P w tx sz (a.eval x) m news)
    (h63 : n + m ≤ maxLen) (hbytes : (n + m) * i.bytes ≤ 140737488355328)
    (hk : ∀ v' w', Sl w' E sz v' (n + m) (xs ++ news) → Pres (fpv v) w w' → (∀ k ∈ fpv v', k ∈ fpv v ∨ w.heap.size ≤ k) → K (a.put o.dst v') w') : o.wp P a w K Q := by
  obtain ⟨v', w', hr, h2, h3, h4⟩ := run_append_src (P := P) (ty := o.type) ht hi hz hsize hzs hs hx h63 hbytes
  unfold Oper.wp execOp
  simp only [ho, resolve, invoke, builtin, Sem.run_bind, Sem.run_pure, Result.andThen_ok, List.map_toArray, List.map_cons, List.map_nil, hsv, hr]
  exact hk v' w' h2 h3 h4

/-- append in a plain list of operations. -/
theorem wpL_app (hgd : o.guard = none) (s x : Operand) (t tx : TypeId) (ho : o.op = .call { callee := .builtin .append, args := #[s, x], argTypes := #[t, tx] })
    (E : TypeId) (i : TypeInfo) (z : Value) (sz : Nat) (ht : P.underlying t = some (.slice E)) (hi : P.info? E = some i) (hz : i.zero = some z) (hsize : i.size = sz) (hzs : z.cells.size = sz)
    (v : Value) (n : Nat) (xs : List Value) (hsv : a.eval s = v) (hs : Sl w E sz v n xs) (m : Nat) (news : List Value) (hx : Src P w tx sz (a.eval x) m news)
    (h63 : n + m ≤ maxLen) (hbytes : (n + m) * i.bytes ≤ 140737488355328)
    (hk : ∀ v' w', Sl w' E sz v' (n + m) (xs ++ news) → Pres (fpv v) w w' → (∀ k ∈ fpv v', k ∈ fpv v ∨ w.heap.size ≤ k) → wpList P ops Q rest (a.put o.dst v') w') : wpList P ops Q (o :: rest) a w :=
  wpList_plain hgd fun _ hK => wp_app s x t tx ho E i z sz ht hi hz hsize hzs v n xs hsv hs m news hx h63 hbytes fun v' w' a1 a2 a3 => hK _ _ (hk v' w' a1 a2 a3)

end

/-- []byte(text): a slice that reads as the text's bytes. -/
theorem wpL_string_bytes {P : Program} {ops : Array Oper} {rest : List Oper} {o : Oper} {a : Act} {w : World} {Q : Exit → Act → World → Prop} (hgd : o.guard = none) (src dst : TypeId) (x : Operand) (ho : o.op = .convert src dst x) (e : TypeId) (hs : P.underlying src = some .string) (hd : P.underlying dst = some (.slice e)) (he : P.underlying e = some (.int .u8))
    (s : ByteArray) (hx : a.eval x = .string s) (hb : s.size ≤ maxLen)
    (hk : ∀ cap w', Reads w' (.slice (some ⟨w.heap.size, 0, none⟩) s.size cap) (s.data.toList.map byteV) → Pres [] w w' → wpList P ops Q rest (a.put o.dst (.slice (some ⟨w.heap.size, 0, none⟩) s.size cap)) w') : wpList P ops Q (o :: rest) a w :=
  wpList_plain hgd fun _ hK => by
    have hr := run_bytes_of_string (P := P) w src dst e s hs hd he
    refine wp_value (v := .slice (some ⟨w.heap.size, 0, none⟩) s.size (grownCap w s.size 0 e)) (w' := w.drew.alloc (.cells (bytesRow s (grownCap w s.size 0 e)) e ((bytesRow s (grownCap w s.size 0 e)).size, (bytesRow s (grownCap w s.size 0 e)).size + 1))) ?_ (hK _ _ (hk _ _ ?_ ?_))
    · unfold execOp
      simp only [ho, hx, Sem.run_bind, Sem.run_pure, Result.andThen_ok, hr]
    · have hge := grownCap_ge w s.size 0 e
      have hle := grownCap_le_maxLen w s.size 0 e hb
      refine ⟨some ⟨w.heap.size, 0, none⟩, grownCap w s.size 0 e, by simp, by simpa using hge, hle, fun j v hj => ⟨w.heap.size, 0, rfl, ?_⟩⟩
      have hn := heap_alloc_new w.drew (.cells (bytesRow s (grownCap w s.size 0 e)) e ((bytesRow s (grownCap w s.size 0 e)).size, (bytesRow s (grownCap w s.size 0 e)).size + 1))
      rw [show w.drew.heap.size = w.heap.size from rfl] at hn
      rw [Nat.zero_add, cell_of_row _ w.heap.size j _ e _ hn]
      have hjl : j < s.data.toList.length := by
        have := (List.getElem?_eq_some_iff.1 hj).1
        simpa using this
      rw [← hj]
      simp only [Array.length_toList] at hjl

      simp only [bytesRow, Array.getElem?_append, Array.size_map, List.getElem?_map, Array.getElem?_map, Array.getElem?_toList]
      rw [if_pos hjl]
      rfl
    · exact ((Pres.refl _ _).drew).alloc _

end Go.Proofs.YtjaabhdgahljcaaDoor
