/- Parts of the proof: append of whatever reads as cells (a slice, nil, a text) to a slice that owns its block; conditions stand in the lemmas. -/
import Derived.Test.YtnffnpndnaofhaaGreatDoorQab
import Derived.Laws.IdiomStrings
import Derived.Test.YtnffnpndnaofhaaGreatDoorQaa

/- append of whatever reads as cells (a slice, nil, a text) to a slice that owns its block; conditions stand in the lemmas. -/
namespace Go.Proofs.YtnffnpndnaofhaaGreatDoor
open Go.RowKit

/-- A text as a cell. -/
def strV (l : List UInt8) : Value := .string ⟨l.toArray⟩

/-- x has m elements of sz cells each, which read as news. -/
structure Src (P : Program) (w : World) (tx : TypeId) (sz : Nat) (x : Value) (m : Nat) (news : List Value) : Prop where
  ty : P.underlying tx = some .string ∨ ∃ E, P.underlying tx = some (.slice E)
  len : ∀ W, (Builtin.lenOf x).run P W = .ok m W
  cells : (Builtin.firstCells sz m x).run P w = .ok news.toArray w
  drew : (Builtin.firstCells sz m x).run P w.drew = .ok news.toArray w.drew
  size : news.length = m * sz
  one : ∀ u ∈ news, u.oneCell' = true

theorem Src.slice {P : Program} {w : World} {tx E : TypeId} {sz : Nat} (ht : P.underlying tx = some (.slice E)) {ad : Addr} {m c : Nat} {news : List Value} (hl : news.length = m * sz)
    (hn : ∀ j u, news[j]? = some u → w.cell? (ad.add j) = some u) (h1 : ∀ u ∈ news, u.oneCell' = true) : Src P w tx sz (.slice (some ad) m c) m news :=
  ⟨.inr ⟨_, ht⟩, fun W => by simp [Builtin.lenOf], run_firstCells_some (P := P) w sz m ad m c news hl hn, run_firstCells_some (P := P) w.drew sz m ad m c news hl (by simpa using hn), hl, h1⟩

theorem Src.nil {P : Program} {w : World} {tx E : TypeId} {sz c : Nat} (ht : P.underlying tx = some (.slice E)) : Src P w tx sz (.slice none 0 c) 0 [] :=
  ⟨.inr ⟨_, ht⟩, fun W => by simp [Builtin.lenOf], by simp [Builtin.firstCells], by simp [Builtin.firstCells], by simp, by simp⟩

theorem Src.text {P : Program} {w : World} {tx : TypeId} (ht : P.underlying tx = some .string) (s : ByteArray) : Src P w tx 1 (.string s) s.size (s.data.toList.map byteV) :=
  ⟨.inl ht, fun W => by simp [Builtin.lenOf], by have := firstCells_string (P := P) (w := w) s s.size; rwa [List.take_of_length_le (by simp)] at this,
    by have := firstCells_string (P := P) (w := w.drew) s s.size; rwa [List.take_of_length_le (by simp)] at this, by simp, bytes_one⟩

/-- A slice that owns its block, as a source. -/
theorem Src.sl {P : Program} {w : World} {tx E E' : TypeId} {sz : Nat} (ht : P.underlying tx = some (.slice E)) {v : Value} {n : Nat} {xs : List Value} (h : Sl w E' sz v n xs) (h1 : ∀ u ∈ xs, u.oneCell' = true) : Src P w tx sz v n xs := by
  rcases h.2 with ⟨rfl, rfl⟩ | ⟨g, cap, cur, rfl, hg, h2, h3, h4, h5⟩
  · have : xs = [] := List.eq_nil_of_length_eq_zero (by simpa using h.1)
    subst this
    exact Src.nil ht
  · refine Src.slice ht h.1 (fun j u hj => ?_) h1
    rw [← h5] at hj
    have := hg.piece 0 (n * sz) j u (by simpa using hj)
    simpa using this

theorem Src.reads {P : Program} {w : World} {tx E : TypeId} (ht : P.underlying tx = some (.slice E)) {v : Value} {cs : List Value} (h : Reads w v cs) (h1 : ∀ u ∈ cs, u.oneCell' = true) : Src P w tx 1 v cs.length cs := by
  obtain ⟨ao, cap, rfl, -, -, hr⟩ := h
  cases cs with
  | nil => cases ao with
    | none => exact Src.nil ht
    | some ad => exact Src.slice ht (by simp) (by simp) (by simp)
  | cons x cs =>
    obtain ⟨b, off, rfl, -⟩ := hr 0 x rfl
    exact Src.slice ht (by simp) (fun j u hj => by
      obtain ⟨b', off', e, h⟩ := hr j u hj
      simp only [Option.some.injEq, Addr.mk.injEq, and_true] at e
      obtain ⟨rfl, rfl⟩ := e
      rw [addr_add]; exact h) h1

/-- A block known whole, as a source. -/
theorem Src.at {P : Program} {w : World} {tx E F : TypeId} {sz : Nat} (ht : P.underlying tx = some (.slice E)) {b m c : Nat} {cs : List Value} (h : At w b cs F) (hl : cs.length = m * sz) (h1 : ∀ u ∈ cs, u.oneCell' = true) : Src P w tx sz (.slice (some ⟨b, 0, none⟩) m c) m cs :=
  Src.slice ht hl (fun j u hu => by rw [addr_add, Nat.zero_add, h.cell]; exact hu) h1

theorem sl_cells {w : World} {E : TypeId} {g n cap sz : Nat} {xs : List Value} (h : Sl w E sz (.slice (some ⟨g, 0, none⟩) n cap) n xs) {j : Nat} {x : Value} (hj : xs[j]? = some x) : w.cell? ⟨g, j, none⟩ = some x := by
  rcases h.2 with ⟨e, _⟩ | ⟨g', cap', cur, e, hg, -, -, hc, ht⟩
  · cases e
  · simp only [Value.slice.injEq, Option.some.injEq, Addr.mk.injEq, and_true] at e
    obtain ⟨rfl, -⟩ := e
    rw [← ht, List.getElem?_take] at hj
    split at hj
    · rw [hg.cell]; exact hj
    · cases hj

theorem piece_get {α : Type} {l m : List α} {a n : Nat} (h : (l.drop a).take n = m) (j : Nat) {x : α} (hj : m[j]? = some x) : l[a + j]? = some x := by
  rw [← h, List.getElem?_take] at hj
  split at hj
  · rwa [List.getElem?_drop] at hj
  · cases hj

theorem map_set {α β : Type} (f : α → β) (l : List α) (i : Nat) (x : α) : (l.map f).set i (f x) = (l.set i x).map f := by rw [List.map_set]

/-- A cell of a slice that owns its block is written. -/
theorem St.sset {w0 w : World} {ps : List HP} (H : St w0 w ps) (i : Nat) {g n cap : Nat} {E : TypeId} {xs : List Value} (h : ps[i]? = some (slP (.slice (some ⟨g, 0, none⟩) n cap) E 1 n xs)) (j : Nat) (hj : j < n) (u : Value) :
    St w0 (w.setCell ⟨g, j, none⟩ u) (ps.set i (slP (.slice (some ⟨g, 0, none⟩) n cap) E 1 n (xs.set j u))) := by
  obtain ⟨f, ⟨rfl, h1⟩, -, h2⟩ := H.turn i h
  refine h2 _ _ ⟨_, ⟨rfl, ?_⟩, (Pres.refl _ _).setCell (by simp [fpv]) _, fun k hk => .inl hk⟩
  have hl := h1.1
  rcases h1.2 with ⟨e, -⟩ | ⟨g', cap', cur, e, hg, h3, h4, h5, h6⟩
  · cases e
  · simp only [Value.slice.injEq, Option.some.injEq, Addr.mk.injEq, and_true, true_and] at e
    obtain ⟨rfl, rfl⟩ := e
    refine ⟨by simpa using hl, .inr ⟨g, cap, cur.set j u, rfl, hg.setCell j u, h3, h4, by simpa using h5, ?_⟩⟩
    rw [← h6, List.take_set]

theorem Sl.frozen {w : World} {E : TypeId} {g n cap sz : Nat} {xs : List Value} (h : Sl w E sz (.slice (some ⟨g, 0, none⟩) n cap) n xs) (j : Nat) : w.frozen? ⟨g, j, none⟩ = false := by
  rcases h.2 with ⟨e, _⟩ | ⟨g', cap', cur, e, hg, -⟩
  · cases e
  · simp only [Value.slice.injEq, Option.some.injEq, Addr.mk.injEq, and_true] at e
    obtain ⟨rfl, -⟩ := e
    exact hg.frozen j


theorem run_append_src {P : Program} {w : World} {t tx ty E : TypeId} {i : TypeInfo} {z : Value} {sz : Nat} (ht : P.underlying t = some (.slice E)) (hi : P.info? E = some i) (hz : i.zero = some z)
    (hsize : i.size = sz) (hzs : z.cells.size = sz) {v : Value} {n : Nat} {xs : List Value} (hs : Sl w E sz v n xs)
    {x : Value} {m : Nat} {news : List Value} (hx : Src P w tx sz x m news) (h63 : n + m ≤ maxLen) (hbytes : (n + m) * i.bytes ≤ 140737488355328) :
    ∃ v' w', (Builtin.append_ #[t, tx] ty #[v, x]).run P w = .ok v' w' ∧ Sl w' E sz v' (n + m) (xs ++ news) ∧ Pres (fpv v) w w' ∧ (∀ k ∈ fpv v', k ∈ fpv v ∨ w.heap.size ≤ k) := by
  subst hsize
  obtain ⟨hd, hlen', hcells, hdrew, hl, h1⟩ := hx
  have hsmall : n + m ≤ 9223372036854775807 := by simp only [maxLen] at h63; omega
  have hlen : (xs ++ news).length = (n + m) * i.size := by rw [List.length_append, hs.1, hl, Nat.add_mul]
  have grown : ∀ (old : Nat) (fp : List Nat),
      Sl (w.drew.alloc (.cells (xs.toArray ++ news.toArray ++ Builtin.zeroCells z.cells (grownCap w (n + m) old E - (n + m))) E)) E i.size
        (.slice (some ⟨w.heap.size, 0, none⟩) (n + m) (grownCap w (n + m) old E)) (n + m) (xs ++ news) ∧
      Pres fp w (w.drew.alloc (.cells (xs.toArray ++ news.toArray ++ Builtin.zeroCells z.cells (grownCap w (n + m) old E - (n + m))) E)) := by
    intro old fp
    have hge := grownCap_ge w (n + m) old E
    have hcm : grownCap w (n + m) old E ≤ maxLen := grownCap_le_maxLen w (n + m) old E h63
    refine ⟨⟨hlen, .inr ⟨w.heap.size, _, xs ++ news ++ (Builtin.zeroCells z.cells (grownCap w (n + m) old E - (n + m))).toList, rfl, ?_, hge, hcm, ?_, ?_⟩⟩, ((Pres.refl _ _).drew).alloc _⟩
    · unfold At
      rw [show w.heap.size = w.drew.heap.size from rfl, heap_alloc_new]
      simp
    · have h2 : (Builtin.zeroCells z.cells (grownCap w (n + m) old E - (n + m))).toList.length = (grownCap w (n + m) old E - (n + m)) * i.size := by
        rw [Array.length_toList, size_zeroCells, hzs]
      rw [List.length_append, hlen, h2, ← Nat.add_mul]
      congr 1
      omega
    · rw [← hlen]; exact List.take_left
  rcases hs.2 with ⟨rfl, rfl⟩ | ⟨g, cap, cur, rfl, hg, hnc, hcm, hcs, htake⟩
  · have hx : xs = [] := List.eq_nil_of_length_eq_zero (by simpa using hs.1)
    subst hx
    by_cases hm : m = 0
    · subst hm
      have hn : news = [] := List.eq_nil_of_length_eq_zero (by simpa using hl)
      subst hn
      refine ⟨.slice none 0 0, w, ?_, Sl.nil w E i.size, Pres.refl _ _, by simp [fpv]⟩
      rcases hd with hd | ⟨E', hd⟩ <;> simp [Builtin.append_, run_underlying ht, run_underlying hd, sizeOf, typeInfo, hi, hlen', hcells]
    · have h63' : ¬ (9223372036854775807 < (m : Int)) := by omega
      have h48' : ¬ (281474976710656 < Builtin.nextslicecap m 0 * i.bytes) := by rw [nextslicecap_zero (by omega)]; have hb := hbytes; simp only [Nat.zero_add] at hb; omega
      have hgr := grown 0 (fpv (.slice none 0 0))
      simp only [Nat.zero_add, List.nil_append, Array.empty_append] at hgr ⊢
      refine ⟨_, _, ?_, hgr.1, hgr.2, by simp [fpv]⟩
      rcases hd with hd | ⟨E', hd⟩ <;> simp [Builtin.append_, run_underlying ht, run_underlying hd, sizeOf, typeInfo, zeroValue, hi, hz, hlen', hm, h63', h48', Question.forced, run_firstCells_none, hdrew, newRow, grownCap]
  · by_cases hroom : n + m ≤ cap
    · have hfit : n * i.size + news.length ≤ cur.toArray.size := by rw [hl, List.size_toArray, hcs, ← Nat.add_mul]; exact Nat.mul_le_mul_right _ hroom
      have hst := run_storeCells_at P g (n * i.size) E news 0 cur.toArray w hg (by simpa using hfit) h1
      simp only [Nat.add_zero] at hst
      refine ⟨.slice (some ⟨g, 0, none⟩) (n + m) cap, w.setRow g (cur.take (n * i.size) ++ news ++ cur.drop (n * i.size + news.length)).toArray, ?_, ⟨hlen, .inr ⟨g, cap, _, rfl, hg.setRow _, hroom, hcm, ?_, ?_⟩⟩, (Pres.refl _ _).setRow (by simp [fpv]) _, by simp [fpv]⟩
      · have hadd : (⟨g, 0, none⟩ : Addr).add (n * i.size) = ⟨g, n * i.size, none⟩ := by rw [addr_add]; simp
        rcases hd with hd | ⟨E', hd⟩ <;> simp [Builtin.append_, run_underlying ht, run_underlying hd, sizeOf, typeInfo, hi, hlen', hroom, hcells, hadd, hst]
      · simp only [List.length_append, List.length_take, List.length_drop, List.size_toArray] at hfit ⊢
        omega
      · rw [htake, ← hlen]
        exact List.take_left
    · have holds : ∀ j u, xs[j]? = some u → w.drew.cell? ((⟨g, 0, none⟩ : Addr).add j) = some u := by
        rw [← htake]; simpa using hg.piece 0 (n * i.size)
      have hfo := run_firstCells_some (P := P) w.drew i.size n ⟨g, 0, none⟩ n cap xs hs.1 holds
      have h63' : ¬ (9223372036854775807 < ((n : Int) + (m : Int))) := by omega
      have h48' : ¬ (281474976710656 < Builtin.nextslicecap (n + m) cap * i.bytes) := by have := growslice_fits (need := n + m) (old := cap) (bytes := i.bytes) (by omega) hbytes; omega
      have hgr := grown cap (fpv (.slice (some ⟨g, 0, none⟩) n cap))
      refine ⟨_, _, ?_, hgr.1, hgr.2, by simp [fpv]⟩
      rcases hd with hd | ⟨E', hd⟩ <;> (simp [Builtin.append_, run_underlying ht, run_underlying hd, sizeOf, typeInfo, zeroValue, hi, hz, hlen', hroom, h63', h48', Question.forced, hdrew, hfo, newRow, grownCap]; congr 2; apply Array.ext'; simp [List.append_assoc])

section
variable {P : Program} {ops : Array Oper} {rest : List Oper} {o : Oper} {a : Act} {w : World} {Q : Exit → Act → World → Prop} {K : Act → World → Prop}

theorem wp_app (s x : Operand) (t tx : TypeId) (ho : o.op = .call { callee := .builtin .append, args := #[s, x], argTypes := #[t, tx] })
    (E : TypeId) (i : TypeInfo) (z : Value) (sz : Nat) (ht : P.underlying t = some (.slice E)) (hi : P.info? E = some i) (hz : i.zero = some z) (hsize : i.size = sz) (hzs : z.cells.size = sz)
    (v : Value) (n : Nat) (xs : List Value) (hsv : a.eval s = v) (hs : Sl w E sz v n xs) (m : Nat) (news : List Value) (hx : Src P w tx sz (a.eval x) m news)
    (h63 : n + m ≤ maxLen) (hbytes : (n + m) * i.bytes ≤ 140737488355328)
    (hk : ∀ v' w', Sl w' E sz v' (n + m) (xs ++ news) → Pres (fpv v) w w' → (∀ k ∈ fpv v', k ∈ fpv v ∨ w.heap.size ≤ k) → K (a.put o.dst v') w') : o.wp P a w K Q := by
  obtain ⟨v', w', hr, h2, h3, h4⟩ := run_append_src (P := P) (ty := o.type) ht hi hz hsize hzs hs hx h63 hbytes
  unfold Oper.wp execOp
  simp only [ho, resolve, invoke, builtin, Sem.run_bind, Sem.run_pure, Result.andThen_ok, List.map_toArray, List.map_cons, List.map_nil, hsv, hr]
  exact hk v' w' h2 h3 h4

/-- append in a plain list of operations. -/
theorem wpL_app (hgd : o.guard = none) (s x : Operand) (t tx : TypeId) (ho : o.op = .call { callee := .builtin .append, args := #[s, x], argTypes := #[t, tx] })
    (E : TypeId) (i : TypeInfo) (z : Value) (sz : Nat) (ht : P.underlying t = some (.slice E)) (hi : P.info? E = some i) (hz : i.zero = some z) (hsize : i.size = sz) (hzs : z.cells.size = sz)
    (v : Value) (n : Nat) (xs : List Value) (hsv : a.eval s = v) (hs : Sl w E sz v n xs) (m : Nat) (news : List Value) (hx : Src P w tx sz (a.eval x) m news)
    (h63 : n + m ≤ maxLen) (hbytes : (n + m) * i.bytes ≤ 140737488355328)
    (hk : ∀ v' w', Sl w' E sz v' (n + m) (xs ++ news) → Pres (fpv v) w w' → (∀ k ∈ fpv v', k ∈ fpv v ∨ w.heap.size ≤ k) → wpList P ops Q rest (a.put o.dst v') w') : wpList P ops Q (o :: rest) a w :=
  wpList_plain hgd fun _ hK => wp_app s x t tx ho E i z sz ht hi hz hsize hzs v n xs hsv hs m news hx h63 hbytes fun v' w' a1 a2 a3 => hK _ _ (hk v' w' a1 a2 a3)

end

/-- []byte(text): a slice that reads as the text's bytes. -/
theorem wpL_string_bytes {P : Program} {ops : Array Oper} {rest : List Oper} {o : Oper} {a : Act} {w : World} {Q : Exit → Act → World → Prop} (hgd : o.guard = none) (src dst : TypeId) (x : Operand) (ho : o.op = .convert src dst x) (e : TypeId) (hs : P.underlying src = some .string) (hd : P.underlying dst = some (.slice e)) (he : P.underlying e = some (.int .u8))
    (s : ByteArray) (hx : a.eval x = .string s) (hb : s.size ≤ maxLen)
    (hk : ∀ cap w', Reads w' (.slice (some ⟨w.heap.size, 0, none⟩) s.size cap) (s.data.toList.map byteV) → Pres [] w w' → wpList P ops Q rest (a.put o.dst (.slice (some ⟨w.heap.size, 0, none⟩) s.size cap)) w') : wpList P ops Q (o :: rest) a w :=
  wpList_plain hgd fun _ hK => by
    have hr := run_bytes_of_string (P := P) w src dst e s hs hd he
    refine wp_value (v := .slice (some ⟨w.heap.size, 0, none⟩) s.size (grownCap w s.size 0 e)) (w' := w.drew.alloc (.cells (bytesRow s (grownCap w s.size 0 e)) e ((bytesRow s (grownCap w s.size 0 e)).size, (bytesRow s (grownCap w s.size 0 e)).size + 1))) ?_ (hK _ _ (hk _ _ ?_ ?_))
    · unfold execOp
      simp only [ho, hx, Sem.run_bind, Sem.run_pure, Result.andThen_ok, hr]
    · have hge := grownCap_ge w s.size 0 e
      have hle := grownCap_le_maxLen w s.size 0 e hb
      refine ⟨some ⟨w.heap.size, 0, none⟩, grownCap w s.size 0 e, by simp, by simpa using hge, hle, fun j v hj => ⟨w.heap.size, 0, rfl, ?_⟩⟩
      have hn := heap_alloc_new w.drew (.cells (bytesRow s (grownCap w s.size 0 e)) e ((bytesRow s (grownCap w s.size 0 e)).size, (bytesRow s (grownCap w s.size 0 e)).size + 1))
      rw [show w.drew.heap.size = w.heap.size from rfl] at hn
      rw [Nat.zero_add, cell_of_row _ w.heap.size j _ e _ hn]
      have hjl : j < s.data.toList.length := by
        have := (List.getElem?_eq_some_iff.1 hj).1
        simpa using this
      rw [← hj]
      simp only [Array.length_toList] at hjl

      simp only [bytesRow, Array.getElem?_append, Array.size_map, List.getElem?_map, Array.getElem?_map, Array.getElem?_toList]
      rw [if_pos hjl]
      rfl
    · exact ((Pres.refl _ _).drew).alloc _

end Go.Proofs.YtnffnpndnaofhaaGreatDoor

/- A disk of sectors as data (Dk), what each method makes of it, and how it lies in memory (DiskAt). Plain Lean and memory; no walk. -/
namespace Go.Proofs.YtnffnpndnaofhaaGreatDoor
open Go.RowKit

/-! ## Lists whose pieces have one length -/

theorem flat_length {α : Type} {f : α → List Value} {sz : Nat} : ∀ {l : List α}, (∀ x ∈ l, (f x).length = sz) → (l.flatMap f).length = l.length * sz
  | [], _ => by simp
  | x :: l, h => by
    have h1 := h x (by simp)
    have h2 := flat_length (l := l) (fun y hy => h y (by simp [hy]))
    rw [List.flatMap_cons, List.length_append, h1, h2, List.length_cons, Nat.add_mul]; omega

theorem flat_piece {α : Type} {f : α → List Value} {sz : Nat} : ∀ {l : List α} {i : Nat}, (∀ x ∈ l, (f x).length = sz) → ∀ (hi : i < l.length), ((l.flatMap f).drop (i * sz)).take sz = f l[i]
  | [], i, _, hi => by simp at hi
  | x :: l, 0, h, _ => by
    have h1 := h x (by simp)
    simp only [Nat.zero_mul, List.drop_zero, List.flatMap_cons, List.getElem_cons_zero]
    rw [← h1]; exact List.take_left
  | x :: l, i + 1, h, hi => by
    have h1 := h x (by simp)
    rw [List.flatMap_cons, show (i + 1) * sz = (f x).length + i * sz by rw [h1, Nat.add_mul]; omega, List.drop_append, List.drop_eq_nil_of_le (by omega), List.nil_append, Nat.add_sub_cancel_left]
    rw [flat_piece (l := l) (fun y hy => h y (by simp [hy])) (by simpa using hi)]
    simp

theorem flat_splice {α : Type} {f : α → List Value} {sz : Nat} : ∀ {l : List α} {i : Nat} {y : α}, (∀ x ∈ l, (f x).length = sz) → (f y).length = sz → i < l.length → splice (l.flatMap f) (i * sz) (f y) = (l.set i y).flatMap f
  | [], i, _, _, _, hi => by simp at hi
  | x :: l, 0, y, h, hy, _ => by
    have h1 := h x (by simp)
    simp only [splice, Nat.zero_mul, List.take_zero, List.nil_append, Nat.zero_add, List.flatMap_cons, List.set_cons_zero]
    rw [hy, ← h1, List.drop_left]
  | x :: l, i + 1, y, h, hy, hi => by
    have h1 := h x (by simp)
    have ih := flat_splice (l := l) (i := i) (y := y) (fun z hz => h z (by simp [hz])) hy (by simpa using hi)
    rw [List.flatMap_cons, List.set_cons_succ, List.flatMap_cons, ← ih]
    unfold splice
    rw [show (i + 1) * sz = (f x).length + i * sz by rw [h1, Nat.add_mul]; omega, List.take_append, List.take_of_length_le (by omega), Nat.add_sub_cancel_left,
      List.append_assoc, show (f x).length + i * sz + (f y).length = (f x).length + (i * sz + (f y).length) by omega, List.drop_append, List.drop_eq_nil_of_le (by omega), List.nil_append, Nat.add_sub_cancel_left]

theorem splice_mid {α : Type} (A B C D : List α) (h : B.length = D.length) : splice (A ++ (B ++ C)) A.length D = A ++ (D ++ C) := by
  unfold splice
  rw [List.take_left, ← h, List.drop_append, List.drop_eq_nil_of_le (by omega), Nat.add_sub_cancel_left, List.nil_append, List.drop_left]

theorem flat_replicate (n m : Nat) (b : UInt8) : (List.replicate n (List.replicate m b)).flatMap (fun l => l.map byteV) = List.replicate (n * m) (byteV b) := by
  induction n with
  | zero => simp
  | succ n ih => rw [List.replicate_succ, List.flatMap_cons, ih, List.map_replicate, List.replicate_append_replicate, Nat.add_mul, Nat.one_mul, Nat.add_comm]

theorem splice_full {α : Type} (L D : List α) (h : L.length = D.length) : splice L 0 D = D := by
  simp [splice, h]

/-! ## A disk as data -/

structure Dk where
  kept : List (List UInt8)
  pend : List (Nat × List UInt8)
  down : Bool
  armed : Bool
  left : Int
  done : Int

/-- A text with noughts behind, up to a sector. -/
def pad (s : List UInt8) : List UInt8 := s ++ List.replicate (64 - s.length) 0

theorem length_pad {s : List UInt8} (h : s.length ≤ 64) : (pad s).length = 64 := by simp [pad]; omega

structure Dk.Ok (σ : Dk) : Prop where
  pos : 0 < σ.kept.length
  most : σ.kept.length ≤ 65536
  full : ∀ b ∈ σ.kept, b.length = 64
  pend : ∀ p ∈ σ.pend, p.1 < σ.kept.length ∧ p.2.length = 64
  left0 : 0 ≤ σ.left
  left1 : σ.left ≤ 9223372036854775807

def Dk.new (n : Nat) : Dk := { kept := List.replicate n (List.replicate 64 0), pend := [], down := false, armed := false, left := 0, done := 0 }

theorem Dk.new_ok {n : Nat} (h0 : 0 < n) (h1 : n ≤ 65536) : (Dk.new n).Ok :=
  ⟨by simpa [Dk.new], by simpa [Dk.new], by simp [Dk.new], by simp [Dk.new], by simp [Dk.new], by simp [Dk.new]⟩

def Dk.has (σ : Dk) (i : Int) : Bool := decide (0 ≤ i) && decide (i < (σ.kept.length : Int))

/-- What a sector has: its last pending write, or what was kept. -/
def Dk.look (σ : Dk) (i : Nat) : List UInt8 := σ.pend.foldl (fun acc p => if p.1 = i then p.2 else acc) (σ.kept.getD i [])

/-- An error of up: 10 without power. -/
def Dk.up (σ : Dk) : Int := if σ.down then 10 else 0

/-- Read: the text, the error. -/
def Dk.read (σ : Dk) (i : Int) : List UInt8 × Int := if σ.down then ([], 10) else if σ.has i then (σ.look i.toNat, 0) else ([], 2)

/-- Counting a write or a flush. -/
def Dk.does (σ : Dk) : Int × Dk :=
  if σ.armed && σ.left == 0 then (10, { σ with down := true })
  else (0, { σ with left := if σ.armed then σ.left - 1 else σ.left, done := wrap64 (σ.done + 1) })

def Dk.put (σ : Dk) (i : Nat) (s : List UInt8) : Dk := { σ with pend := σ.pend ++ [(i, pad s)] }

def Dk.write (σ : Dk) (i : Int) (s : List UInt8) : Int × Dk :=
  if σ.down then (10, σ) else if σ.has i then (if s.length > 64 then (3, σ) else if σ.does.1 = 0 then (0, σ.does.2.put i.toNat s) else (10, σ.does.2)) else (2, σ)

def keepAll (kept : List (List UInt8)) (pend : List (Nat × List UInt8)) : List (List UInt8) := pend.foldl (fun k p => k.set p.1 p.2) kept

def Dk.settle (σ : Dk) : Dk := { σ with kept := keepAll σ.kept σ.pend, pend := [] }

def Dk.flush (σ : Dk) : Int × Dk := if σ.down then (10, σ) else if σ.does.1 = 0 then (0, σ.does.2.settle) else (10, σ.does.2)

def Dk.arm (σ : Dk) (n : Int) : Int × Dk := if σ.down then (10, σ) else (0, { σ with armed := decide (0 ≤ n), left := max n 0 })

def Dk.off (σ : Dk) : Int × Dk := if σ.down then (10, σ) else (0, { σ with down := true })

/-- Those of the pending writes that 'keep' marks, from place i on. -/
def marked (keep : List Bool) : Nat → List (Nat × List UInt8) → List (Nat × List UInt8)
  | _, [] => []
  | i, p :: ps => if keep.getD i false then p :: marked keep (i + 1) ps else marked keep (i + 1) ps

def Dk.on (σ : Dk) (keep : List Bool) : Int × Dk :=
  if σ.down then (0, { σ with kept := keepAll σ.kept (marked keep 0 σ.pend), pend := [], down := false, armed := false, left := 0 }) else (9, σ)

theorem keepAll_length (pend : List (Nat × List UInt8)) : ∀ kept, (keepAll kept pend).length = kept.length := by
  induction pend with
  | nil => intro kept; rfl
  | cons p ps ih => intro kept; simp only [keepAll, List.foldl_cons]; have := ih (kept.set p.1 p.2); simp only [keepAll] at this; rw [this]; simp

theorem keepAll_full (pend : List (Nat × List UInt8)) : ∀ kept, (∀ b ∈ kept, b.length = 64) → (∀ p ∈ pend, p.2.length = 64) → ∀ b ∈ keepAll kept pend, b.length = 64 := by
  induction pend with
  | nil => intro kept h _; exact h
  | cons p ps ih =>
    intro kept h hp
    simp only [keepAll, List.foldl_cons]
    exact ih (kept.set p.1 p.2) (fun b hb => by
      rcases List.mem_or_eq_of_mem_set hb with h1 | h1
      · exact h b h1
      · rw [h1]; exact hp p (by simp)) (fun q hq => hp q (by simp [hq]))

theorem keepAll_snoc (kept : List (List UInt8)) (ps : List (Nat × List UInt8)) (p : Nat × List UInt8) : keepAll kept (ps ++ [p]) = (keepAll kept ps).set p.1 p.2 := by simp [keepAll]

theorem marked_sub (keep : List Bool) : ∀ (ps : List (Nat × List UInt8)) (i : Nat) (p : Nat × List UInt8), p ∈ marked keep i ps → p ∈ ps
  | [], _, _, h => by simp [marked] at h
  | q :: ps, i, p, h => by
    unfold marked at h
    split at h
    · rcases List.mem_cons.1 h with h1 | h1
      · simp [h1]
      · exact List.mem_cons_of_mem _ (marked_sub keep ps (i + 1) p h1)
    · exact List.mem_cons_of_mem _ (marked_sub keep ps (i + 1) p h)

theorem marked_snoc (keep : List Bool) : ∀ (ps : List (Nat × List UInt8)) (i : Nat) (p : Nat × List UInt8), marked keep i (ps ++ [p]) = marked keep i ps ++ (if keep.getD (i + ps.length) false then [p] else [])
  | [], i, p => by simp [marked]
  | q :: ps, i, p => by
    have ih := marked_snoc keep ps (i + 1) p
    rw [show i + 1 + ps.length = i + (q :: ps).length by simp; omega] at ih
    simp only [List.cons_append, marked, ih]
    split <;> simp

theorem Dk.does_ok {σ : Dk} (h : σ.Ok) : σ.does.2.Ok := by
  unfold Dk.does
  split
  · exact ⟨h.pos, h.most, h.full, h.pend, h.left0, h.left1⟩
  · rename_i hc
    have h0 := h.left0
    have h1 := h.left1
    refine ⟨h.pos, h.most, h.full, h.pend, ?_, ?_⟩ <;> simp only [] <;> split <;> simp_all <;> omega

theorem Dk.does_kept (σ : Dk) : σ.does.2.kept = σ.kept ∧ σ.does.2.pend = σ.pend := by unfold Dk.does; split <;> exact ⟨rfl, rfl⟩

theorem Dk.has_lt {σ : Dk} {i : Int} (h : σ.has i = true) : 0 ≤ i ∧ i < (σ.kept.length : Int) := by simpa [Dk.has] using h

theorem Dk.put_ok {σ : Dk} (h : σ.Ok) {i : Nat} (hi : i < σ.kept.length) {s : List UInt8} (hs : s.length ≤ 64) : (σ.put i s).Ok :=
  ⟨h.pos, h.most, h.full, by
    intro p hp
    simp only [Dk.put, List.mem_append, List.mem_singleton] at hp
    rcases hp with hp | rfl
    · exact h.pend p hp
    · exact ⟨hi, length_pad hs⟩, h.left0, h.left1⟩

theorem Dk.write_ok {σ : Dk} (h : σ.Ok) (i : Int) (s : List UInt8) : (σ.write i s).2.Ok := by
  unfold Dk.write
  split
  · exact h
  split
  · rename_i hi
    obtain ⟨h0, h1⟩ := Dk.has_lt hi
    split
    · exact h
    split
    · exact Dk.put_ok (Dk.does_ok h) (by rw [(Dk.does_kept σ).1]; omega) (by omega)
    · exact Dk.does_ok h
  · exact h

theorem Dk.settle_ok {σ : Dk} (h : σ.Ok) : σ.settle.Ok :=
  ⟨by simpa [Dk.settle, keepAll_length] using h.pos, by simpa [Dk.settle, keepAll_length] using h.most, keepAll_full _ _ h.full (fun p hp => (h.pend p hp).2), by simp [Dk.settle], h.left0, h.left1⟩

theorem Dk.flush_ok {σ : Dk} (h : σ.Ok) : σ.flush.2.Ok := by
  unfold Dk.flush
  split
  · exact h
  split
  · exact Dk.settle_ok (Dk.does_ok h)
  · exact Dk.does_ok h

theorem Dk.arm_ok {σ : Dk} (h : σ.Ok) {n : Int} (hn : n ≤ 9223372036854775807) : (σ.arm n).2.Ok := by
  unfold Dk.arm
  split
  · exact h
  · exact ⟨h.pos, h.most, h.full, h.pend, by simp only []; omega, by simp only []; omega⟩

theorem Dk.off_ok {σ : Dk} (h : σ.Ok) : σ.off.2.Ok := by
  unfold Dk.off
  split
  · exact h
  · exact ⟨h.pos, h.most, h.full, h.pend, h.left0, h.left1⟩

theorem Dk.on_ok {σ : Dk} (h : σ.Ok) (keep : List Bool) : (σ.on keep).2.Ok := by
  unfold Dk.on
  split
  · exact ⟨by simpa [keepAll_length] using h.pos, by simpa [keepAll_length] using h.most,
      keepAll_full _ _ h.full (fun p hp => (h.pend p (marked_sub keep _ _ _ hp)).2), by simp, by simp, by simp⟩
  · exact h

theorem Dk.look_length {σ : Dk} (h : σ.Ok) {i : Nat} (hi : i < σ.kept.length) : (σ.look i).length = 64 := by
  unfold Dk.look
  have key : ∀ (ps : List (Nat × List UInt8)) (acc : List UInt8), acc.length = 64 → (∀ p ∈ ps, p.2.length = 64) → (ps.foldl (fun acc p => if p.1 = i then p.2 else acc) acc).length = 64 := by
    intro ps
    induction ps with
    | nil => intro acc ha _; exact ha
    | cons p ps ih =>
      intro acc ha hp
      simp only [List.foldl_cons]
      apply ih
      · split
        · exact hp p (by simp)
        · exact ha
      · exact fun q hq => hp q (by simp [hq])
  refine key _ _ ?_ (fun p hp => (h.pend p hp).2)
  rw [List.getD_eq_getElem?_getD, List.getElem?_eq_getElem hi]
  exact h.full _ (List.getElem_mem hi)

/-! ## A disk in memory -/

def blockCells (b : List UInt8) : List Value := b.map byteV
def writeCells (p : Nat × List UInt8) : List Value := .int .i64 (p.1 : Int) :: p.2.map byteV
def keptCells (kept : List (List UInt8)) : List Value := kept.flatMap blockCells
def pendCells (pend : List (Nat × List UInt8)) : List Value := pend.flatMap writeCells

/-- The struct's own cells. -/
def diskCells (kb : Nat) (pv : Value) (σ : Dk) : List Value :=
  [.slice (some ⟨kb, 0, none⟩) σ.kept.length σ.kept.length, pv, .bool σ.down, .bool σ.armed, .int .i64 σ.left, .int .i64 σ.done]

/-- Disk d, the blocks fp its own, is σ. -/
def DiskAt (w : World) (d : Nat) (fp : List Nat) (σ : Dk) : Prop :=
  ∃ kb pv, fp = d :: kb :: fpv pv ∧ d ≠ kb ∧ d ∉ fpv pv ∧ kb ∉ fpv pv ∧ At w d (diskCells kb pv σ) 88 ∧ At w kb (keptCells σ.kept) 111 ∧
    Sl w 113 65 pv σ.pend.length (pendCells σ.pend) ∧ σ.Ok

theorem DiskAt.ok {w : World} {d : Nat} {fp : List Nat} {σ : Dk} (h : DiskAt w d fp σ) : σ.Ok := by
  obtain ⟨_, _, _, _, _, _, _, _, _, h⟩ := h; exact h

theorem DiskAt.lt {w : World} {d : Nat} {fp : List Nat} {σ : Dk} (h : DiskAt w d fp σ) : ∀ k ∈ fp, k < w.heap.size := by
  obtain ⟨kb, pv, rfl, _, _, _, hd, hk, hs, _⟩ := h
  intro k hm
  simp only [List.mem_cons] at hm
  rcases hm with rfl | rfl | hm
  · exact hd.lt
  · exact hk.lt
  · exact hs.lt k hm

theorem DiskAt.keep {w w' : World} {d : Nat} {fp : List Nat} {σ : Dk} (h : DiskAt w d fp σ) (hk : ∀ k ∈ fp, w'.heap[k]? = w.heap[k]?) : DiskAt w' d fp σ := by
  obtain ⟨kb, pv, rfl, h1, h2, h3, hd, hkb, hs, ok⟩ := h
  exact ⟨kb, pv, rfl, h1, h2, h3, hd.keep (hk _ (by simp)), hkb.keep (hk _ (by simp)), hs.keep (fun k hm => hk k (by simp [hm])), ok⟩

theorem DiskAt.pres {w w' : World} {fq : List Nat} {d : Nat} {fp : List Nat} {σ : Dk} (h : DiskAt w d fp σ) (hp : Pres fq w w') (hn : ∀ k ∈ fp, k ∉ fq) : DiskAt w' d fp σ :=
  h.keep fun k hk => hp.block k (h.lt k hk) (hn k hk)

/-- A call that turned disk d (blocks fp) into σ'. -/
def DiskStep (w : World) (d : Nat) (fp : List Nat) (σ' : Dk) (w' : World) : Prop :=
  ∃ fp', DiskAt w' d fp' σ' ∧ Pres fp w w' ∧ ∀ k ∈ fp', k ∈ fp ∨ w.heap.size ≤ k

theorem DiskStep.refl {w : World} {d : Nat} {fp : List Nat} {σ : Dk} (h : DiskAt w d fp σ) : DiskStep w d fp σ w := ⟨fp, h, Pres.refl _ _, fun _ hk => .inl hk⟩

theorem length_blockCells (b : List UInt8) : (blockCells b).length = b.length := by simp [blockCells]
theorem length_writeCells (p : Nat × List UInt8) : (writeCells p).length = p.2.length + 1 := by simp [writeCells]
theorem Dk.Ok.blocks {σ : Dk} (h : σ.Ok) : ∀ x ∈ σ.kept, (blockCells x).length = 64 := fun x hx => by rw [length_blockCells]; exact h.full x hx
theorem Dk.Ok.writes {σ : Dk} (h : σ.Ok) : ∀ x ∈ σ.pend, (writeCells x).length = 65 := fun x hx => by rw [length_writeCells, (h.pend x hx).2]

theorem writes_one (p : Nat × List UInt8) : ∀ v ∈ writeCells p, v.oneCell' = true := by
  intro v hv
  simp only [writeCells, List.mem_cons] at hv
  rcases hv with rfl | hv
  · rfl
  · exact bytes_one v hv

end Go.Proofs.YtnffnpndnaofhaaGreatDoor
