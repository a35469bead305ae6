/- Parts of the proof: A region whose operations may come up in more than one order, walked in ONE order: its first n operations (the operands of a statement) under a condition S on the world that each of them keeps, reads first; the rest (the assignments) in the order that is forced. No condition but what 'ordB' asks, which the kernel reckons. -/
import Derived.OrdersHeld
import Derived.Tactics
import Derived.Test.YtnffnpndnaofhaaGreatDoorQae
import Derived.Deep.Cut

/- A region whose operations may come up in more than one order, walked in ONE order: its first n operations (the operands of a statement) under a condition S on the world that each of them keeps, reads first; the rest (the assignments) in the order that is forced. No condition but what 'ordB' asks, which the kernel reckons. -/
namespace Go.Proofs.YtnffnpndnaofhaaGreatDoor
section
variable {P : Program} {ops : Array Oper} {Q : Exit → Act → World → Prop} {md : Region.Mode} {S : World → Prop} {n : Nat}

/-- Whatever order is picked from here on; behind each of the first n operations S holds. -/
def wpAnyT (P : Program) (md : Region.Mode) (ops : Array Oper) (Q : Exit → Act → World → Prop) (S : World → Prop) (n : Nat) : Nat → Array Bool → Act → World → Prop
  | 0, listed, a, w => Region.ready md ops listed = [] ∧ Q .normal a w
  | fuel + 1, listed, a, w =>
    (Region.ready md ops listed = [] → Q .normal a w) ∧
    ∀ i ∈ Region.ready md ops listed, wpOp P ops Q i (fun a' w' => (i < n → S w') ∧ wpAnyT P md ops Q S n fuel (listed.setIfInBounds i true) a' w') a w

theorem wpAny_of_T : ∀ (fuel : Nat) (listed : Array Bool) (a : Act) (w : World), wpAnyT P md ops Q S n fuel listed a w → wpAny P md ops Q fuel listed a w
  | 0, _, _, _, h => h
  | fuel + 1, _, _, _, h => ⟨h.1, fun i hi => wpOp_mono (fun a' w' h' => wpAny_of_T fuel _ a' w' h'.2) (h.2 i hi)⟩

def waits (md : Region.Mode) (ops : Array Oper) (j i : Nat) : Bool :=
  match ops[j]? with
  | some oj => oj.after.any fun e => Region.binds md e && e.on == i
  | none => false

theorem waits_spec {j i : Nat} (h : waits md ops j i = true) : ∃ oj, ops[j]? = some oj ∧ ∃ e ∈ oj.after, Region.binds md e = true ∧ e.on = i := by
  unfold waits at h
  split at h
  · rename_i oj hj
    obtain ⟨e, he, hb⟩ := Array.any_eq_true'.1 h
    simp only [Bool.and_eq_true, beq_iff_eq] at hb
    exact ⟨oj, hj, e, he, hb.1, hb.2⟩
  · cases h

theorem getD_both' {listed : Array Bool} {i : Nat} (h : listed.getD i true = false) : listed.getD i false = false := by
  rcases Nat.lt_or_ge i listed.size with h' | h'
  · simp [h'] at h ⊢; exact h
  · simp [Array.getElem?_eq_none h'] at h

theorem wpAnyT_first {i : Nat} {oi : Oper} {v : Value} (hi : ops[i]? = some oi) (hsel : ∀ (j : Nat) (o : Oper) cs b, ops[j]? = some o → o.op ≠ .select cs b)
    (hQ : ∀ c a w, Q (.panic c) (a.put oi.dst v) w → Q (.panic c) a w) (htail : ∀ t, n ≤ t → t < ops.size → waits md ops t i = true) :
    ∀ (fuel : Nat) (listed : Array Bool) (a : Act) (w : World),
      (∀ j oj, ops[j]? = some oj → j ≠ i → listed.getD j true = false → (∀ e ∈ oj.after, Region.binds md e = true → e.on ≠ i) → oi.apart ops oj = true) →
      i ∈ Region.ready md ops listed → YieldsIf P ops S oi v a → S w →
      wpAnyT P md ops Q S n fuel (listed.setIfInBounds i true) (a.put oi.dst v) w → wpAnyT P md ops Q S n (fuel + 1) listed a w := by
  intro fuel
  induction fuel with
  | zero =>
    intro listed a w _ hr hy hS H
    refine ⟨fun h => (by rw [h] at hr; cases hr), fun j hj => ?_⟩
    by_cases hji : j = i
    · subst hji; exact hy.wpOp hi hS ⟨fun _ => hS, H⟩
    · have := ready_mono hj hji
      rw [H.1] at this
      cases this
  | succ fuel ih =>
    intro listed a w hfree hr hy hS H
    refine ⟨fun h => (by rw [h] at hr; cases hr), fun j hj => ?_⟩
    by_cases hji : j = i
    · subst hji; exact hy.wpOp hi hS ⟨fun _ => hS, H⟩
    · have h1 := H.2 j (ready_mono hj hji)
      obtain ⟨hjun, oj, hoj, hall⟩ := mem_ready.1 hj
      have h0 := (mem_ready.1 hr).1
      have hjn : j < n := by
        rcases Nat.lt_or_ge j n with h | h
        · exact h
        · obtain ⟨o', ho', e, he, hb, hon⟩ := waits_spec (htail j h (Array.getElem?_eq_some_iff.1 hoj).1)
          have : o' = oj := Option.some.inj (ho'.symm.trans hoj)
          subst this
          have h2 := hall e he hb
          rw [hon, getD_both' h0] at h2
          cases h2
      have hnot : ∀ e ∈ oj.after, Region.binds md e = true → e.on ≠ i := fun e he hb heq => by
        have h1 := hall e he hb
        rw [heq, getD_both' h0] at h1
        cases h1
      have h2 := wpOp_putIf hoj (hfree j oj hoj hji hjun hnot) (fun cs b => hsel i oi cs b hi) (fun cs b => hsel j oj cs b hoj) hQ hy h1
      have hfree' : ∀ k ok, ops[k]? = some ok → k ≠ i → (listed.setIfInBounds j true).getD k true = false →
          (∀ e ∈ ok.after, Region.binds md e = true → e.on ≠ i) → oi.apart ops ok = true := fun k ok hk hki hun hno => by
        refine hfree k ok hk hki ?_ hno
        by_cases hjk : j = k
        · subst hjk; exact hjun
        · rw [getD_set_ne true hjk] at hun; exact hun
      refine wpOp_mono (fun a' w' h3 => ⟨fun hj => h3.2.1 hj, ih (listed.setIfInBounds j true) a' w' hfree' (ready_mono hr (Ne.symm hji)) h3.1 (h3.2.1 hjn) ?_⟩) h2
      rw [Array.setIfInBounds_comm _ _ hji]
      exact h3.2.2

/-- The rest comes up in one order. -/
def seqB (md : Region.Mode) (ops : Array Oper) : Nat → Nat → Array Bool → Bool
  | 0, _, listed => (Region.ready md ops listed).isEmpty
  | g + 1, k, listed => decide (Region.ready md ops listed = [k]) && seqB md ops g (k + 1) (listed.setIfInBounds k true)

theorem wpAnyT_of_seq : ∀ (l : List Oper) (k : Nat) (listed : Array Bool) (a : Act) (w : World), n ≤ k → (∀ j, l[j]? = ops[k + j]?) →
    seqB md ops l.length k listed = true → wpList P ops Q l a w → wpAnyT P md ops Q S n l.length listed a w
  | [], _, _, _, _, _, _, hB, h => ⟨by simpa [seqB] using hB, h⟩
  | o :: l, k, listed, a, w, hk, hl, hB, h => by
    have h0 : ops[k]? = some o := by simpa using (hl 0).symm
    simp only [List.length_cons, seqB, Bool.and_eq_true, decide_eq_true_eq] at hB
    refine ⟨fun h1 => (by rw [hB.1] at h1; cases h1), fun i hi => ?_⟩
    rw [hB.1] at hi
    have hik : i = k := by simpa using hi
    subst hik
    have hw : wpOp P ops Q i (wpList P ops Q l) a w := by unfold wpOp; simp only [h0]; exact h
    exact wpOp_mono (fun a' w' h' => ⟨fun hi => by omega, wpAnyT_of_seq l (i + 1) _ a' w' (by omega) (fun j => by have := hl (j + 1); simpa [Nat.add_assoc, Nat.add_comm 1 j] using this) hB.2 h'⟩) hw

/-- The walk in one order: (i, true): operation i only reads; (i, false): it may do more, and nothing else can come up then. -/
def wpOrd (P : Program) (ops : Array Oper) (Q : Exit → Act → World → Prop) (S : World → Prop) (T : Act → World → Prop) : List (Nat × Bool) → Act → World → Prop
  | [], a, w => T a w
  | (i, true) :: r, a, w => ∃ o v, ops[i]? = some o ∧ YieldsIf P ops S o v a ∧ wpOrd P ops Q S T r (a.put o.dst v) w
  | (i, false) :: r, a, w => wpOp P ops Q i (fun a' w' => S w' ∧ wpOrd P ops Q S T r a' w') a w

def ordB (md : Region.Mode) (ops : Array Oper) (n : Nat) : List (Nat × Bool) → Array Bool → Bool
  | [], listed => seqB md ops (ops.size - n) n listed
  | (i, true) :: r, listed => decide (i < n) && (Region.ready md ops listed).contains i && Region.free md ops listed i && ordB md ops n r (listed.setIfInBounds i true)
  | (i, false) :: r, listed => decide (i < n) && decide (Region.ready md ops listed = [i]) && ordB md ops n r (listed.setIfInBounds i true)

def orderB (md : Region.Mode) (ops : Array Oper) (n : Nat) (ord : List (Nat × Bool)) : Bool :=
  Region.noSelect ops && decide (n ≤ ops.size) && decide (ord.length = n) && ((List.range ops.size).all fun t => decide (t < n) || (List.range n).all fun i => waits md ops t i) && ordB md ops n ord (Array.replicate ops.size false)

theorem wpAnyT_of_ord (hsel : ∀ (j : Nat) (o : Oper) cs b, ops[j]? = some o → o.op ≠ .select cs b) (hQ : ∀ c a d v w, Q (.panic c) (a.put d v) w → Q (.panic c) a w)
    (htail : ∀ i t, i < n → n ≤ t → t < ops.size → waits md ops t i = true) (hn : n ≤ ops.size) :
    ∀ (ord : List (Nat × Bool)) (listed : Array Bool) (a : Act) (w : World), ordB md ops n ord listed = true → S w →
      wpOrd P ops Q S (wpList P ops Q (ops.toList.drop n)) ord a w → wpAnyT P md ops Q S n (ord.length + (ops.size - n)) listed a w
  | [], listed, a, w, hB, _, h => by
    have hlen : (ops.toList.drop n).length = ops.size - n := by simp
    have := wpAnyT_of_seq (P := P) (md := md) (ops := ops) (Q := Q) (S := S) (n := n) (ops.toList.drop n) n listed a w (Nat.le_refl _) (fun j => by simp) (by rw [hlen]; exact hB) h
    rw [hlen] at this
    simpa using this
  | (i, true) :: r, listed, a, w, hB, hS, h => by
    simp only [ordB, Bool.and_eq_true, decide_eq_true_eq] at hB
    obtain ⟨⟨⟨hin, hr⟩, hf⟩, hB⟩ := hB
    obtain ⟨o, v, ho, hy, h⟩ := h
    have ih := wpAnyT_of_ord hsel hQ htail hn r _ _ _ hB hS h
    rw [List.length_cons, show r.length + 1 + (ops.size - n) = (r.length + (ops.size - n)) + 1 by omega]
    exact wpAnyT_first ho hsel (fun c a w => hQ c a _ _ w) (fun t h1 h2 => htail i t hin h1 h2) _ _ _ _ (Region.free_spec ho hf) (by simpa using hr) hy hS ih
  | (i, false) :: r, listed, a, w, hB, hS, h => by
    simp only [ordB, Bool.and_eq_true, decide_eq_true_eq] at hB
    obtain ⟨⟨hin, hr⟩, hB⟩ := hB
    rw [List.length_cons, show r.length + 1 + (ops.size - n) = (r.length + (ops.size - n)) + 1 by omega]
    refine ⟨fun h0 => (by rw [hr] at h0; cases h0), fun j hj => ?_⟩
    rw [hr] at hj
    have hji : j = i := by simpa using hj
    subst hji
    exact wpOp_mono (fun a' w' h' => ⟨fun _ => h'.1, wpAnyT_of_ord hsel hQ htail hn r _ _ _ hB h'.1 h'.2⟩) h

/-- The law: a region that draws its order, walked in the order 'ord'. -/
theorem wp_region_ord {id : Nat} {a : Act} {w : World} (hm : P.follows .mixedOrders = true) (S : World → Prop) (n : Nat) (ord : List (Nat × Bool)) (hB : orderB .any ops n ord = true)
    (hQ : ∀ c a d v w, Q (.panic c) (a.put d v) w → Q (.panic c) a w) (hS : S w.drew)
    (h : wpOrd P ops Q S (wpList P ops Q (ops.toList.drop n)) ord a w.drew) : (Code.region id ops true).wp P Q a w := by
  simp only [orderB, Bool.and_eq_true, decide_eq_true_eq, List.all_eq_true, List.mem_range, Bool.or_eq_true] at hB
  obtain ⟨⟨⟨⟨h1, h2⟩, h3⟩, h4⟩, h5⟩ := hB
  refine wp_region_any hm (wpAny_of_T (S := S) (n := n) _ _ _ _ ?_)
  have := wpAnyT_of_ord (P := P) (Q := Q) (S := S) (Region.noSelect_spec h1) hQ (fun i t hi ht hts => by
    rcases h4 t hts with h | h
    · omega
    · exact h i hi) h2 ord _ a w.drew h5 hS h
  rw [h3, show n + (ops.size - n) = ops.size by omega] at this
  exact this

theorem wpOrd_read {T : Act → World → Prop} {i : Nat} {r : List (Nat × Bool)} {a : Act} {w : World} {o : Oper} (ho : ops[i]? = some o) (hg : o.guard = none) {v : Value}
    (hy : ∀ w', S w' → (execOp a.eval o).run P w' = .ok (.value v) w') (h : wpOrd P ops Q S T r (a.put o.dst v) w) : wpOrd P ops Q S T ((i, true) :: r) a w :=
  ⟨o, v, ho, .inl ⟨by simp [Region.wanted, hg], hy⟩, h⟩

theorem wpOrd_do {T : Act → World → Prop} {i : Nat} {r : List (Nat × Bool)} {a : Act} {w : World} {o : Oper} (ho : ops[i]? = some o) (hg : o.guard = none)
    (h : ∀ K : Act → World → Prop, (∀ a' w', S w' ∧ wpOrd P ops Q S T r a' w' → K a' w') → o.wp P a w K Q) : wpOrd P ops Q S T ((i, false) :: r) a w := by
  have := h _ (fun _ _ h => h)
  unfold wpOrd wpOp
  simp only [ho]
  rw [if_pos (by simp [Region.wanted, hg])]
  exact .inl this

/-- The same, the guard told (by rfl). -/
theorem wpOrd_readw {T : Act → World → Prop} {i : Nat} {r : List (Nat × Bool)} {a : Act} {w : World} {o : Oper} (ho : ops[i]? = some o) (hw : Region.wanted o (yielded ops a.tmps) = true) {v : Value}
    (hy : ∀ w', S w' → (execOp a.eval o).run P w' = .ok (.value v) w') (h : wpOrd P ops Q S T r (a.put o.dst v) w) : wpOrd P ops Q S T ((i, true) :: r) a w :=
  ⟨o, v, ho, .inl ⟨hw, hy⟩, h⟩

theorem wpOrd_skipw {T : Act → World → Prop} {i : Nat} {r : List (Nat × Bool)} {a : Act} {w : World} {o : Oper} (ho : ops[i]? = some o) (hw : Region.wanted o (yielded ops a.tmps) = false)
    (h : wpOrd P ops Q S T r (a.put o.dst undef) w) : wpOrd P ops Q S T ((i, true) :: r) a w :=
  ⟨o, undef, ho, .inr ⟨hw, rfl⟩, h⟩

theorem wpOrd_dow {T : Act → World → Prop} {i : Nat} {r : List (Nat × Bool)} {a : Act} {w : World} {o : Oper} (ho : ops[i]? = some o) (hw : Region.wanted o (yielded ops a.tmps) = true)
    (h : ∀ K : Act → World → Prop, (∀ a' w', S w' ∧ wpOrd P ops Q S T r a' w' → K a' w') → o.wp P a w K Q) : wpOrd P ops Q S T ((i, false) :: r) a w := by
  have := h _ (fun _ _ h => h)
  unfold wpOrd wpOp
  simp only [ho]
  rw [if_pos hw]
  exact .inl this

theorem wpOrd_end {T : Act → World → Prop} {a : Act} {w : World} (h : T a w) : wpOrd P ops Q S T [] a w := h

end
end Go.Proofs.YtnffnpndnaofhaaGreatDoor

/- Read in one contract, and Write; the conditions stand in the theorems. -/
namespace Go.Proofs.YtnffnpndnaofhaaGreatDoor
open Go.RowKit

/-- Read, whatever the place. -/
theorem disk_read {w : World} {d : Nat} {fp : List Nat} {σ : Dk} (h : DiskAt w d fp σ) (i : Int) :
    Calls Tryz.prog 75 #[.pointer (some ⟨d, 0, none⟩), .int .i64 i] w fun e w' => e = .returned (.tuple #[.string ⟨(σ.read i).1.toArray⟩, .int .i64 (σ.read i).2]) ∧ Pres [] w w' := by
  by_cases hb : σ.down = true ∨ σ.has i = false
  · exact (read_bad h i hb).mono fun e w' ⟨h1, h2⟩ => ⟨h1, h2 ▸ Pres.refl _ _⟩
  · have hdn : σ.down = false := by cases h1 : σ.down <;> simp_all
    have hi : σ.has i = true := by cases h1 : σ.has i <;> simp_all
    obtain ⟨n, rfl⟩ := Int.eq_ofNat_of_zero_le (Dk.has_lt hi).1
    have e : σ.read (n : Int) = (σ.look n, 0) := by simp [Dk.read, hdn, hi]
    rw [e]
    exact read_good h n hdn hi

theorem agg_cells (l : List Value) : (Value.agg l.toArray).cells = l.toArray := rfl

theorem build_write (i : Int) (w : World) : (Instr.build 113 #[(0, .int .i64 i)]).run Tryz.prog w = .ok (.agg (Value.int .i64 i :: List.replicate 64 (byteV 0)).toArray) w := by kernel_rfl

theorem zero_one (i : Int) : ∀ v ∈ (Value.int .i64 i :: List.replicate 64 (byteV 0)), v.oneCell' = true := by
  intro v hv
  simp only [List.mem_cons, List.mem_replicate] at hv
  rcases hv with rfl | ⟨_, rfl⟩ <;> rfl

theorem splice_pad (i : Nat) (s : ByteArray) (h : s.data.toList.length ≤ 64) : splice (Value.int .i64 (i : Int) :: List.replicate 64 (byteV 0)) 1 ((s.data.toList.take 64).map byteV) = writeCells (i, pad s.data.toList) := by
  rw [List.take_of_length_le h]
  simp only [splice, writeCells, pad, List.take_succ_cons, List.take_zero, List.map_append, List.map_replicate, List.length_map, List.singleton_append]
  rw [show 1 + s.data.toList.length = s.data.toList.length + 1 by omega, List.drop_succ_cons, List.drop_replicate]

theorem write_bad {w : World} {d : Nat} {fp : List Nat} {σ : Dk} (h : DiskAt w d fp σ) (i : Int) (s : ByteArray) (hb : σ.down = true ∨ σ.has i = false ∨ 64 < s.data.toList.length) :
    Calls Tryz.prog 111 #[.pointer (some ⟨d, 0, none⟩), .int .i64 i, .string s] w fun e w' => e = .returned (.int .i64 (σ.write i s.data.toList).1) ∧ w = w' := by
  have hu := fun W (hW : W = w) => hW ▸ disk_up h
  have hs := fun W (hW : W = w) => hW ▸ disk_is h i
  clear h
  cases hdn : σ.down
  · have eu : σ.up = 0 := by simp [Dk.up, hdn]
    rw [eu] at hu
    cases hi : σ.has i
    · have e : σ.write i s.data.toList = (2, σ) := by simp [Dk.write, hdn, hi]
      rw [e]
      rw [hi] at hs
      clear hb hdn hi eu e
      go_enter Tryz.func111, Tryz.ntmps111
      go_wp2_with (first | (go_at_call 40; refine (hu _ rfl).mono ?_; rintro e w' ⟨rfl, rfl⟩) | (go_at_call 101; refine (hs _ rfl).mono ?_; rintro e w' ⟨rfl, rfl⟩))
      go_ret
      exact ⟨rfl, rfl⟩
    · have hl : 64 < s.data.toList.length := by simpa [hdn, hi] using hb
      have e : σ.write i s.data.toList = (3, σ) := by unfold Dk.write; rw [if_neg (by simp [hdn]), if_pos hi, if_pos hl]
      rw [e]
      rw [hi] at hs
      have hl2 : (64 : Int) < (s.size : Int) := by
        have : s.data.toList.length = s.size := by simp
        omega
      clear hb hdn hi eu e hl
      go_enter Tryz.func111, Tryz.ntmps111
      go_wp2_with (first | (go_at_call 40; refine (hu _ rfl).mono ?_; rintro e w' ⟨rfl, rfl⟩) | (go_at_call 101; refine (hs _ rfl).mono ?_; rintro e w' ⟨rfl, rfl⟩))
      go_ret
      exact ⟨rfl, rfl⟩
  · have e : σ.write i s.data.toList = (10, σ) := by simp [Dk.write, hdn]
    have eu : σ.up = 10 := by simp [Dk.up, hdn]
    rw [e]
    rw [eu] at hu
    clear hb hdn eu e
    go_enter Tryz.func111, Tryz.ntmps111
    go_wp2_with (go_at_call 40; refine (hu _ rfl).mono ?_; rintro e w' ⟨rfl, rfl⟩)
    go_ret
    exact ⟨rfl, rfl⟩

theorem write_goes {w : World} {d : Nat} {fp : List Nat} {σ : Dk} (h : DiskAt w d fp σ) (i : Nat) (s : ByteArray) (hdn : σ.down = false) (hi : σ.has i = true) (hl : s.size ≤ 64) (hg : σ.does.1 ≠ 0) :
    Calls Tryz.prog 111 #[.pointer (some ⟨d, 0, none⟩), .int .i64 (i : Int), .string s] w fun e w' => e = .returned (.int .i64 10) ∧ DiskStep w d fp σ.does.2 w' := by
  have hu := fun W (hW : W = w) => hW ▸ disk_up h
  have hs := fun W (hW : W = w) => hW ▸ disk_is h (i : Int)
  have hd := fun W (hW : W = w) => hW ▸ disk_does h
  have eu : σ.up = 0 := by simp [Dk.up, hdn]
  have ed : σ.does.1 = 10 := by unfold Dk.does at hg ⊢; split at hg <;> simp_all
  rw [eu] at hu
  rw [hi] at hs
  rw [ed] at hd
  clear h hdn hi eu hg ed
  go_enter Tryz.func111, Tryz.ntmps111
  go_wp2_with (first | (go_at_call 40; refine (hu _ rfl).mono ?_; rintro e w' ⟨rfl, rfl⟩) | (go_at_call 101; refine (hs _ rfl).mono ?_; rintro e w' ⟨rfl, rfl⟩) | (go_at_call 112; refine (hd _ rfl).mono ?_; rintro e w1 ⟨rfl, D1⟩))
  go_ret
  exact ⟨rfl, D1⟩

set_option maxRecDepth 20000 in
set_option maxHeartbeats 800000 in
theorem write_good {w : World} {d : Nat} {fp : List Nat} {σ : Dk} (h : DiskAt w d fp σ) (i : Nat) (s : ByteArray) (hdn : σ.down = false) (hi : σ.has i = true) (hl : s.size ≤ 64) (hg : σ.does.1 = 0) (hroom : σ.pend.length ≤ 1000000000) :
    Calls Tryz.prog 111 #[.pointer (some ⟨d, 0, none⟩), .int .i64 (i : Int), .string s] w fun e w' => e = .returned (.int .i64 0) ∧ DiskStep w d fp (σ.does.2.put i s.data.toList) w' := by
  have hu := fun W (hW : W = w) => hW ▸ disk_up h
  have hs := fun W (hW : W = w) => hW ▸ disk_is h (i : Int)
  have hd := fun W (hW : W = w) => hW ▸ disk_does h
  have eu : σ.up = 0 := by simp [Dk.up, hdn]
  have hlt := Dk.has_lt hi
  rw [eu] at hu
  rw [hi] at hs
  rw [hg] at hd
  clear h hdn hi eu hg
  go_enter Tryz.func111, Tryz.ntmps111
  go_upto_region 11 with (first | (go_at_call 40; refine (hu _ rfl).mono ?_; rintro e w' ⟨rfl, rfl⟩) | (go_at_call 101; refine (hs _ rfl).mono ?_; rintro e w' ⟨rfl, rfl⟩) | (go_at_call 112; refine (hd _ rfl).mono ?_; rintro e w1 ⟨rfl, D1⟩))
  clear hu hs hd
  obtain ⟨fp1, hD, P1, F1⟩ := D1
  have K1 := Dk.does_kept σ
  generalize hτ : σ.does.2 = τ at *
  have Hτ := hid hτ
  clear hτ
  obtain ⟨kb, pv, rfl, n1, n2, n3, A1, A2, A3, ok⟩ := hD
  have B0 : σ.pend.length = τ.pend.length := by rw [K1.2]
  have HL := hid A3
  have hpl := length_pad (s := s.data.toList) (by simpa using hl)
  have hl3 : s.data.toList.length ≤ 64 := by simpa using hl
  have hwl : (writeCells (i, pad s.data.toList)).length = 65 := by rw [length_writeCells, hpl]
  have N1 := A1.lt
  have N2 := A2.lt
  have N3 := A3.lt
  have HH := And.intro A1 (And.intro A2 (And.intro A3 (And.intro ok (And.intro K1 (And.intro B0 (And.intro n1 (And.intro n2 (And.intro n3 (And.intro P1 F1)))))))))
  clear A2 A3 ok K1 B0 HL n3 P1 F1 N2 N3
  go_upto_region 13 with (first | ((with_reducible refine at_build ?_); refine wpL_build rfl 113 [(0, .tmp 29)] rfl _ (by exact build_write i _) ?_) | ((with_reducible refine at_alloc ?_); refine wpL_alloc rfl 113 rfl (Value.int .i64 0 :: List.replicate 64 (byteV 0)) zero_write ?_; intro w2 B1 P2 S2) | ((with_reducible refine at_store ?_); refine wpL_store rfl 113 (.tmp 9) (.tmp 30) rfl w1.heap.size 0 65 rfl _ rfl _ 113 B1 size_write (by simp) (by simp) (zero_one _) ?_; intro w3 B2 P3 S3; rw [splice_full _ _ (by simp)] at B2) | ((with_reducible refine at_copy ?_); refine wpL_copy_string rfl (.tmp 32) (.tmp 33) 122 9 rfl 5 Tryz.underlying122 (by kernel_rfl) w1.heap.size 1 64 64 rfl s rfl _ _ B2 (by simp) ?_; intro w4 B3 P4 S4; rw [splice_pad i s hl3] at B3))
  have q1 : w1.cell? ⟨d, 1, none⟩ = some pv := by rw [A1.cell]; rfl
  have D1 : d ≠ w1.heap.size := by omega
  have q2 : w2.cell? ⟨d, 1, none⟩ = some pv := P2.cell q1 (by simp)
  have q3 : w3.cell? ⟨d, 1, none⟩ = some pv := P3.cell q2 (by simpa using D1)
  have q4 : w4.cell? ⟨d, 1, none⟩ = some pv := P4.cell q3 (by simpa using D1)
  refine wp_region_ord (by kernel_rfl) (fun W => W.cell? ⟨d, 1, none⟩ = some pv ∧ At W w1.heap.size (writeCells (i, pad s.data.toList)) 113) 8
    [(0, true), (1, true), (2, true), (3, true), (4, true), (5, true), (6, false), (7, false)] (by kernel_rfl) ?hq ⟨q4, B3.drew⟩ ?_
  case hq => intro c a dd v w h; cases dd <;> exact h
  iterate 5 (refine wpOrd_read (v := _) rfl rfl (by intro w' hS; have hs1 := hS.1; clear hS; go_simp; rfl) ?_; (try simp only [Act.put, List.setIfInBounds_toArray, List.set_cons_succ, List.set_cons_zero, List.getElem_toArray, List.getElem_cons_succ, List.getElem_cons_zero]))
  refine wpOrd_read (v := _) rfl rfl (by intro w' hS; exact run_load_agg (n := 65) rfl rfl hS.2 agg_write size_write (by omega)) ?_
  rw [List.drop_zero, List.take_of_length_le (by omega)]
  (try simp only [Act.put, List.setIfInBounds_toArray, List.set_cons_succ, List.set_cons_zero, List.getElem_toArray, List.getElem_cons_succ, List.getElem_cons_zero])
  have C1 : w4.drew.heap.size = w4.heap.size := rfl
  refine wpOrd_do rfl rfl (fun K hK => ?_)
  refine wp_value (run_slit_one (n := 65) (v := .agg (writeCells (i, pad s.data.toList)).toArray) rfl rfl Tryz.underlying86 size_write zero_write (by simp [agg_cells]) (by omega) (by omega) (by simp [agg_cells, hwl])) (hK _ _ ⟨⟨?_, ?_⟩, ?_⟩)
  · rw [World.cell?_alloc_lt _ _ _ (show d < w4.heap.size by omega)]; exact q4
  · exact B3.drew.alloc _
  clear hK K
  (try simp only [Act.put, List.setIfInBounds_toArray, List.set_cons_succ, List.set_cons_zero, List.getElem_toArray, List.getElem_cons_succ, List.getElem_cons_zero])
  have B4 := At.new w4.drew (writeCells (i, pad s.data.toList)) 113
  rw [C1] at B4 ⊢
  have P5 : Pres [] w4 (w4.drew.alloc (.cells (writeCells (i, pad s.data.toList)).toArray 113)) := ((Pres.refl _ _).drew).alloc _
  have q5 := P5.cell q4 (by simp)
  have S5 : (w4.drew.alloc (.cells (writeCells (i, pad s.data.toList)).toArray 113)).heap.size = w4.heap.size + 1 := by simp
  simp only [agg_cells]
  generalize w4.drew.alloc (.cells (writeCells (i, pad s.data.toList)).toArray 113) = w5 at *
  have PA : Pres [] w1 w5 := (((P2.trans P3 (by simp)).trans P4 (by simp)).trans P5 (by simp))
  have B5 : Sl w5 113 65 pv τ.pend.length (pendCells τ.pend) := HH.2.2.1.pres PA (by simp)
  have A5 : At w5 d (diskCells kb pv τ) 88 := A1.pres PA (by simp)
  obtain ⟨iw, hi1, hi2, hi3, hi4⟩ := info_write
  have F5 : ∀ k ∈ fpv pv, k < w1.heap.size := HH.2.2.1.lt
  have G1 : w4.heap.size = w1.heap.size + 1 := by omega
  refine wpOrd_do rfl rfl (fun K hK => ?_)
  refine wp_append (.tmp 39) (.tmp 41) 86 rfl 113 iw _ 65 Tryz.underlying86 hi1 hi2 hi3 (by simp [agg_cells]) pv τ.pend.length (pendCells τ.pend) rfl B5 ⟨w4.heap.size, 0, none⟩ 1 1
    (writeCells (i, pad s.data.toList)) rfl (by omega) (fun j u hu => by rw [addr_add, Nat.zero_add, B4.cell]; exact hu) (writes_one _) (by have := HH.2.2.2.2.2.1; simp only [maxLen]; omega) (by have := HH.2.2.2.2.2.1; rw [hi4]; omega) (fun v' w6 X1 X2 X3 => hK _ _ ⟨⟨?_, ?_⟩, ?_⟩)
  · exact X2.cell q5 n2
  · exact (B3.pres P5 (by simp)).pres X2 (fun hm => by have := F5 _ hm; omega)
  clear hK K
  refine wpOrd_end ?_
  obtain ⟨g, cap, cur, rfl, X4, X5, X6, X7, X8⟩ := X1.get (by omega)
  have A6 : At w6 d (diskCells kb pv τ) 88 := A5.pres X2 n2
  have f1 := A6.frozen 1
  have c1 : w6.cell? ⟨d, 1, none⟩ = some pv := A6.cell 1
  have hgd : d ≠ g := fun e => by
    rcases X3 g (by simp [fpv]) with h1 | h1
    · exact n2 (e ▸ h1)
    · omega
  have hgk : kb ≠ g := fun e => by
    rcases X3 g (by simp [fpv]) with h1 | h1
    · exact HH.2.2.2.2.2.2.2.2.1 (e ▸ h1)
    · have := HH.2.1.lt; omega
  have PB : Pres (fpv pv) w1 w6 := PA.of_none.trans X2 (fun x hx => .inl hx)
  have okp : (τ.put i s.data.toList).Ok := Dk.put_ok HH.2.2.2.1 (by have := HH.2.2.2.2.1.1; rw [this]; omega) hl3
  have XS : Sl w6 113 65 (.slice (some ⟨g, 0, none⟩) (τ.pend.length + 1) cap) (τ.pend.length + 1) (pendCells τ.pend ++ writeCells (i, pad s.data.toList)) := X1
  have HZ := And.intro A6 (And.intro hgd (And.intro hgk (And.intro PB (And.intro okp (And.intro XS (And.intro X3 PA.size))))))
  clear X1 X2 X3 X4 X5 X6 X7 X8 A6 hgd hgk PB okp XS A5 B5 B4 PA P5 S5 q5 q4 q3 q2 q1 F5 G1 C1 B1 B2 B3 P2 P3 P4 S2 S3 S4 A1 hi1 hi2 hi3 hi4
  simp only [List.drop_succ_cons, List.drop_zero]
  go_wp2
  go_ret
  refine ⟨rfl, ?_⟩
  rw [Hτ.out]
  obtain ⟨Z1, Z2, Z3, Z4, Z5, Z6, Z7, Z8⟩ := HZ
  obtain ⟨h1, h2, h3, h4, h5, h6, h7, h8, h9, h10, h11⟩ := HH
  have PC : Pres (d :: fpv pv) w1 (w6.setCell ⟨d, 1, none⟩ (.slice (some ⟨g, 0, none⟩) (τ.pend.length + 1) cap)) := (Z4.wider (by simp_all)).setCell (by simp) _
  refine ⟨d :: kb :: [g], ⟨kb, .slice (some ⟨g, 0, none⟩) (τ.pend.length + 1) cap, rfl, h7, by simpa [fpv] using Z2, by simpa [fpv] using Z3, ?_, ?_, ?_, Z5⟩, ?_, ?_⟩
  · have := Z1.setCell 1 (.slice (some ⟨g, 0, none⟩) (τ.pend.length + 1) cap)
    exact this
  · exact h2.pres PC (by simp [Ne.symm h7, h9])
  · have := Z6.pres (Pres.setCell (Pres.refl [d] w6) (p := ⟨d, 1, none⟩) (by simp) (.slice (some ⟨g, 0, none⟩) (τ.pend.length + 1) cap)) (by simp [fpv, Ne.symm Z2])
    simpa [Dk.put, pendCells] using this
  · exact h10.trans PC (by intro x hx; exact h11 x (by simp at hx ⊢; rcases hx with rfl | hx <;> simp_all))
  · intro k hk
    simp only [List.mem_cons, List.not_mem_nil, or_false] at hk
    rcases hk with rfl | rfl | rfl
    · exact h11 _ (by simp)
    · exact h11 _ (by simp)
    · rcases Z7 k (by simp [fpv]) with e | e
      · exact h11 _ (by simp [e])
      · right; have := h10.size; have := h1.lt; omega

/-- Write, whatever comes in. -/
theorem disk_write {w : World} {d : Nat} {fp : List Nat} {σ : Dk} (h : DiskAt w d fp σ) (i : Int) (s : ByteArray) (hroom : σ.pend.length ≤ 1000000000) :
    Calls Tryz.prog 111 #[.pointer (some ⟨d, 0, none⟩), .int .i64 i, .string s] w fun e w' => e = .returned (.int .i64 (σ.write i s.data.toList).1) ∧ DiskStep w d fp (σ.write i s.data.toList).2 w' := by
  by_cases hb : σ.down = true ∨ σ.has i = false ∨ 64 < s.data.toList.length
  · have e2 : (σ.write i s.data.toList).2 = σ := by
      unfold Dk.write
      split
      · rfl
      split
      · split
        · rfl
        · rename_i a b c; rcases hb with h1 | h1 | h1
          · exact absurd h1 a
          · rw [b] at h1; cases h1
          · exact absurd h1 c
      · rfl
    rw [e2]
    exact (write_bad h i s hb).mono fun e w' ⟨h1, h2⟩ => ⟨h1, h2 ▸ DiskStep.refl h⟩
  · have hdn : σ.down = false := by cases h1 : σ.down <;> simp_all
    have hi : σ.has i = true := by cases h1 : σ.has i <;> simp_all
    have hl : ¬ 64 < s.data.toList.length := fun h1 => hb (.inr (.inr h1))
    have hl2 : s.size ≤ 64 := by have : s.data.toList.length = s.size := by simp
                                 omega
    obtain ⟨n, rfl⟩ := Int.eq_ofNat_of_zero_le (Dk.has_lt hi).1
    by_cases hg : σ.does.1 = 0
    · have e : σ.write (n : Int) s.data.toList = (0, σ.does.2.put n s.data.toList) := by
        unfold Dk.write
        rw [if_neg (by simp [hdn]), if_pos hi, if_neg hl, if_pos hg, Int.toNat_natCast]
      rw [e]
      exact write_good h n s hdn hi hl2 hg hroom
    · have e : σ.write (n : Int) s.data.toList = (10, σ.does.2) := by
        unfold Dk.write
        rw [if_neg (by simp [hdn]), if_pos hi, if_neg hl, if_neg hg]
      rw [e]
      exact write_goes h n s hdn hi hl2 hg

end Go.Proofs.YtnffnpndnaofhaaGreatDoor

/- Flush and On; the conditions stand in the theorems. -/
namespace Go.Proofs.YtnffnpndnaofhaaGreatDoor
open Go.RowKit

theorem keptCells_length {σ : Dk} (ok : σ.Ok) {ps : List (Nat × List UInt8)} {k : Nat} (_h : ps = σ.pend.take k := by rfl) : (keptCells (keepAll σ.kept ps)).length = σ.kept.length * 64 := by
  subst _h
  have := flat_length (f := blockCells) (sz := 64) (l := keepAll σ.kept (σ.pend.take k)) (fun x hx => by rw [length_blockCells]; exact keepAll_full _ _ ok.full (fun p hp => (ok.pend p (List.mem_of_mem_take hp)).2) x hx)
  rw [keepAll_length] at this
  exact this

theorem flush_bad {w : World} {d : Nat} {fp : List Nat} {σ : Dk} (h : DiskAt w d fp σ) (hb : σ.down = true ∨ σ.does.1 ≠ 0) :
    Calls Tryz.prog 83 #[.pointer (some ⟨d, 0, none⟩)] w fun e w' => e = .returned (.int .i64 10) ∧ DiskStep w d fp (σ.flush).2 w' := by
  have hu := fun W (hW : W = w) => hW ▸ disk_up h
  have hd := fun W (hW : W = w) => hW ▸ disk_does h
  have hR := hid (DiskStep.refl h)
  clear h
  cases hdn : σ.down
  · have hg : σ.does.1 ≠ 0 := by simpa [hdn] using hb
    have e : σ.flush.2 = σ.does.2 := by unfold Dk.flush; rw [if_neg (by simp [hdn]), if_neg hg]
    have eu : σ.up = 0 := by simp [Dk.up, hdn]
    have ed : σ.does.1 = 10 := by unfold Dk.does at hg ⊢; split at hg <;> simp_all
    rw [e]
    rw [eu] at hu
    rw [ed] at hd
    clear hb hdn hg eu ed e
    go_enter Tryz.func83, Tryz.ntmps83
    go_wp2_with (first | (go_at_call 40; refine (hu _ rfl).mono ?_; rintro e w' ⟨rfl, rfl⟩) | (go_at_call 112; refine (hd _ rfl).mono ?_; rintro e w1 ⟨rfl, D1⟩))
    go_ret
    exact ⟨rfl, D1⟩
  · have e : σ.flush.2 = σ := by unfold Dk.flush; rw [if_pos hdn]
    have eu : σ.up = 10 := by simp [Dk.up, hdn]
    rw [e]
    rw [eu] at hu
    clear hb hdn eu e hd
    go_enter Tryz.func83, Tryz.ntmps83
    go_wp2_with (go_at_call 40; refine (hu _ rfl).mono ?_; rintro e w' ⟨rfl, rfl⟩)
    go_ret
    exact ⟨rfl, hR.out⟩

/-- What is known in the middle of a Flush or an On: the struct is as it was, the kept blocks are K. -/
def Mid (d kb : Nat) (pv : Value) (τ : Dk) (K : List (List UInt8)) (w1 wr : World) : Prop :=
  At wr d (diskCells kb pv τ) 88 ∧ At wr kb (keptCells K) 111 ∧ Sl wr 113 65 pv τ.pend.length (pendCells τ.pend) ∧ Pres [kb] w1 wr

theorem Mid.next {d kb : Nat} {pv : Value} {τ : Dk} {K : List (List UInt8)} {w1 wr w' : World} (h : Mid d kb pv τ K w1 wr) (hp : Pres [] wr w') : Mid d kb pv τ K w1 w' :=
  ⟨h.1.pres hp (by simp), h.2.1.pres hp (by simp), h.2.2.1.pres hp (by simp), h.2.2.2.then hp⟩

theorem Mid.set {d kb : Nat} {pv : Value} {τ : Dk} {K : List (List UInt8)} {w1 wr w' : World} (h : Mid d kb pv τ K w1 wr) (n1 : d ≠ kb) (n3 : kb ∉ fpv pv) {p : Nat × List UInt8} (hK : ∀ b ∈ K, b.length = 64) (hp : p.1 < K.length) (hl : p.2.length = 64)
    (hw : At w' kb (splice (keptCells K) (p.1 * 64) (p.2.map byteV)) 111) (hP : Pres [kb] wr w') : Mid d kb pv τ (K.set p.1 p.2) w1 w' := by
  refine ⟨h.1.pres hP (by simpa using n1), ?_, h.2.2.1.pres hP (by intro k hk hm; simp at hm; subst hm; exact n3 hk), h.2.2.2.trans hP (by simp)⟩
  have e := flat_splice (f := blockCells) (sz := 64) (l := K) (i := p.1) (y := p.2) (fun x hx => by rw [length_blockCells]; exact hK x hx) (by rw [length_blockCells, hl]) hp
  have : splice (keptCells K) (p.1 * 64) (p.2.map byteV) = keptCells (K.set p.1 p.2) := e
  rw [← this]
  exact hw

theorem keepAll_take (kept : List (List UInt8)) (ps : List (Nat × List UInt8)) (k : Nat) (q : Nat × List UInt8) (h : ps[k]? = some q) : keepAll kept (ps.take (k + 1)) = (keepAll kept (ps.take k)).set q.1 q.2 := by
  obtain ⟨hk, rfl⟩ := List.getElem?_eq_some_iff.1 h
  rw [List.take_succ_eq_append_getElem hk, keepAll_snoc]

set_option maxHeartbeats 1000000 in
theorem flush_good {w : World} {d : Nat} {fp : List Nat} {σ : Dk} (h : DiskAt w d fp σ) (hdn : σ.down = false) (hg : σ.does.1 = 0) :
    Calls Tryz.prog 83 #[.pointer (some ⟨d, 0, none⟩)] w fun e w' => e = .returned (.int .i64 0) ∧ DiskStep w d fp (σ.does.2.settle) w' := by
  have hu := fun W (hW : W = w) => hW ▸ disk_up h
  have hd := fun W (hW : W = w) => hW ▸ disk_does h
  have eu : σ.up = 0 := by simp [Dk.up, hdn]
  rw [eu] at hu
  rw [hg] at hd
  clear h hdn eu hg
  go_enter Tryz.func83, Tryz.ntmps83
  go_upto_region 7 with (first | (go_at_call 40; refine (hu _ rfl).mono ?_; rintro e w' ⟨rfl, rfl⟩) | (go_at_call 112; refine (hd _ rfl).mono ?_; rintro e w1 ⟨rfl, D1⟩))
  clear hu hd
  obtain ⟨fp1, hD, P1, F1⟩ := D1
  generalize hτ : σ.does.2 = τ at *
  have Hτ := hid hτ
  clear hτ
  obtain ⟨kb, pv, rfl, n1, n2, n3, A1, A2, A3, ok⟩ := hD
  obtain ⟨ao, cap, epv, hc1, hc2⟩ := A3.shape
  subst epv
  have h0 := A1.cell 0
  have h1 := A1.cell 1
  simp only [diskCells, List.getElem?_cons_succ, List.getElem?_cons_zero] at h0 h1
  have hmax : τ.pend.length ≤ 9223372036854775807 := by simp only [maxLen] at hc2; omega
  have HM : Mid d kb (.slice ao τ.pend.length cap) τ (keepAll τ.kept (τ.pend.take 0)) w1 w1 := ⟨A1, A2, A3, Pres.refl _ _⟩
  have HH := And.intro ok (And.intro n1 (And.intro n2 (And.intro n3 (And.intro P1 (And.intro F1 A1.lt)))))
  clear A1 A2 A3 ok n1 n2 n3 P1 F1 hc1 hc2
  go_wp2_with fail
  go_loopw [22] (fun v wr => ∃ k : Nat, k ≤ τ.pend.length ∧ v = .int .i64 (k : Int) ∧ Mid d kb (.slice ao τ.pend.length cap) τ (keepAll τ.kept (τ.pend.take k)) w1 wr) (fun v _ => τ.pend.length - (intOf v).toNat)
  case atStart => exact ⟨0, Nat.zero_le _, rfl, HM⟩
  case round =>
    obtain ⟨k, hk, rfl, hM⟩ := hrel
    clear h0 h1 HM
    by_cases hlt : k < τ.pend.length
    · obtain ⟨g, cap', cur, e1, hg, -, -, hcl, htake⟩ := hM.2.2.1.get (by omega)
      simp only [Value.slice.injEq] at e1
      obtain ⟨rfl, -, rfl⟩ := e1
      obtain ⟨q, hq⟩ : ∃ q, τ.pend[k]? = some q := ⟨τ.pend[k], List.getElem?_eq_getElem hlt⟩
      have hpiece := hid (pend_piece HH.1 hq)
      rw [← take_drop_take htake (by omega)] at hpiece
      have hq2 := HH.1.pend q (List.mem_of_getElem? hq)
      have hfit : k * 65 + 65 ≤ cur.length := by
        have : (cur.take (τ.pend.length * 65)).length = τ.pend.length * 65 := by rw [htake]; exact hM.2.2.1.1
        rw [List.length_take] at this
        omega
      have g0 := hM.1.cell 0
      simp only [diskCells, List.getElem?_cons_succ, List.getElem?_cons_zero] at g0
      have hqi : (q.1 : Int) ≤ 9223372036854775807 := by have := hq2.1; have := HH.1.most; omega
      have hql : (q.1 : Int) < (τ.kept.length : Int) := by have := hq2.1; omega
      have hwl : (writeCells q).length = 65 := by rw [length_writeCells, hq2.2]
      have HQ := hid hq
      have hdl : d < wr.heap.size := hM.1.lt
      clear hq htake hcl
      go_upto_region 10 with (first | ((with_reducible refine at_load ?_); refine wpL_load rfl 113 (.tmp 24) rfl g (k * 65) 65 rfl cur 113 hg agg_write size_write hfit ?_) | ((with_reducible refine at_alloc ?_); refine wpL_alloc rfl 113 rfl (Value.int .i64 0 :: List.replicate 64 (byteV 0)) zero_write ?_; intro w2 A3 P3 S3) | ((with_reducible refine at_store ?_); refine wpL_store rfl 113 (.tmp 6) (.tmp 25) rfl wr.heap.size 0 65 rfl _ rfl _ 113 A3 size_write (by rw [hpiece.out, length_writeCells, hq2.2]) (by simp) (by rw [hpiece.out]; exact writes_one q) ?_; intro w3 A4 P4 S4; rw [hpiece.out, splice_full _ _ (by rw [length_writeCells, hq2.2]; simp)] at A4))
      have PM : Pres [] wr w3 := P3.trans P4 (by simp)
      have hM3 := hM.next PM
      have g3 := PM.cell g0 (by simp)
      refine wp_region_ord (by kernel_rfl) (fun W => W.cell? ⟨d, 0, none⟩ = some (.slice (some ⟨kb, 0, none⟩) τ.kept.length τ.kept.length) ∧ At W wr.heap.size (writeCells q) 113) 8
        [(0, true), (1, true), (2, true), (3, true), (4, true), (5, true), (6, true), (7, true)] (by kernel_rfl) ?hq ⟨g3, A4.drew⟩ ?_
      case hq => intro c a dd v w h; cases dd <;> exact h
      (try simp only [Act.put, List.setIfInBounds_toArray, List.set_cons_succ, List.set_cons_zero, List.getElem_toArray, List.getElem_cons_succ, List.getElem_cons_zero])
      iterate 7 (refine wpOrd_read (v := _) rfl rfl (by intro w' hS; have hs1 := hS.1; have hs2 := hS.2.cell 0; simp only [writeCells, List.getElem?_cons_zero] at hs2; clear hS; go_simp; rfl) ?_; (try simp only [Act.put, List.setIfInBounds_toArray, List.set_cons_succ, List.set_cons_zero, List.getElem_toArray, List.getElem_cons_succ, List.getElem_cons_zero]))
      refine wpOrd_read (v := _) rfl rfl (by intro w' hS; exact run_load_agg (n := 64) rfl rfl hS.2 agg_block size_block (by omega)) ?_
      rw [write_text hq2.2]
      (try simp only [Act.put, List.setIfInBounds_toArray, List.set_cons_succ, List.set_cons_zero, List.getElem_toArray, List.getElem_cons_succ, List.getElem_cons_zero])
      refine wpOrd_end ?_
      simp only [List.drop_succ_cons, List.drop_zero]
      have hM4 : Mid d kb (.slice (some ⟨g, 0, none⟩) τ.pend.length cap) τ (keepAll τ.kept (τ.pend.take k)) w1 w3.drew := hM3.next (Pres.refl _ _).drew
      generalize w3.drew = w4 at *
      clear hM hM3 g3 A4 hg P3 P4 A3 S3 S4 PM hpiece
      go_wp2_with ((with_reducible refine at_store ?_); refine wpL_store rfl 111 (.tmp 34) (.tmp 33) rfl kb (q.1 * 64) 64 rfl (q.2.map byteV) rfl _ 111 hM4.2.1 size_block (by simp [hq2.2]) (by rw [keptCells_length HH.1]; omega) bytes_one ?_; intro w5 A6 P6 S6; have hM5 := hM4.set HH.2.1 HH.2.2.2.1 (keepAll_full _ _ HH.1.full (fun p hp => (HH.1.pend p (List.mem_of_mem_take hp)).2)) (by rw [keepAll_length]; exact hq2.1) hq2.2 A6 P6)
      rw [← keepAll_take _ _ _ _ HQ.out] at hM5
      go_roundw
      case rel => exact ⟨k + 1, by omega, by go_num, hM5⟩
      case measure => simp [intOf]; omega
    · have hend : ¬ (k : Int) < (τ.pend.length : Int) := by omega
      have ek : k = τ.pend.length := by omega
      subst ek
      rw [List.take_length] at hM
      have f1 := hM.1.frozen 1
      have c1 := hM.1.cell 1
      simp only [diskCells, List.getElem?_cons_succ, List.getElem?_cons_zero] at c1
      go_wp2
      go_ret
      refine ⟨rfl, ?_⟩
      rw [Hτ.out]
      obtain ⟨ok, n1, n2, n3, P1, F1, -⟩ := HH
      have PS : Pres [d] wr (wr.setCell ⟨d, 1, none⟩ (.slice none 0 0)) := (Pres.refl _ _).setCell (by simp) _
      have PT : Pres (d :: kb :: fpv (.slice ao τ.pend.length cap)) w1 (wr.setCell ⟨d, 1, none⟩ (.slice none 0 0)) := (hM.2.2.2.wider (by simp)).trans PS (by simp)
      refine ⟨[d, kb], ⟨kb, .slice none 0 0, rfl, n1, by simp [fpv], by simp [fpv], ?_, ?_, Sl.nil _ _ _, Dk.settle_ok ok⟩, P1.trans PT F1, ?_⟩
      · have := hM.1.setCell 1 (.slice none 0 0)
        simpa [diskCells, Dk.settle, keepAll_length] using this
      · exact hM.2.1.pres PS (by simpa using Ne.symm n1)
      · intro x hx
        exact F1 x (by simp at hx ⊢; rcases hx with rfl | rfl <;> simp)

end Go.Proofs.YtnffnpndnaofhaaGreatDoor
