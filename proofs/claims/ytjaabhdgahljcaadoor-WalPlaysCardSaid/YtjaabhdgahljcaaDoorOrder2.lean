/- A region that draws its order, walked in stages: each stage is a set of operations that all the rest waits for (directly or through others), walked in one order under a condition of its own. No condition but what 'stageB' asks, which the kernel reckons. -/
import Derived.Test.YtjaabhdgahljcaaDoorOrder
namespace Go.Proofs.YtjaabhdgahljcaaDoor
section
variable {P : Program} {ops : Array Oper} {Q : Exit → Act → World → Prop} {md : Region.Mode} {S : World → Prop} {X : List Nat}

inductive Forced (md : Region.Mode) (ops : Array Oper) : Nat → Nat → Prop
  | one {j : Nat} {o : Oper} {e : Edge} : ops[j]? = some o → e ∈ o.after → Region.binds md e = true → Forced md ops j e.on
  | step {j i : Nat} {o : Oper} {e : Edge} : ops[j]? = some o → e ∈ o.after → Region.binds md e = true → Forced md ops e.on i → Forced md ops j i

/-- What is listed is listed with all that it waits for. -/
def Shut (md : Region.Mode) (ops : Array Oper) (listed : Array Bool) : Prop :=
  ∀ j o, ops[j]? = some o → listed.getD j false = true → ∀ e ∈ o.after, Region.binds md e = true → listed.getD e.on false = true

theorem Shut.forced {listed : Array Bool} (h : Shut md ops listed) {j i : Nat} (hf : Forced md ops j i) : listed.getD j false = true → listed.getD i false = true := by
  induction hf with
  | one ho he hb => exact fun hj => h _ _ ho hj _ he hb
  | step ho he hb _ ih => exact fun hj => ih (h _ _ ho hj _ he hb)

theorem Shut.ready {listed : Array Bool} (h : Shut md ops listed) {j i : Nat} (hj : j ∈ Region.ready md ops listed) (hf : Forced md ops j i) : listed.getD i false = true := by
  obtain ⟨_, oj, hoj, hall⟩ := mem_ready.1 hj
  cases hf with
  | one ho he hb =>
    have : _ = oj := Option.some.inj (ho.symm.trans hoj)
    subst this
    exact hall _ he hb
  | step ho he hb hf =>
    have : _ = oj := Option.some.inj (ho.symm.trans hoj)
    subst this
    exact h.forced hf (hall _ he hb)

theorem Shut.set {listed : Array Bool} (h : Shut md ops listed) {i : Nat} (hi : i ∈ Region.ready md ops listed) : Shut md ops (listed.setIfInBounds i true) := by
  intro j o ho hj e he hb
  by_cases hij : i = j
  · subst hij
    obtain ⟨_, oj, hoj, hall⟩ := mem_ready.1 hi
    have : o = oj := Option.some.inj (ho.symm.trans hoj)
    subst this
    exact getD_set_true (hall e he hb)
  · rw [getD_set_ne false hij] at hj
    exact getD_set_true (h j o ho hj e he hb)

def maskOf (md : Region.Mode) (acc : List Nat) (o : Oper) : Nat := o.after.toList.foldl (fun s e => if Region.binds md e then s ||| 2 ^ e.on ||| acc.getD e.on 0 else s) 0
def masks (md : Region.Mode) (ops : Array Oper) : List Nat := ops.toList.foldl (fun acc o => acc ++ [maskOf md acc o]) []

theorem maskOf_spec {acc : List Nat} {o : Oper} {i : Nat} (h : (maskOf md acc o).testBit i = true) : ∃ e ∈ o.after, Region.binds md e = true ∧ (e.on = i ∨ (acc.getD e.on 0).testBit i = true) := by
  have key : ∀ (l : List Edge) (s : Nat), (l.foldl (fun s e => if Region.binds md e then s ||| 2 ^ e.on ||| acc.getD e.on 0 else s) s).testBit i = true →
      s.testBit i = true ∨ ∃ e ∈ l, Region.binds md e = true ∧ (e.on = i ∨ (acc.getD e.on 0).testBit i = true) := by
    intro l
    induction l with
    | nil => intro s h; exact .inl h
    | cons e l ih =>
      intro s h
      simp only [List.foldl_cons] at h
      rcases ih _ h with h1 | ⟨e', he', h1⟩
      · split at h1
        · rename_i hb
          simp only [Nat.testBit_or, Bool.or_eq_true, Nat.testBit_two_pow, decide_eq_true_eq] at h1
          rcases h1 with (h1 | h1) | h1
          · exact .inl h1
          · exact .inr ⟨e, by simp, hb, .inl h1⟩
          · exact .inr ⟨e, by simp, hb, .inr h1⟩
        · exact .inl h1
      · exact .inr ⟨e', by simp [he'], h1⟩
  rcases key _ _ h with h1 | ⟨e, he, h1⟩
  · simp at h1
  · exact ⟨e, by simpa using he, h1⟩

theorem masks_spec {j i : Nat} (h : ((masks md ops).getD j 0).testBit i = true) : Forced md ops j i := by
  have key : ∀ (rest pre : List Oper) (acc : List Nat), ops.toList = pre ++ rest → acc.length = pre.length → (∀ j i, (acc.getD j 0).testBit i = true → Forced md ops j i) →
      ∀ j i, ((rest.foldl (fun acc o => acc ++ [maskOf md acc o]) acc).getD j 0).testBit i = true → Forced md ops j i := by
    intro rest
    induction rest with
    | nil => intro pre acc _ _ h j i hj; exact h j i hj
    | cons o rest ih =>
      intro pre acc he hl h j i hj
      simp only [List.foldl_cons] at hj
      refine ih (pre ++ [o]) (acc ++ [maskOf md acc o]) (by simp [he]) (by simp [hl]) (fun j i hb => ?_) j i hj
      rcases Nat.lt_or_ge j acc.length with h1 | h1
      · refine h j i ?_
        rw [List.getD_eq_getElem?_getD, List.getElem?_append_left h1] at hb
        rwa [List.getD_eq_getElem?_getD]
      · rw [List.getD_eq_getElem?_getD, List.getElem?_append_right h1] at hb
        by_cases h2 : j - acc.length = 0
        · have hj' : j = acc.length := by omega
          rw [h2] at hb
          simp only [List.getElem?_cons_zero, Option.getD_some] at hb
          obtain ⟨e, he', hbd, hor⟩ := maskOf_spec hb
          have ho : ops[j]? = some o := by
            rw [← Array.getElem?_toList, he, hj', hl, List.getElem?_append_right (Nat.le_refl _)]
            simp
          rcases hor with rfl | h3
          · exact .one ho he' hbd
          · exact .step ho he' hbd (h _ _ h3)
        · rw [List.getElem?_cons] at hb
          simp [h2] at hb
  exact key ops.toList [] [] rfl rfl (by simp) j i h

/-- Behind each operation of X the condition S holds. -/
def wpAnyX (P : Program) (md : Region.Mode) (ops : Array Oper) (Q : Exit → Act → World → Prop) (S : World → Prop) (X : List Nat) : Nat → Array Bool → Act → World → Prop
  | 0, listed, a, w => Region.ready md ops listed = [] ∧ Q .normal a w
  | fuel + 1, listed, a, w =>
    (Region.ready md ops listed = [] → Q .normal a w) ∧
    ∀ i ∈ Region.ready md ops listed, wpOp P ops Q i (fun a' w' => (i ∈ X → S w') ∧ wpAnyX P md ops Q S X fuel (listed.setIfInBounds i true) a' w') a w

theorem wpAny_of_X : ∀ (fuel : Nat) (listed : Array Bool) (a : Act) (w : World), wpAnyX P md ops Q S X fuel listed a w → wpAny P md ops Q fuel listed a w
  | 0, _, _, _, h => h
  | fuel + 1, _, _, _, h => ⟨h.1, fun i hi => wpOp_mono (fun a' w' h' => wpAny_of_X fuel _ a' w' h'.2) (h.2 i hi)⟩

theorem X_of_wpAny : ∀ (fuel : Nat) (listed : Array Bool) (a : Act) (w : World), (∀ i ∈ X, listed.getD i true = true) → wpAny P md ops Q fuel listed a w → wpAnyX P md ops Q S X fuel listed a w
  | 0, _, _, _, _, h => h
  | fuel + 1, listed, _, _, hX, h => by
    refine ⟨h.1, fun i hi => wpOp_mono (fun a' w' h' => ?_) (h.2 i hi)⟩
    have hno : i ∉ X := fun hx => by
      have h1 := (mem_ready.1 hi).1
      rw [hX i hx] at h1
      cases h1
    refine ⟨fun hx => absurd hx hno, X_of_wpAny fuel _ a' w' (fun k hk => ?_) h'⟩
    have hik : i ≠ k := fun e => hno (e ▸ hk)
    rw [getD_set_ne true hik]
    exact hX k hk

theorem wpAnyX_first {i : Nat} {oi : Oper} {v : Value} (hi : ops[i]? = some oi) (hsel : ∀ (j : Nat) (o : Oper) cs b, ops[j]? = some o → o.op ≠ .select cs b)
    (hQ : ∀ c a w, Q (.panic c) (a.put oi.dst v) w → Q (.panic c) a w) :
    ∀ (fuel : Nat) (listed : Array Bool) (a : Act) (w : World), (∀ t o, ops[t]? = some o → t ∉ X → listed.getD t true = false → Forced md ops t i) → Shut md ops listed →
      (∀ j oj, ops[j]? = some oj → j ≠ i → listed.getD j true = false → (∀ e ∈ oj.after, Region.binds md e = true → e.on ≠ i) → oi.apart ops oj = true) →
      i ∈ Region.ready md ops listed → YieldsIf P ops S oi v a → S w →
      wpAnyX P md ops Q S X fuel (listed.setIfInBounds i true) (a.put oi.dst v) w → wpAnyX P md ops Q S X (fuel + 1) listed a w := by
  intro fuel
  induction fuel with
  | zero =>
    intro listed a w _ _ _ hr hy hS H
    refine ⟨fun h => (by rw [h] at hr; cases hr), fun j hj => ?_⟩
    by_cases hji : j = i
    · subst hji; exact hy.wpOp hi hS ⟨fun _ => hS, H⟩
    · have := ready_mono hj hji
      rw [H.1] at this
      cases this
  | succ fuel ih =>
    intro listed a w htail hshut hfree hr hy hS H
    refine ⟨fun h => (by rw [h] at hr; cases hr), fun j hj => ?_⟩
    by_cases hji : j = i
    · subst hji; exact hy.wpOp hi hS ⟨fun _ => hS, H⟩
    · have h1 := H.2 j (ready_mono hj hji)
      obtain ⟨hjun, oj, hoj, hall⟩ := mem_ready.1 hj
      have h0 := (mem_ready.1 hr).1
      have hjn : j ∈ X := by
        by_cases h : j ∈ X
        · exact h
        · have h2 := hshut.ready hj (htail j oj hoj h hjun)
          rw [getD_both' h0] at h2
          cases h2
      have hnot : ∀ e ∈ oj.after, Region.binds md e = true → e.on ≠ i := fun e he hb heq => by
        have h1 := hall e he hb
        rw [heq, getD_both' h0] at h1
        cases h1
      have h2 := wpOp_putIf hoj (hfree j oj hoj hji hjun hnot) (fun cs b => hsel i oi cs b hi) (fun cs b => hsel j oj cs b hoj) hQ hy h1
      have hfree' : ∀ k ok, ops[k]? = some ok → k ≠ i → (listed.setIfInBounds j true).getD k true = false →
          (∀ e ∈ ok.after, Region.binds md e = true → e.on ≠ i) → oi.apart ops ok = true := fun k ok hk hki hun hno => by
        refine hfree k ok hk hki ?_ hno
        by_cases hjk : j = k
        · subst hjk; exact hjun
        · rw [getD_set_ne true hjk] at hun; exact hun
      have htail' : ∀ t o, ops[t]? = some o → t ∉ X → (listed.setIfInBounds j true).getD t true = false → Forced md ops t i := fun t o ho hx hun => by
        refine htail t o ho hx ?_
        by_cases hjt : j = t
        · subst hjt; exact hjun
        · rw [getD_set_ne true hjt] at hun; exact hun
      refine wpOp_mono (fun a' w' h3 => ⟨fun hj => h3.2.1 hj, ih (listed.setIfInBounds j true) a' w' htail' (hshut.set hj) hfree' (ready_mono hr (Ne.symm hji)) h3.1 (h3.2.1 hjn) ?_⟩) h2
      rw [Array.setIfInBounds_comm _ _ hji]
      exact h3.2.2

/-- What is listed behind a stage. -/
def listedBy (ord : List (Nat × Bool)) (listed : Array Bool) : Array Bool := ord.foldl (fun l p => l.setIfInBounds p.1 true) listed

def tailB (md : Region.Mode) (ops : Array Oper) (ms : List Nat) (X : List Nat) (listed : Array Bool) (i : Nat) : Bool :=
  (List.range ops.size).all fun t => X.contains t || listed.getD t true || (ms.getD t 0).testBit i

def ordX (md : Region.Mode) (ops : Array Oper) (ms : List Nat) (X : List Nat) : List (Nat × Bool) → Array Bool → Bool
  | [], listed => X.all fun i => listed.getD i true
  | (i, true) :: r, listed => (Region.ready md ops listed).contains i && Region.free md ops listed i && tailB md ops ms X listed i && ordX md ops ms X r (listed.setIfInBounds i true)
  | (i, false) :: r, listed => decide (Region.ready md ops listed = [i]) && ordX md ops ms X r (listed.setIfInBounds i true)

def shutB (md : Region.Mode) (ops : Array Oper) (listed : Array Bool) : Bool :=
  (List.range ops.size).all fun j => !listed.getD j false || match ops[j]? with | some o => o.after.all (fun e => !Region.binds md e || listed.getD e.on false) | none => true

def stageB (md : Region.Mode) (ops : Array Oper) (ord : List (Nat × Bool)) (listed : Array Bool) : Bool :=
  Region.noSelect ops && shutB md ops listed && ordX md ops (masks md ops) (ord.map (·.1)) ord listed

theorem shutB_spec {listed : Array Bool} (h : shutB md ops listed = true) : Shut md ops listed := by
  intro j o ho hj e he hb
  simp only [shutB, List.all_eq_true, List.mem_range] at h
  have h1 := h j (Array.getElem?_eq_some_iff.1 ho).1
  simp only [ho, hj, Bool.not_true, Bool.false_or, Array.all_eq_true_iff_forall_mem, Bool.or_eq_true, Bool.not_eq_true'] at h1
  rcases h1 e he with h2 | h2
  · rw [hb] at h2; cases h2
  · exact h2

theorem wpAnyX_of_ord (hsel : ∀ (j : Nat) (o : Oper) cs b, ops[j]? = some o → o.op ≠ .select cs b) (hQ : ∀ c a d v w, Q (.panic c) (a.put d v) w → Q (.panic c) a w) (fuel : Nat) :
    ∀ (ord : List (Nat × Bool)) (listed : Array Bool) (a : Act) (w : World), ordX md ops (masks md ops) X ord listed = true → (∀ i, (i, false) ∈ ord → i ∈ X) → Shut md ops listed → S w →
      wpOrd P ops Q S (fun a w => wpAny P md ops Q fuel (listedBy ord listed) a w) ord a w → wpAnyX P md ops Q S X (ord.length + fuel) listed a w
  | [], listed, a, w, hB, _, _, _, h => by
    rw [List.length_nil, Nat.zero_add]
    exact X_of_wpAny fuel listed a w (by simpa [ordX] using hB) h
  | (i, true) :: r, listed, a, w, hB, hX, hsh, hS, h => by
    simp only [ordX, Bool.and_eq_true] at hB
    obtain ⟨⟨⟨hr, hf⟩, ht⟩, hB⟩ := hB
    have hr' : i ∈ Region.ready md ops listed := by simpa using hr
    obtain ⟨o, v, ho, hy, h⟩ := h
    have ih := wpAnyX_of_ord hsel hQ fuel r _ _ _ hB (fun k hk => hX k (by simp [hk])) (hsh.set hr') hS h
    rw [List.length_cons, show r.length + 1 + fuel = (r.length + fuel) + 1 by omega]
    refine wpAnyX_first ho hsel (fun c a w => hQ c a _ _ w) _ _ _ _ (fun t o' ho' hx hun => ?_) hsh (Region.free_spec ho hf) hr' hy hS ih
    simp only [tailB, List.all_eq_true, List.mem_range, Bool.or_eq_true] at ht
    rcases ht t (Array.getElem?_eq_some_iff.1 ho').1 with (h1 | h1) | h1
    · exact absurd (by simpa using h1) hx
    · rw [hun] at h1; cases h1
    · exact masks_spec h1
  | (i, false) :: r, listed, a, w, hB, hX, hsh, hS, h => by
    simp only [ordX, Bool.and_eq_true, decide_eq_true_eq] at hB
    obtain ⟨hr, hB⟩ := hB
    rw [List.length_cons, show r.length + 1 + fuel = (r.length + fuel) + 1 by omega]
    refine ⟨fun h0 => (by rw [hr] at h0; cases h0), fun j hj => ?_⟩
    have hj0 := hj
    rw [hr] at hj
    have hji : j = i := by simpa using hj
    subst hji
    exact wpOp_mono (fun a' w' h' => ⟨fun _ => h'.1, wpAnyX_of_ord hsel hQ fuel r _ a' w' hB (fun k hk => hX k (by simp [hk])) (hsh.set hj0) h'.1 h'.2⟩) h

/-- One stage of a region that draws its order. -/
theorem wp_stage (S : World → Prop) (ord : List (Nat × Bool)) (fuel : Nat) {listed : Array Bool} {a : Act} {w : World} {full : Nat} (hfull : full = ord.length + fuel) (hB : stageB md ops ord listed = true)
    (hQ : ∀ c a d v w, Q (.panic c) (a.put d v) w → Q (.panic c) a w) (hS : S w)
    (h : wpOrd P ops Q S (fun a w => wpAny P md ops Q fuel (listedBy ord listed) a w) ord a w) : wpAny P md ops Q full listed a w := by
  subst hfull
  simp only [stageB, Bool.and_eq_true] at hB
  obtain ⟨⟨h1, h2⟩, h3⟩ := hB
  exact wpAny_of_X (S := S) (X := ord.map (·.1)) _ _ _ _ (wpAnyX_of_ord (Region.noSelect_spec h1) hQ fuel ord listed a w h3 (fun i hi => List.mem_map.2 ⟨_, hi, rfl⟩) (shutB_spec h2) hS h)

def pureB (md : Region.Mode) (ops : Array Oper) : List (Nat × Bool) → Array Bool → Bool
  | [], _ => true
  | (i, b) :: r, listed => b && (Region.ready md ops listed).contains i && Region.free md ops listed i && pureB md ops r (listed.setIfInBounds i true)

theorem yields_pure {o : Oper} {v : Value} {a : Act} (h : YieldsIf P ops (fun _ => True) o v a) : Yields P ops o v a := by
  rcases h with ⟨h1, h2⟩ | h
  · exact .inl ⟨h1, fun w => h2 w trivial⟩
  · exact .inr h

theorem wpAny_of_pure (hsel : ∀ (j : Nat) (o : Oper) cs b, ops[j]? = some o → o.op ≠ .select cs b) (hQ : ∀ c a d v w, Q (.panic c) (a.put d v) w → Q (.panic c) a w) (fuel : Nat) :
    ∀ (ord : List (Nat × Bool)) (listed : Array Bool) (a : Act) (w : World), pureB md ops ord listed = true →
      wpOrd P ops Q (fun _ => True) (fun a w => wpAny P md ops Q fuel (listedBy ord listed) a w) ord a w → wpAny P md ops Q (ord.length + fuel) listed a w
  | [], listed, a, w, _, h => by rw [List.length_nil, Nat.zero_add]; exact h
  | (i, true) :: r, listed, a, w, hB, h => by
    simp only [pureB, Bool.and_eq_true, Bool.true_and] at hB
    obtain ⟨⟨hr, hf⟩, hB⟩ := hB
    obtain ⟨o, v, ho, hy, h⟩ := h
    have ih := wpAny_of_pure hsel hQ fuel r _ _ _ hB h
    rw [List.length_cons, show r.length + 1 + fuel = (r.length + fuel) + 1 by omega]
    exact wpAny_first ho hsel (fun c a w => hQ c a _ _ w) _ _ _ _ (Region.free_spec ho hf) (by simpa using hr) (yields_pure hy) ih
  | (i, false) :: r, listed, a, w, hB, h => by simp [pureB] at hB

/-- A first stage of operations that touch no memory. -/
theorem wp_pures (ord : List (Nat × Bool)) (fuel : Nat) {listed : Array Bool} {a : Act} {w : World} {full : Nat} (hfull : full = ord.length + fuel) (hs : Region.noSelect ops = true) (hB : pureB md ops ord listed = true)
    (hQ : ∀ c a d v w, Q (.panic c) (a.put d v) w → Q (.panic c) a w)
    (h : wpOrd P ops Q (fun _ => True) (fun a w => wpAny P md ops Q fuel (listedBy ord listed) a w) ord a w) : wpAny P md ops Q full listed a w := by
  subst hfull
  exact wpAny_of_pure (Region.noSelect_spec hs) hQ fuel ord listed a w hB h

/-- A region that draws its order begins. -/
theorem wp_stages {id : Nat} {a : Act} {w : World} (hm : P.follows .mixedOrders = true) (h : wpAny P .any ops Q ops.size (Array.replicate ops.size false) a w.drew) : (Code.region id ops true).wp P Q a w :=
  wp_region_any hm h

/-- The last stage is behind: nothing is left, or what is left comes up in one order. -/
theorem wp_stages_end (k : Nat) {fuel : Nat} {listed : Array Bool} {a : Act} {w : World} (hl : (ops.toList.drop k).length = fuel) (hB : seqB md ops fuel k listed = true) (h : wpList P ops Q (ops.toList.drop k) a w) : wpAny P md ops Q fuel listed a w := by
  subst hl
  exact wpAny_of_T (S := fun _ => True) (n := 0) _ _ _ _ (wpAnyT_of_seq (n := 0) _ k listed a w (Nat.zero_le _) (fun j => by simp) hB h)
end
end Go.Proofs.YtjaabhdgahljcaaDoor
