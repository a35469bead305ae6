/- Parts of the proof: A region that draws its order, walked in stages: each stage is a set of operations that all the rest waits for (directly or through others), walked in one order under a condition of its own. No condition but what 'stageB' asks, which the kernel reckons. -/
import Derived.Test.YtnffnpndnaofhaaGreatDoorQad

/- A region that draws its order, walked in stages: each stage is a set of operations that all the rest waits for (directly or through others), walked in one order under a condition of its own. No condition but what 'stageB' asks, which the kernel reckons. -/
namespace Go.Proofs.YtnffnpndnaofhaaGreatDoor
section
variable {P : Program} {ops : Array Oper} {Q : Exit → Act → World → Prop} {md : Region.Mode} {S : World → Prop} {X : List Nat}

inductive Forced (md : Region.Mode) (ops : Array Oper) : Nat → Nat → Prop
  | one {j : Nat} {o : Oper} {e : Edge} : ops[j]? = some o → e ∈ o.after → Region.binds md e = true → Forced md ops j e.on
  | step {j i : Nat} {o : Oper} {e : Edge} : ops[j]? = some o → e ∈ o.after → Region.binds md e = true → Forced md ops e.on i → Forced md ops j i

/-- What is listed is listed with all that it waits for. -/
def Shut (md : Region.Mode) (ops : Array Oper) (listed : Array Bool) : Prop :=
  ∀ j o, ops[j]? = some o → listed.getD j false = true → ∀ e ∈ o.after, Region.binds md e = true → listed.getD e.on false = true

theorem Shut.forced {listed : Array Bool} (h : Shut md ops listed) {j i : Nat} (hf : Forced md ops j i) : listed.getD j false = true → listed.getD i false = true := by
  induction hf with
  | one ho he hb => exact fun hj => h _ _ ho hj _ he hb
  | step ho he hb _ ih => exact fun hj => ih (h _ _ ho hj _ he hb)

theorem Shut.ready {listed : Array Bool} (h : Shut md ops listed) {j i : Nat} (hj : j ∈ Region.ready md ops listed) (hf : Forced md ops j i) : listed.getD i false = true := by
  obtain ⟨_, oj, hoj, hall⟩ := mem_ready.1 hj
  cases hf with
  | one ho he hb =>
    have : _ = oj := Option.some.inj (ho.symm.trans hoj)
    subst this
    exact hall _ he hb
  | step ho he hb hf =>
    have : _ = oj := Option.some.inj (ho.symm.trans hoj)
    subst this
    exact h.forced hf (hall _ he hb)

theorem Shut.set {listed : Array Bool} (h : Shut md ops listed) {i : Nat} (hi : i ∈ Region.ready md ops listed) : Shut md ops (listed.setIfInBounds i true) := by
  intro j o ho hj e he hb
  by_cases hij : i = j
  · subst hij
    obtain ⟨_, oj, hoj, hall⟩ := mem_ready.1 hi
    have : o = oj := Option.some.inj (ho.symm.trans hoj)
    subst this
    exact getD_set_true (hall e he hb)
  · rw [getD_set_ne false hij] at hj
    exact getD_set_true (h j o ho hj e he hb)

def maskOf (md : Region.Mode) (acc : List Nat) (o : Oper) : Nat := o.after.toList.foldl (fun s e => if Region.binds md e then s ||| 2 ^ e.on ||| acc.getD e.on 0 else s) 0
def masks (md : Region.Mode) (ops : Array Oper) : List Nat := ops.toList.foldl (fun acc o => acc ++ [maskOf md acc o]) []

theorem maskOf_spec {acc : List Nat} {o : Oper} {i : Nat} (h : (maskOf md acc o).testBit i = true) : ∃ e ∈ o.after, Region.binds md e = true ∧ (e.on = i ∨ (acc.getD e.on 0).testBit i = true) := by
  have key : ∀ (l : List Edge) (s : Nat), (l.foldl (fun s e => if Region.binds md e then s ||| 2 ^ e.on ||| acc.getD e.on 0 else s) s).testBit i = true →
      s.testBit i = true ∨ ∃ e ∈ l, Region.binds md e = true ∧ (e.on = i ∨ (acc.getD e.on 0).testBit i = true) := by
    intro l
    induction l with
    | nil => intro s h; exact .inl h
    | cons e l ih =>
      intro s h
      simp only [List.foldl_cons] at h
      rcases ih _ h with h1 | ⟨e', he', h1⟩
      · split at h1
        · rename_i hb
          simp only [Nat.testBit_or, Bool.or_eq_true, Nat.testBit_two_pow, decide_eq_true_eq] at h1
          rcases h1 with (h1 | h1) | h1
          · exact .inl h1
          · exact .inr ⟨e, by simp, hb, .inl h1⟩
          · exact .inr ⟨e, by simp, hb, .inr h1⟩
        · exact .inl h1
      · exact .inr ⟨e', by simp [he'], h1⟩
  rcases key _ _ h with h1 | ⟨e, he, h1⟩
  · simp at h1
  · exact ⟨e, by simpa using he, h1⟩

theorem masks_spec {j i : Nat} (h : ((masks md ops).getD j 0).testBit i = true) : Forced md ops j i := by
  have key : ∀ (rest pre : List Oper) (acc : List Nat), ops.toList = pre ++ rest → acc.length = pre.length → (∀ j i, (acc.getD j 0).testBit i = true → Forced md ops j i) →
      ∀ j i, ((rest.foldl (fun acc o => acc ++ [maskOf md acc o]) acc).getD j 0).testBit i = true → Forced md ops j i := by
    intro rest
    induction rest with
    | nil => intro pre acc _ _ h j i hj; exact h j i hj
    | cons o rest ih =>
      intro pre acc he hl h j i hj
      simp only [List.foldl_cons] at hj
      refine ih (pre ++ [o]) (acc ++ [maskOf md acc o]) (by simp [he]) (by simp [hl]) (fun j i hb => ?_) j i hj
      rcases Nat.lt_or_ge j acc.length with h1 | h1
      · refine h j i ?_
        rw [List.getD_eq_getElem?_getD, List.getElem?_append_left h1] at hb
        rwa [List.getD_eq_getElem?_getD]
      · rw [List.getD_eq_getElem?_getD, List.getElem?_append_right h1] at hb
        by_cases h2 : j - acc.length = 0
        · have hj' : j = acc.length := by omega
          rw [h2] at hb
          simp only [List.getElem?_cons_zero, Option.getD_some] at hb
          obtain ⟨e, he', hbd, hor⟩ := maskOf_spec hb
          have ho : ops[j]? = some o := by
            rw [← Array.getElem?_toList, he, hj', hl, List.getElem?_append_right (Nat.le_refl _)]
            simp
          rcases hor with rfl | h3
          · exact .one ho he' hbd
          · exact .step ho he' hbd (h _ _ h3)
        · rw [List.getElem?_cons] at hb
          simp [h2] at hb
  exact key ops.toList [] [] rfl rfl (by simp) j i h

/-- Behind each operation of X the condition S holds. -/
def wpAnyX (P : Program) (md : Region.Mode) (ops : Array Oper) (Q : Exit → Act → World → Prop) (S : World → Prop) (X : List Nat) : Nat → Array Bool → Act → World → Prop
  | 0, listed, a, w => Region.ready md ops listed = [] ∧ Q .normal a w
  | fuel + 1, listed, a, w =>
    (Region.ready md ops listed = [] → Q .normal a w) ∧
    ∀ i ∈ Region.ready md ops listed, wpOp P ops Q i (fun a' w' => (i ∈ X → S w') ∧ wpAnyX P md ops Q S X fuel (listed.setIfInBounds i true) a' w') a w

theorem wpAny_of_X : ∀ (fuel : Nat) (listed : Array Bool) (a : Act) (w : World), wpAnyX P md ops Q S X fuel listed a w → wpAny P md ops Q fuel listed a w
  | 0, _, _, _, h => h
  | fuel + 1, _, _, _, h => ⟨h.1, fun i hi => wpOp_mono (fun a' w' h' => wpAny_of_X fuel _ a' w' h'.2) (h.2 i hi)⟩

theorem X_of_wpAny : ∀ (fuel : Nat) (listed : Array Bool) (a : Act) (w : World), (∀ i ∈ X, listed.getD i true = true) → wpAny P md ops Q fuel listed a w → wpAnyX P md ops Q S X fuel listed a w
  | 0, _, _, _, _, h => h
  | fuel + 1, listed, _, _, hX, h => by
    refine ⟨h.1, fun i hi => wpOp_mono (fun a' w' h' => ?_) (h.2 i hi)⟩
    have hno : i ∉ X := fun hx => by
      have h1 := (mem_ready.1 hi).1
      rw [hX i hx] at h1
      cases h1
    refine ⟨fun hx => absurd hx hno, X_of_wpAny fuel _ a' w' (fun k hk => ?_) h'⟩
    have hik : i ≠ k := fun e => hno (e ▸ hk)
    rw [getD_set_ne true hik]
    exact hX k hk

theorem wpAnyX_first {i : Nat} {oi : Oper} {v : Value} (hi : ops[i]? = some oi) (hsel : ∀ (j : Nat) (o : Oper) cs b, ops[j]? = some o → o.op ≠ .select cs b)
    (hQ : ∀ c a w, Q (.panic c) (a.put oi.dst v) w → Q (.panic c) a w) :
    ∀ (fuel : Nat) (listed : Array Bool) (a : Act) (w : World), (∀ t o, ops[t]? = some o → t ∉ X → listed.getD t true = false → Forced md ops t i) → Shut md ops listed →
      (∀ j oj, ops[j]? = some oj → j ≠ i → listed.getD j true = false → (∀ e ∈ oj.after, Region.binds md e = true → e.on ≠ i) → oi.apart ops oj = true) →
      i ∈ Region.ready md ops listed → YieldsIf P ops S oi v a → S w →
      wpAnyX P md ops Q S X fuel (listed.setIfInBounds i true) (a.put oi.dst v) w → wpAnyX P md ops Q S X (fuel + 1) listed a w := by
  intro fuel
  induction fuel with
  | zero =>
    intro listed a w _ _ _ hr hy hS H
    refine ⟨fun h => (by rw [h] at hr; cases hr), fun j hj => ?_⟩
    by_cases hji : j = i
    · subst hji; exact hy.wpOp hi hS ⟨fun _ => hS, H⟩
    · have := ready_mono hj hji
      rw [H.1] at this
      cases this
  | succ fuel ih =>
    intro listed a w htail hshut hfree hr hy hS H
    refine ⟨fun h => (by rw [h] at hr; cases hr), fun j hj => ?_⟩
    by_cases hji : j = i
    · subst hji; exact hy.wpOp hi hS ⟨fun _ => hS, H⟩
    · have h1 := H.2 j (ready_mono hj hji)
      obtain ⟨hjun, oj, hoj, hall⟩ := mem_ready.1 hj
      have h0 := (mem_ready.1 hr).1
      have hjn : j ∈ X := by
        by_cases h : j ∈ X
        · exact h
        · have h2 := hshut.ready hj (htail j oj hoj h hjun)
          rw [getD_both' h0] at h2
          cases h2
      have hnot : ∀ e ∈ oj.after, Region.binds md e = true → e.on ≠ i := fun e he hb heq => by
        have h1 := hall e he hb
        rw [heq, getD_both' h0] at h1
        cases h1
      have h2 := wpOp_putIf hoj (hfree j oj hoj hji hjun hnot) (fun cs b => hsel i oi cs b hi) (fun cs b => hsel j oj cs b hoj) hQ hy h1
      have hfree' : ∀ k ok, ops[k]? = some ok → k ≠ i → (listed.setIfInBounds j true).getD k true = false →
          (∀ e ∈ ok.after, Region.binds md e = true → e.on ≠ i) → oi.apart ops ok = true := fun k ok hk hki hun hno => by
        refine hfree k ok hk hki ?_ hno
        by_cases hjk : j = k
        · subst hjk; exact hjun
        · rw [getD_set_ne true hjk] at hun; exact hun
      have htail' : ∀ t o, ops[t]? = some o → t ∉ X → (listed.setIfInBounds j true).getD t true = false → Forced md ops t i := fun t o ho hx hun => by
        refine htail t o ho hx ?_
        by_cases hjt : j = t
        · subst hjt; exact hjun
        · rw [getD_set_ne true hjt] at hun; exact hun
      refine wpOp_mono (fun a' w' h3 => ⟨fun hj => h3.2.1 hj, ih (listed.setIfInBounds j true) a' w' htail' (hshut.set hj) hfree' (ready_mono hr (Ne.symm hji)) h3.1 (h3.2.1 hjn) ?_⟩) h2
      rw [Array.setIfInBounds_comm _ _ hji]
      exact h3.2.2

/-- What is listed behind a stage. -/
def listedBy (ord : List (Nat × Bool)) (listed : Array Bool) : Array Bool := ord.foldl (fun l p => l.setIfInBounds p.1 true) listed

def tailB (md : Region.Mode) (ops : Array Oper) (ms : List Nat) (X : List Nat) (listed : Array Bool) (i : Nat) : Bool :=
  (List.range ops.size).all fun t => X.contains t || listed.getD t true || (ms.getD t 0).testBit i

def ordX (md : Region.Mode) (ops : Array Oper) (ms : List Nat) (X : List Nat) : List (Nat × Bool) → Array Bool → Bool
  | [], listed => X.all fun i => listed.getD i true
  | (i, true) :: r, listed => (Region.ready md ops listed).contains i && Region.free md ops listed i && tailB md ops ms X listed i && ordX md ops ms X r (listed.setIfInBounds i true)
  | (i, false) :: r, listed => decide (Region.ready md ops listed = [i]) && ordX md ops ms X r (listed.setIfInBounds i true)

def shutB (md : Region.Mode) (ops : Array Oper) (listed : Array Bool) : Bool :=
  (List.range ops.size).all fun j => !listed.getD j false || match ops[j]? with | some o => o.after.all (fun e => !Region.binds md e || listed.getD e.on false) | none => true

def stageB (md : Region.Mode) (ops : Array Oper) (ord : List (Nat × Bool)) (listed : Array Bool) : Bool :=
  Region.noSelect ops && shutB md ops listed && ordX md ops (masks md ops) (ord.map (·.1)) ord listed

theorem shutB_spec {listed : Array Bool} (h : shutB md ops listed = true) : Shut md ops listed := by
  intro j o ho hj e he hb
  simp only [shutB, List.all_eq_true, List.mem_range] at h
  have h1 := h j (Array.getElem?_eq_some_iff.1 ho).1
  simp only [ho, hj, Bool.not_true, Bool.false_or, Array.all_eq_true_iff_forall_mem, Bool.or_eq_true, Bool.not_eq_true'] at h1
  rcases h1 e he with h2 | h2
  · rw [hb] at h2; cases h2
  · exact h2

theorem wpAnyX_of_ord (hsel : ∀ (j : Nat) (o : Oper) cs b, ops[j]? = some o → o.op ≠ .select cs b) (hQ : ∀ c a d v w, Q (.panic c) (a.put d v) w → Q (.panic c) a w) (fuel : Nat) :
    ∀ (ord : List (Nat × Bool)) (listed : Array Bool) (a : Act) (w : World), ordX md ops (masks md ops) X ord listed = true → (∀ i, (i, false) ∈ ord → i ∈ X) → Shut md ops listed → S w →
      wpOrd P ops Q S (fun a w => wpAny P md ops Q fuel (listedBy ord listed) a w) ord a w → wpAnyX P md ops Q S X (ord.length + fuel) listed a w
  | [], listed, a, w, hB, _, _, _, h => by
    rw [List.length_nil, Nat.zero_add]
    exact X_of_wpAny fuel listed a w (by simpa [ordX] using hB) h
  | (i, true) :: r, listed, a, w, hB, hX, hsh, hS, h => by
    simp only [ordX, Bool.and_eq_true] at hB
    obtain ⟨⟨⟨hr, hf⟩, ht⟩, hB⟩ := hB
    have hr' : i ∈ Region.ready md ops listed := by simpa using hr
    obtain ⟨o, v, ho, hy, h⟩ := h
    have ih := wpAnyX_of_ord hsel hQ fuel r _ _ _ hB (fun k hk => hX k (by simp [hk])) (hsh.set hr') hS h
    rw [List.length_cons, show r.length + 1 + fuel = (r.length + fuel) + 1 by omega]
    refine wpAnyX_first ho hsel (fun c a w => hQ c a _ _ w) _ _ _ _ (fun t o' ho' hx hun => ?_) hsh (Region.free_spec ho hf) hr' hy hS ih
    simp only [tailB, List.all_eq_true, List.mem_range, Bool.or_eq_true] at ht
    rcases ht t (Array.getElem?_eq_some_iff.1 ho').1 with (h1 | h1) | h1
    · exact absurd (by simpa using h1) hx
    · rw [hun] at h1; cases h1
    · exact masks_spec h1
  | (i, false) :: r, listed, a, w, hB, hX, hsh, hS, h => by
    simp only [ordX, Bool.and_eq_true, decide_eq_true_eq] at hB
    obtain ⟨hr, hB⟩ := hB
    rw [List.length_cons, show r.length + 1 + fuel = (r.length + fuel) + 1 by omega]
    refine ⟨fun h0 => (by rw [hr] at h0; cases h0), fun j hj => ?_⟩
    have hj0 := hj
    rw [hr] at hj
    have hji : j = i := by simpa using hj
    subst hji
    exact wpOp_mono (fun a' w' h' => ⟨fun _ => h'.1, wpAnyX_of_ord hsel hQ fuel r _ a' w' hB (fun k hk => hX k (by simp [hk])) (hsh.set hj0) h'.1 h'.2⟩) h

/-- One stage of a region that draws its order. -/
theorem wp_stage (S : World → Prop) (ord : List (Nat × Bool)) (fuel : Nat) {listed : Array Bool} {a : Act} {w : World} {full : Nat} (hfull : full = ord.length + fuel) (hB : stageB md ops ord listed = true)
    (hQ : ∀ c a d v w, Q (.panic c) (a.put d v) w → Q (.panic c) a w) (hS : S w)
    (h : wpOrd P ops Q S (fun a w => wpAny P md ops Q fuel (listedBy ord listed) a w) ord a w) : wpAny P md ops Q full listed a w := by
  subst hfull
  simp only [stageB, Bool.and_eq_true] at hB
  obtain ⟨⟨h1, h2⟩, h3⟩ := hB
  exact wpAny_of_X (S := S) (X := ord.map (·.1)) _ _ _ _ (wpAnyX_of_ord (Region.noSelect_spec h1) hQ fuel ord listed a w h3 (fun i hi => List.mem_map.2 ⟨_, hi, rfl⟩) (shutB_spec h2) hS h)

def pureB (md : Region.Mode) (ops : Array Oper) : List (Nat × Bool) → Array Bool → Bool
  | [], _ => true
  | (i, b) :: r, listed => b && (Region.ready md ops listed).contains i && Region.free md ops listed i && pureB md ops r (listed.setIfInBounds i true)

theorem yields_pure {o : Oper} {v : Value} {a : Act} (h : YieldsIf P ops (fun _ => True) o v a) : Yields P ops o v a := by
  rcases h with ⟨h1, h2⟩ | h
  · exact .inl ⟨h1, fun w => h2 w trivial⟩
  · exact .inr h

theorem wpAny_of_pure (hsel : ∀ (j : Nat) (o : Oper) cs b, ops[j]? = some o → o.op ≠ .select cs b) (hQ : ∀ c a d v w, Q (.panic c) (a.put d v) w → Q (.panic c) a w) (fuel : Nat) :
    ∀ (ord : List (Nat × Bool)) (listed : Array Bool) (a : Act) (w : World), pureB md ops ord listed = true →
      wpOrd P ops Q (fun _ => True) (fun a w => wpAny P md ops Q fuel (listedBy ord listed) a w) ord a w → wpAny P md ops Q (ord.length + fuel) listed a w
  | [], listed, a, w, _, h => by rw [List.length_nil, Nat.zero_add]; exact h
  | (i, true) :: r, listed, a, w, hB, h => by
    simp only [pureB, Bool.and_eq_true, Bool.true_and] at hB
    obtain ⟨⟨hr, hf⟩, hB⟩ := hB
    obtain ⟨o, v, ho, hy, h⟩ := h
    have ih := wpAny_of_pure hsel hQ fuel r _ _ _ hB h
    rw [List.length_cons, show r.length + 1 + fuel = (r.length + fuel) + 1 by omega]
    exact wpAny_first ho hsel (fun c a w => hQ c a _ _ w) _ _ _ _ (Region.free_spec ho hf) (by simpa using hr) (yields_pure hy) ih
  | (i, false) :: r, listed, a, w, hB, h => by simp [pureB] at hB

/-- A first stage of operations that touch no memory. -/
theorem wp_pures (ord : List (Nat × Bool)) (fuel : Nat) {listed : Array Bool} {a : Act} {w : World} {full : Nat} (hfull : full = ord.length + fuel) (hs : Region.noSelect ops = true) (hB : pureB md ops ord listed = true)
    (hQ : ∀ c a d v w, Q (.panic c) (a.put d v) w → Q (.panic c) a w)
    (h : wpOrd P ops Q (fun _ => True) (fun a w => wpAny P md ops Q fuel (listedBy ord listed) a w) ord a w) : wpAny P md ops Q full listed a w := by
  subst hfull
  exact wpAny_of_pure (Region.noSelect_spec hs) hQ fuel ord listed a w hB h

/-- A region that draws its order begins. -/
theorem wp_stages {id : Nat} {a : Act} {w : World} (hm : P.follows .mixedOrders = true) (h : wpAny P .any ops Q ops.size (Array.replicate ops.size false) a w.drew) : (Code.region id ops true).wp P Q a w :=
  wp_region_any hm h

/-- The last stage is behind: nothing is left, or what is left comes up in one order. -/
theorem wp_stages_end (k : Nat) {fuel : Nat} {listed : Array Bool} {a : Act} {w : World} (hl : (ops.toList.drop k).length = fuel) (hB : seqB md ops fuel k listed = true) (h : wpList P ops Q (ops.toList.drop k) a w) : wpAny P md ops Q fuel listed a w := by
  subst hl
  exact wpAny_of_T (S := fun _ => True) (n := 0) _ _ _ _ (wpAnyT_of_seq (n := 0) _ k listed a w (Nat.zero_le _) (fun j => by simp) hB h)
end
end Go.Proofs.YtnffnpndnaofhaaGreatDoor

/- A region that draws its order, walked under an invariant: what each operation, whenever it comes up, keeps. No condition but what the kernel reckons. -/
namespace Go.Proofs.YtnffnpndnaofhaaGreatDoor
section
variable {P : Program} {ops : Array Oper} {Q : Exit → Act → World → Prop} {md : Region.Mode}

/-- Each operation waits for earlier ones alone. -/
def backB (md : Region.Mode) (ops : Array Oper) : Bool := (List.range ops.size).all fun i => match ops[i]? with
  | some o => o.after.all fun e => !Region.binds md e || decide (e.on < i)
  | none => true

def leftN (listed : Array Bool) : Nat := listed.toList.countP (fun b => !b)

theorem countP_set_true : ∀ (l : List Bool) (i : Nat), l[i]? = some false → (l.set i true).countP (fun b => !b) + 1 = l.countP (fun b => !b)
  | [], i, h => by simp at h
  | b :: l, 0, h => by
    simp only [List.getElem?_cons_zero, Option.some.injEq] at h
    subst h
    simp
  | b :: l, i + 1, h => by
    simp only [List.getElem?_cons_succ] at h
    have := countP_set_true l i h
    simp only [List.set_cons_succ, List.countP_cons]
    omega

theorem getD_false_some {listed : Array Bool} {i : Nat} (h : listed.getD i true = false) : listed.toList[i]? = some false := by
  rw [Array.getElem?_toList]
  simp only [Array.getD_eq_getD_getElem?] at h
  cases hq : listed[i]? with
  | none => rw [hq] at h; simp at h
  | some b => rw [hq] at h; simp at h; rw [h]

theorem leftN_set {listed : Array Bool} {i : Nat} (h : i ∈ Region.ready md ops listed) : leftN (listed.setIfInBounds i true) + 1 = leftN listed := by
  unfold leftN
  rw [Array.toList_setIfInBounds]
  exact countP_set_true _ _ (getD_false_some (mem_ready.1 h).1)

theorem ready_nil {listed : Array Bool} (hb : backB md ops = true) (hs : listed.size = ops.size) (h : Region.ready md ops listed = []) : ∀ i, i < ops.size → listed.getD i false = true := by
  intro i
  induction i using Nat.strongRecOn with
  | ind i ih =>
    intro hi
    cases hg : listed.getD i false with
    | true => rfl
    | false =>
      exfalso
      have hin : i ∈ Region.ready md ops listed := by
        refine mem_ready.2 ⟨?_, ops[i], Array.getElem?_eq_getElem hi, fun e he hbd => ?_⟩
        · rw [Array.getD_eq_getD_getElem?] at hg ⊢
          rw [Array.getElem?_eq_getElem (by omega)] at hg ⊢
          simpa using hg
        · unfold backB at hb
          rw [List.all_eq_true] at hb
          have hbi := hb i (List.mem_range.2 hi)
          rw [Array.getElem?_eq_getElem hi] at hbi
          have h1 := Array.all_eq_true'.1 hbi e he
          rw [hbd] at h1
          have h2 : e.on < i := by simpa using h1
          exact ih e.on h2 (by omega)
      rw [h] at hin
      cases hin

theorem wpAny_inv {I : Array Bool → Act → World → Prop} (hb : backB md ops = true) (hsz : ∀ listed a w, I listed a w → listed.size = ops.size)
    (hstep : ∀ listed a w, I listed a w → ∀ i ∈ Region.ready md ops listed, wpOp P ops Q i (fun a' w' => I (listed.setIfInBounds i true) a' w') a w)
    (hend : ∀ listed a w, I listed a w → (∀ i, i < ops.size → listed.getD i false = true) → Q .normal a w) :
    ∀ (fuel : Nat) (listed : Array Bool) (a : Act) (w : World), leftN listed = fuel → I listed a w → wpAny P md ops Q fuel listed a w
  | 0, listed, a, w, hl, hI => by
    have hr : Region.ready md ops listed = [] := by
      cases hq : Region.ready md ops listed with
      | nil => rfl
      | cons i r =>
        have := leftN_set (md := md) (ops := ops) (listed := listed) (i := i) (by rw [hq]; exact List.mem_cons_self)
        omega
    exact ⟨hr, hend listed a w hI (ready_nil hb (hsz _ _ _ hI) hr)⟩
  | fuel + 1, listed, a, w, hl, hI => by
    refine ⟨fun hr => hend listed a w hI (ready_nil hb (hsz _ _ _ hI) hr), fun i hi => ?_⟩
    have h1 := leftN_set hi
    exact wpOp_mono (fun a' w' h' => wpAny_inv hb hsz hstep hend fuel _ a' w' (by omega) h') (hstep listed a w hI i hi)

theorem ready_dep {listed : Array Bool} {j : Nat} {o : Oper} (hi : j ∈ Region.ready md ops listed) (ho : ops[j]? = some o) (k : Nat) (hk : (o.after.any fun e => Region.binds md e && e.on == k) = true) : listed.getD k false = true := by
  obtain ⟨-, o', ho', hd⟩ := mem_ready.1 hi
  obtain rfl : o = o' := Option.some.inj (ho.symm.trans ho')
  obtain ⟨e, he, hb⟩ := Array.any_eq_true'.1 hk
  simp only [Bool.and_eq_true, beq_iff_eq] at hb
  have := hd e he hb.1
  rwa [hb.2] at this

theorem ready_new {listed : Array Bool} {j : Nat} (hi : j ∈ Region.ready md ops listed) : listed.getD j true = false := (mem_ready.1 hi).1

theorem wpOp_do {i : Nat} {o : Oper} {K : Act → World → Prop} {a : Act} {w : World} (ho : ops[i]? = some o) (hg : o.guard = none) (h : o.wp P a w K Q) : wpOp P ops Q i K a w := by
  unfold wpOp
  simp only [ho]
  rw [if_pos (by simp [Region.wanted, hg])]
  exact .inl h

end
end Go.Proofs.YtnffnpndnaofhaaGreatDoor

/- Whether a disk has what a log's data say, byte by byte; it is kept by a sync, by a reset, and by any part of the writes that wait. Plain Lean, no Go. -/
namespace Go.Proofs.YtnffnpndnaofhaaGreatDoor

/-- What sector i has behind the writes ps. -/
def lookP (K : List (List UInt8)) (ps : List (Nat × List UInt8)) (i : Nat) : List UInt8 := ps.foldl (fun acc p => if p.1 = i then p.2 else acc) (K.getD i [])

theorem look_eq (σ : Dk) (i : Nat) : σ.look i = lookP σ.kept σ.pend i := rfl
theorem look_nil {σ : Dk} (h : σ.pend = []) (i : Nat) : σ.look i = σ.kept.getD i [] := by rw [look_eq, h]; rfl

theorem foldl_look (i : Nat) : ∀ (ps : List (Nat × List UInt8)) (v : List UInt8) (P : List UInt8 → Prop), P v → (∀ p ∈ ps, p.1 = i → P p.2) → P (ps.foldl (fun acc p => if p.1 = i then p.2 else acc) v)
  | [], v, P, h, _ => h
  | p :: ps, v, P, h, hp => by
    simp only [List.foldl_cons]
    refine foldl_look i ps _ P ?_ (fun q hq => hp q (by simp [hq]))
    split
    · rename_i e; exact hp p (by simp) e
    · exact h

theorem keepAll_look : ∀ (ps : List (Nat × List UInt8)) (K : List (List UInt8)) (i : Nat), (∀ p ∈ ps, p.1 < K.length) → (keepAll K ps).getD i [] = lookP K ps i
  | [], K, i, _ => rfl
  | p :: ps, K, i, h => by
    have h1 := h p (by simp)
    have h2 := keepAll_look ps (K.set p.1 p.2) i (fun q hq => by rw [List.length_set]; exact h q (by simp [hq]))
    simp only [keepAll, lookP, List.foldl_cons] at h2 ⊢
    rw [h2]
    congr 1
    by_cases e : p.1 = i
    · subst e
      simp [List.getD_eq_getElem?_getD, h1]
    · rw [if_neg e]
      simp [List.getD_eq_getElem?_getD, List.getElem?_set_ne e]

/-! ## What fits -/

def byteAt (img : Nat → List UInt8) (base p : Nat) : Option UInt8 := (img (base + 1 + p / 64))[p % 64]?

def Data (img : Nat → List UInt8) (base : Nat) (bytes : List UInt8) : Prop := ∀ p, p < bytes.length → byteAt img base p = bytes[p]?

structure Fits (img : Nat → List UInt8) (l : Lg) : Prop where
  head : (l.epoch = 0 ∧ l.bytes = [] ∧ img l.base = List.replicate 64 0) ∨ img l.base = headB l.epoch l.bytes.length
  data : Data img l.base l.bytes

theorem flat_get {img : Nat → List UInt8} {a : Nat} : ∀ {c : Nat}, (∀ i, i < c → (img (a + i)).length = 64) → ((List.range c).flatMap fun i => img (a + i)).length = 64 * c ∧ ∀ p, p < 64 * c → ((List.range c).flatMap fun i => img (a + i))[p]? = (img (a + p / 64))[p % 64]?
  | 0, _ => ⟨by simp, fun p hp => by omega⟩
  | c + 1, h => by
    obtain ⟨h1, h2⟩ := flat_get (c := c) (fun i hi => h i (by omega))
    have e : ((List.range (c + 1)).flatMap fun i => img (a + i)) = ((List.range c).flatMap fun i => img (a + i)) ++ img (a + c) := by simp [List.range_succ]
    rw [e]
    refine ⟨by rw [List.length_append, h1, h c (by omega)]; omega, fun p hp => ?_⟩
    by_cases hlt : p < 64 * c
    · rw [List.getElem?_append_left (by omega)]
      exact h2 p hlt
    · rw [List.getElem?_append_right (by omega), h1, show p / 64 = c by omega, show p - 64 * c = p % 64 by omega]

theorem Data.take {img : Nat → List UInt8} {base c : Nat} {bytes : List UInt8} (h : Data img base bytes) (hl : ∀ i, i < c → (img (base + 1 + i)).length = 64) (hb : bytes.length ≤ 64 * c) :
    ((List.range c).flatMap fun i => img (base + 1 + i)).take bytes.length = bytes := by
  obtain ⟨h1, h2⟩ := flat_get (a := base + 1) hl
  apply List.ext_getElem?
  intro p
  rw [List.getElem?_take]
  split
  · rename_i hp
    rw [h2 p (by omega)]
    exact h p hp
  · rename_i hp
    rw [List.getElem?_eq_none (by omega)]

theorem headB_ne (e n : Nat) : headB e n ≠ List.replicate 64 0 := by
  intro h
  have := congrArg List.head? h
  simp [headB, headTop, List.replicate_succ] at this

theorem headB_epoch (e n : Nat) (h : e < 2 ^ 64) : valLE (((headB e n).drop 4).take 8) = e := by
  have : ((headB e n).drop 4).take 8 = numLE e 8 := by
    unfold headB headTop
    simp only [List.append_assoc]
    rw [List.drop_left' (by rfl)]
    exact List.take_left' (length_numLE _ _)
  rw [this, valLE_numLE]
  exact Nat.mod_eq_of_lt (by omega)

theorem headB_length (e n : Nat) (h : n < 2 ^ 32) : valLE (((headB e n).drop 12).take 4) = n := by
  have : ((headB e n).drop 12).take 4 = numLE n 4 := by
    unfold headB headTop
    simp only [List.append_assoc]
    rw [show (12 : Nat) = 4 + 8 from rfl, ← List.drop_drop, List.drop_left' (by rfl), List.drop_left' (length_numLE _ _)]
    exact List.take_left' (length_numLE _ _)
  rw [this, valLE_numLE]
  exact Nat.mod_eq_of_lt (by omega)

theorem frames_nil {l : List (List UInt8)} (h : frames l = []) : l = [] := by
  cases l with
  | nil => rfl
  | cons r l =>
    have := congrArg List.length h
    simp [frames, length_frameB] at this

/-- A log, with nothing that waits. -/
def Lg.still (l : Lg) : Lg := { l with waiting := [] }

theorem openLg_fits {σ : Dk} {l : Lg} (ok : σ.Ok) (lo : l.Ok) (hl : l.lost = false) (hd : σ.down = false) (hb : l.base + l.n ≤ σ.kept.length) (hlen : ∀ i, i < σ.kept.length → (σ.look i).length = 64) (F : Fits σ.look l) : openLg σ l.base l.n = (0, some l.still) := by
  have h2 := lo.two
  have hm := lo.most
  have hf := lo.fits
  unfold openLg
  rw [hd]
  simp only [Bool.false_eq_true, if_false]
  rw [if_neg (by omega)]
  simp only [Int.toNat_natCast]
  rcases F.head with ⟨e0, eb, hz⟩ | hh
  · rw [if_pos hz]
    have hr : l.recs = [] := frames_nil (by rw [← lo.form, eb])
    cases l
    simp only at *
    subst e0 eb hr hl
    rfl
  · have hn := headB_ne l.epoch l.bytes.length
    rw [hh, if_neg hn, headB_epoch _ _ (by have := lo.epoch; omega), headB_length _ _ (by omega)]
    rw [if_neg (by
      intro h
      rcases h with h | h | h
      · have := lo.epoch; omega
      · omega
      · exact h rfl)]
    have ht : (sectorsB σ (l.base + 1) (l.n - 1)).take l.bytes.length = l.bytes := F.data.take (fun i hi => hlen _ (by omega)) (by omega)
    rw [ht]
    have hs : splitB l.bytes = some l.recs := by rw [lo.form]; exact splitB_frames lo.recs
    rw [hs]
    cases l
    simp only at *
    subst hl
    rfl

/-! ## One step of the disk -/

theorem does_run {σ : Dk} : (σ.does.1 = 0 ∧ σ.does.2.down = σ.down ∧ σ.does.2.armed = σ.armed ∧ σ.does.2.kept = σ.kept ∧ σ.does.2.pend = σ.pend) ∨ (σ.armed = true ∧ σ.does.1 = 10 ∧ σ.does.2.down = true ∧ σ.does.2.kept = σ.kept ∧ σ.does.2.pend = σ.pend) := by
  unfold Dk.does
  split
  · rename_i h
    simp only [Bool.and_eq_true] at h
    exact .inr ⟨h.1, rfl, rfl, rfl, rfl⟩
  · exact .inl ⟨rfl, rfl, rfl, rfl, rfl⟩

theorem write_run {σ : Dk} (hd : σ.down = false) {i : Nat} (hi : i < σ.kept.length) {s : List UInt8} (hs : s.length ≤ 64) :
    ((σ.write (i : Int) s).1 = 0 ∧ (σ.write (i : Int) s).2.down = false ∧ (σ.write (i : Int) s).2.armed = σ.armed ∧ (σ.write (i : Int) s).2.kept = σ.kept ∧ (σ.write (i : Int) s).2.pend = σ.pend ++ [(i, pad s)]) ∨
    (σ.armed = true ∧ (σ.write (i : Int) s).1 = 10 ∧ (σ.write (i : Int) s).2.down = true ∧ (σ.write (i : Int) s).2.kept = σ.kept ∧ (σ.write (i : Int) s).2.pend = σ.pend) := by
  have hh : σ.has (i : Int) = true := by simp [Dk.has]; omega
  unfold Dk.write
  rw [hd, hh, if_neg (by simp), if_pos rfl, if_neg (by omega)]
  rcases does_run (σ := σ) with ⟨h1, h2, h3, h4, h5⟩ | ⟨h0, h1, h2, h3, h4⟩
  · rw [if_pos h1]
    refine .inl ⟨rfl, ?_, ?_, ?_, ?_⟩
    · simp only [Dk.put]; rw [h2, hd]
    · simpa only [Dk.put] using h3
    · simpa only [Dk.put] using h4
    · simp only [Dk.put]; rw [h5, Int.toNat_natCast]
  · rw [if_neg (by omega)]
    exact .inr ⟨h0, rfl, h2, h3, h4⟩

theorem flush_run {σ : Dk} (hd : σ.down = false) :
    (σ.flush.1 = 0 ∧ σ.flush.2.down = false ∧ σ.flush.2.armed = σ.armed ∧ σ.flush.2.kept = keepAll σ.kept σ.pend ∧ σ.flush.2.pend = []) ∨
    (σ.armed = true ∧ σ.flush.1 = 10 ∧ σ.flush.2.down = true ∧ σ.flush.2.kept = σ.kept ∧ σ.flush.2.pend = σ.pend) := by
  unfold Dk.flush
  rw [hd, if_neg (by simp)]
  rcases does_run (σ := σ) with ⟨h1, h2, h3, h4, h5⟩ | ⟨h0, h1, h2, h3, h4⟩
  · rw [if_pos h1]
    refine .inl ⟨rfl, ?_, ?_, ?_, rfl⟩
    · simp only [Dk.settle]; rw [h2, hd]
    · simpa only [Dk.settle] using h3
    · simp only [Dk.settle]; rw [h4, h5]
  · rw [if_neg (by omega)]
    exact .inr ⟨h0, rfl, h2, h3, h4⟩

/-! ## The sectors of a sync -/

def chunk (base : Nat) (all : List UInt8) (j : Nat) : Nat × List UInt8 := (base + 1 + j, pad ((all.drop (64 * j)).take 64))

def chunks (base : Nat) (all : List UInt8) (k m : Nat) : List (Nat × List UInt8) := (List.range' k (m - k)).map (chunk base all)

theorem chunks_self (base : Nat) (all : List UInt8) (k : Nat) : chunks base all k k = [] := by simp [chunks]

theorem chunks_cons (base : Nat) (all : List UInt8) {k m : Nat} (h : k < m) : chunks base all k m = chunk base all k :: chunks base all (k + 1) m := by
  unfold chunks
  rw [show m - k = (m - (k + 1)) + 1 by omega, List.range'_succ]
  rfl

theorem mem_chunks {base : Nat} {all : List UInt8} {k m : Nat} {p : Nat × List UInt8} (h : p ∈ chunks base all k m) : ∃ j, k ≤ j ∧ j < m ∧ p = chunk base all j := by
  unfold chunks at h
  obtain ⟨j, hj, rfl⟩ := List.mem_map.1 h
  rw [List.mem_range'_1] at hj
  exact ⟨j, hj.1, by omega, rfl⟩

theorem lookP_chunks {base : Nat} {all : List UInt8} {m j : Nat} : ∀ (n k : Nat) (K : List (List UInt8)), m - k = n → k ≤ j → j < m → lookP K (chunks base all k m) (base + 1 + j) = pad ((all.drop (64 * j)).take 64) := by
  intro n k K _ hkj hjm
  have hmem : chunk base all j ∈ chunks base all k m := List.mem_map.2 ⟨j, by rw [List.mem_range'_1]; omega, rfl⟩
  have hall : ∀ p ∈ chunks base all k m, p.1 = base + 1 + j → p.2 = pad ((all.drop (64 * j)).take 64) := by
    intro p hp e
    obtain ⟨i, -, -, rfl⟩ := mem_chunks hp
    simp only [chunk] at e ⊢
    obtain rfl : i = j := by omega
    rfl
  generalize chunks base all k m = ps at hmem hall
  unfold lookP
  generalize K.getD (base + 1 + j) [] = v
  induction ps generalizing v with
  | nil => cases hmem
  | cons p ps ih =>
    simp only [List.foldl_cons]
    rcases List.mem_cons.1 hmem with rfl | h
    · rw [if_pos (show (chunk base all j).fst = base + 1 + j from rfl)]
      exact foldl_look _ ps _ (fun x => x = _) rfl (fun q hq e => hall q (by simp [hq]) e)
    · exact ih h (fun q hq => hall q (by simp [hq])) _

theorem layN_run {base : Nat} {all : List UInt8} : ∀ (f k : Nat) (σ : Dk), σ.down = false → (∀ j, 64 * j < all.length → base + 1 + j < σ.kept.length) → all.length / 64 + 1 ≤ f + k →
    ∃ m, k ≤ m ∧ (∀ j, k ≤ j → j < m → 64 * j < all.length) ∧ (layN base all f k σ).2.kept = σ.kept ∧ (layN base all f k σ).2.pend = σ.pend ++ chunks base all k m ∧
      (((layN base all f k σ).1 = 0 ∧ (layN base all f k σ).2.down = false ∧ (layN base all f k σ).2.armed = σ.armed ∧ all.length ≤ 64 * m) ∨ (σ.armed = true ∧ (layN base all f k σ).1 = 10 ∧ (layN base all f k σ).2.down = true))
  | 0, k, σ, hd, _, hf => ⟨k, Nat.le_refl _, fun j h1 h2 => by omega, rfl, by simp [layN, chunks_self], .inl ⟨rfl, hd, rfl, by omega⟩⟩
  | f + 1, k, σ, hd, hr, hf => by
    unfold layN
    by_cases hlt : 64 * k < all.length
    · rw [if_pos hlt]
      have hw := write_run (σ := σ) hd (i := base + 1 + k) (hr k hlt) (s := (all.drop (64 * k)).take 64) (by rw [List.length_take]; omega)
      generalize σ.write ((base + 1 + k : Nat) : Int) ((all.drop (64 * k)).take 64) = q at *
      rcases hw with ⟨h1, h2, h3, h4, h5⟩ | ⟨h0, h1, h2, h3, h4⟩
      · rw [if_pos h1]
        obtain ⟨m, m1, m2, m3, m4, m5⟩ := layN_run f (k + 1) q.2 h2 (fun j hj => by rw [h4]; exact hr j hj) (by omega)
        refine ⟨m, by omega, fun j a b => ?_, by rw [m3, h4], ?_, ?_⟩
        · by_cases e : j = k
          · rw [e]; exact hlt
          · exact m2 j (by omega) b
        · rw [m4, h5, chunks_cons base all (show k < m by omega), List.append_assoc]
          rfl
        · rw [h3] at m5
          exact m5
      · rw [if_neg (by omega)]
        exact ⟨k, Nat.le_refl _, fun j a b => by omega, h3, by rw [h4, chunks_self, List.append_nil], .inr ⟨h0, h1, h2⟩⟩
    · rw [if_neg hlt]
      exact ⟨k, Nat.le_refl _, fun j a b => by omega, rfl, by simp [chunks_self], .inl ⟨rfl, hd, rfl, by omega⟩⟩

end Go.Proofs.YtnffnpndnaofhaaGreatDoor
