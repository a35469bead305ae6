/- Parts of the proof: A sync and a reset, through losses of power at any write: what is found is what was there, or what it makes. Plain Lean, no Go. -/
import Derived.Test.YtnffnpndnaofhaaGreatDoorQae

/- A sync and a reset, through losses of power at any write: what is found is what was there, or what it makes. Plain Lean, no Go. -/
namespace Go.Proofs.YtnffnpndnaofhaaGreatDoor

def imgK (K : List (List UInt8)) : Nat → List UInt8 := fun i => K.getD i []

theorem chunk_get {base j q : Nat} {all : List UInt8} (hq : q < 64) (h : 64 * j + q < all.length) : (chunk base all j).2[q]? = all[64 * j + q]? := by
  unfold chunk pad
  simp only
  rw [List.getElem?_append_left (by rw [List.length_take, List.length_drop]; omega), List.getElem?_take, if_pos hq, List.getElem?_drop]

/-- Each sector is as it was, or has its piece of 'all', from the k-th on. -/
def Mixed (base : Nat) (all : List UInt8) (k : Nat) (img img' : Nat → List UInt8) : Prop :=
  ∀ i, img' i = img i ∨ ∃ j, k ≤ j ∧ i = base + 1 + j ∧ img' i = (chunk base all j).2

theorem mixed_of {base : Nat} {all : List UInt8} {k : Nat} {K : List (List UInt8)} {ps : List (Nat × List UInt8)} (h : ∀ p ∈ ps, ∃ j, k ≤ j ∧ p = chunk base all j) : Mixed base all k (imgK K) (lookP K ps) := by
  intro i
  unfold lookP imgK
  refine foldl_look i ps _ (fun x => x = K.getD i [] ∨ ∃ j, k ≤ j ∧ i = base + 1 + j ∧ x = (chunk base all j).2) (.inl rfl) ?_
  intro p hp e
  obtain ⟨j, hj, rfl⟩ := h p hp
  exact .inr ⟨j, hj, e.symm, rfl⟩

theorem Data.mixed {base : Nat} {bytes x : List UInt8} {img img' : Nat → List UInt8} (h : Data img base bytes) (hm : Mixed base (bytes ++ x) (bytes.length / 64) img img') : Data img' base bytes := by
  intro p hp
  unfold byteAt
  rcases hm (base + 1 + p / 64) with e | ⟨j, hj, e1, e2⟩
  · rw [e]; exact h p hp
  · obtain rfl : j = p / 64 := by omega
    rw [e2, chunk_get (by omega) (by rw [List.length_append]; omega), show 64 * (p / 64) + p % 64 = p by omega, List.getElem?_append_left hp]

theorem Data.full {base m : Nat} {bytes x : List UInt8} {img img' : Nat → List UInt8} (h : Data img base bytes) (hm : Mixed base (bytes ++ x) (bytes.length / 64) img img')
    (hall : ∀ j, bytes.length / 64 ≤ j → j < m → img' (base + 1 + j) = (chunk base (bytes ++ x) j).2) (hlen : (bytes ++ x).length ≤ 64 * m) : Data img' base (bytes ++ x) := by
  intro p hp
  by_cases hk : bytes.length / 64 ≤ p / 64
  · unfold byteAt
    rw [hall _ hk (by omega), chunk_get (by omega) (by omega), show 64 * (p / 64) + p % 64 = p by omega]
  · have hpl : p < bytes.length := by omega
    rw [List.getElem?_append_left hpl]
    exact h.mixed hm p hpl

theorem Data.other {base : Nat} {bytes : List UInt8} {img img' : Nat → List UInt8} (h : Data img base bytes) (he : ∀ i, base < i → img' i = img i) : Data img' base bytes := by
  intro p hp
  unfold byteAt
  rw [he _ (by omega)]
  exact h p hp

theorem layB_run {base k : Nat} {all : List UInt8} {σ : Dk} (hd : σ.down = false) (hp : σ.pend = []) (hr : ∀ j, 64 * j < all.length → base + 1 + j < σ.kept.length) :
    ((layB base all k σ).1 = 0 ∧ (layB base all k σ).2.down = false ∧ (layB base all k σ).2.armed = σ.armed ∧ (layB base all k σ).2.pend = [] ∧
      ∃ m, all.length ≤ 64 * m ∧ (∀ j, k ≤ j → j < m → 64 * j < all.length) ∧ (layB base all k σ).2.kept = keepAll σ.kept (chunks base all k m)) ∨
    (σ.armed = true ∧ (layB base all k σ).1 = 10 ∧ (layB base all k σ).2.down = true ∧ (layB base all k σ).2.kept = σ.kept ∧ ∃ m, (∀ j, k ≤ j → j < m → 64 * j < all.length) ∧ (layB base all k σ).2.pend = chunks base all k m) := by
  obtain ⟨m, m1, m2, m3, m4, m5⟩ := layN_run (base := base) (all := all) (all.length / 64 + 1) k σ hd hr (by omega)
  unfold layB
  simp only []
  generalize layN base all (all.length / 64 + 1) k σ = r at *
  rw [hp, List.nil_append] at m4
  rcases m5 with ⟨h1, h2, h3, h4⟩ | ⟨h0, h1, h2⟩
  · rw [if_pos h1]
    rcases flush_run h2 with ⟨f1, f2, f3, f4, f5⟩ | ⟨f0, f1, f2, f3, f4⟩
    · exact .inl ⟨f1, f2, by rw [f3, h3], f5, m, h4, m2, by rw [f4, m3, m4]⟩
    · exact .inr ⟨by rw [← h3]; exact f0, f1, f2, by rw [f3, m3], m, m2, by rw [f4, m4]⟩
  · rw [if_neg (by omega)]
    exact .inr ⟨h0, h1, h2, m3, m, m2, m4⟩

theorem pad_full {s : List UInt8} (h : s.length = 64) : pad s = s := by simp [pad, h]

theorem head_run {base e n : Nat} {σ : Dk} (hd : σ.down = false) (hp : σ.pend = []) (hb : base < σ.kept.length) :
    ((writeHead base e n σ).1 = 0 ∧ (writeHead base e n σ).2.down = false ∧ (writeHead base e n σ).2.armed = σ.armed ∧ (writeHead base e n σ).2.pend = [] ∧ (writeHead base e n σ).2.kept = keepAll σ.kept [(base, headB e n)]) ∨
    (σ.armed = true ∧ (writeHead base e n σ).1 = 10 ∧ (writeHead base e n σ).2.down = true ∧ (writeHead base e n σ).2.kept = σ.kept ∧ ((writeHead base e n σ).2.pend = [] ∨ (writeHead base e n σ).2.pend = [(base, headB e n)])) := by
  have hw := write_run (σ := σ) hd hb (s := headB e n) (by rw [length_headB]; omega)
  unfold writeHead
  simp only []
  generalize σ.write (base : Int) (headB e n) = q at *
  rw [pad_full (length_headB e n), hp, List.nil_append] at hw
  rcases hw with ⟨h1, h2, h3, h4, h5⟩ | ⟨h0, h1, h2, h3, h4⟩
  · rw [if_pos h1]
    rcases flush_run h2 with ⟨f1, f2, f3, f4, f5⟩ | ⟨f0, f1, f2, f3, f4⟩
    · exact .inl ⟨f1, f2, by rw [f3, h3], f5, by rw [f4, h4, h5]⟩
    · exact .inr ⟨by rw [← h3]; exact f0, f1, f2, by rw [f3, h4], .inr (by rw [f4, h5])⟩
  · rw [if_neg (by omega)]
    exact .inr ⟨h0, h1, h2, h3, .inl h4⟩

/-- A disk at rest, and a log that it has. -/
structure Sat (σ : Dk) (l : Lg) : Prop where
  ok : σ.Ok
  log : l.Ok
  lost : l.lost = false
  down : σ.down = false
  pend : σ.pend = []
  room : l.base + l.n ≤ σ.kept.length
  fits : Fits (imgK σ.kept) l

theorem Fits.congr {img img' : Nat → List UInt8} {l : Lg} (h : Fits img l) (e : ∀ i, img' i = img i) : Fits img' l := by
  have : img' = img := funext e
  rw [this]; exact h

theorem Sat.open {σ : Dk} {l : Lg} (S : Sat σ l) : openLg σ l.base l.n = (0, some l.still) :=
  openLg_fits S.ok S.log S.lost S.down S.room (fun i hi => Dk.look_length S.ok hi) (S.fits.congr (fun i => look_nil S.pend i))

/-- A disk without power: whatever part of its writes is kept, it has l or l'. -/
structure Torn (σ : Dk) (l l' : Lg) : Prop where
  ok : σ.Ok
  down : σ.down = true
  room : l.base + l.n ≤ σ.kept.length
  fits : ∀ ps, ps.Sublist σ.pend → Fits (lookP σ.kept ps) l ∨ Fits (lookP σ.kept ps) l'

theorem marked_sublist (keep : List Bool) : ∀ (ps : List (Nat × List UInt8)) (i : Nat), (marked keep i ps).Sublist ps
  | [], _ => List.Sublist.refl _
  | p :: ps, i => by
    unfold marked
    split
    · exact (marked_sublist keep ps (i + 1)).cons_cons p
    · exact (marked_sublist keep ps (i + 1)).cons p

theorem Torn.on {σ : Dk} {l l' : Lg} (T : Torn σ l l') (h1 : l.Ok) (h2 : l'.Ok) (e1 : l.lost = false) (e2 : l'.lost = false) (eb : l'.base = l.base) (en : l'.n = l.n) (keep : List Bool) :
    (σ.on keep).1 = 0 ∧ (σ.on keep).2.armed = false ∧ (Sat (σ.on keep).2 l ∨ Sat (σ.on keep).2 l') := by
  have hok := Dk.on_ok T.ok keep
  have hl : (σ.on keep).2.kept.length = σ.kept.length := by unfold Dk.on; rw [T.down, if_pos rfl]; exact keepAll_length _ _
  have hk : ∀ i, imgK (σ.on keep).2.kept i = lookP σ.kept (marked keep 0 σ.pend) i := by
    intro i
    unfold Dk.on imgK
    rw [T.down, if_pos rfl]
    exact keepAll_look _ _ _ (fun p hp => (T.ok.pend p ((marked_sublist keep σ.pend 0).mem hp)).1)
  have hd : (σ.on keep).2.down = false := by unfold Dk.on; rw [T.down, if_pos rfl]
  have hp : (σ.on keep).2.pend = [] := by unfold Dk.on; rw [T.down, if_pos rfl]
  refine ⟨by unfold Dk.on; rw [T.down, if_pos rfl], by unfold Dk.on; rw [T.down, if_pos rfl], ?_⟩
  rcases T.fits _ (marked_sublist keep σ.pend 0) with F | F
  · exact .inl ⟨hok, h1, e1, hd, hp, by rw [hl]; exact T.room, F.congr hk⟩
  · exact .inr ⟨hok, h2, e2, hd, hp, by rw [hl, eb, en]; exact T.room, F.congr hk⟩

theorem layN_ok (base : Nat) (all : List UInt8) : ∀ (f k : Nat) (σ : Dk), σ.Ok → (layN base all f k σ).2.Ok
  | 0, _, _, h => h
  | f + 1, k, σ, h => by
    unfold layN
    have hw := Dk.write_ok h ((base + 1 + k : Nat) : Int) ((all.drop (64 * k)).take 64)
    split
    · split
      · exact layN_ok base all f (k + 1) _ hw
      · exact hw
    · exact h

theorem layB_ok (base : Nat) (all : List UInt8) (k : Nat) {σ : Dk} (h : σ.Ok) : (layB base all k σ).2.Ok := by
  have h1 := layN_ok base all (all.length / 64 + 1) k σ h
  unfold layB
  simp only []
  split
  · exact Dk.flush_ok h1
  · exact h1

theorem writeHead_ok (base e n : Nat) {σ : Dk} (h : σ.Ok) : (writeHead base e n σ).2.Ok := by
  have h1 := Dk.write_ok h (base : Int) (headB e n)
  unfold writeHead
  simp only []
  split
  · exact Dk.flush_ok h1
  · exact h1

theorem Lg.sync_dk {σ : Dk} (h : σ.Ok) (l : Lg) : (l.sync σ).2.2.Ok := by
  unfold Lg.sync
  split
  · exact h
  split
  · exact h
  · have h1 := layB_ok l.base (l.bytes ++ frames l.waiting) (l.bytes.length / 64) h
    simp only []
    split
    · split
      · exact writeHead_ok _ _ _ h1
      · exact writeHead_ok _ _ _ h1
    · exact h1

theorem Lg.reset_dk {σ : Dk} (h : σ.Ok) (l : Lg) : (l.reset σ).2.2.Ok := by
  unfold Lg.reset
  split
  · exact h
  split
  · exact h
  split
  · exact h
  · simp only []
    split <;> exact writeHead_ok _ _ _ h

/-- What a sync makes. -/
def Lg.synced (l : Lg) : Lg := { l with bytes := l.bytes ++ frames l.waiting, recs := l.recs ++ l.waiting, waiting := [] }

theorem Lg.synced_ok {l : Lg} (ok : l.Ok) : l.synced.Ok := by
  refine ⟨ok.two, ok.most, ok.base, ok.epoch, ?_, ?_, ?_, by simp [Lg.synced]⟩
  · have := ok.fits
    simp only [Lg.synced, List.length_append, frames, List.flatMap_nil, List.length_nil] at *
    exact this
  · simp only [Lg.synced, frames_append, ok.form]
  · intro r hr
    rcases List.mem_append.1 hr with h | h
    · exact ok.recs r h
    · exact ok.waits r h

theorem lookP_one (K : List (List UInt8)) (b i : Nat) (s : List UInt8) : lookP K [(b, s)] i = if b = i then s else K.getD i [] := rfl

theorem sync_run {σ : Dk} {l : Lg} (S : Sat σ l) :
    ((l.sync σ).1 = 0 ∧ (l.sync σ).2.1 = l.synced ∧ Sat (l.sync σ).2.2 l.synced ∧ (l.sync σ).2.2.armed = σ.armed) ∨
    (σ.armed = true ∧ (l.sync σ).1 = 10 ∧ (l.sync σ).2.1 = { l with lost := true } ∧ Torn (l.sync σ).2.2 l l.synced) := by
  have hlok := S.log
  have hok := Dk.Ok.pos S.ok
  have hfit := hlok.fits
  have hsz := S.room
  have h2 := hlok.two
  have hsok : (l.sync σ).2.2.Ok := Lg.sync_dk S.ok l
  by_cases hw : l.waiting = []
  · have e : l.sync σ = (0, l, σ) := by simp [Lg.sync, S.lost, hw]
    have es : l.synced = l := by
      cases l
      simp only at hw
      subst hw
      simp [Lg.synced, frames]
    rw [e, es]
    exact .inl ⟨rfl, rfl, S, rfl⟩
  · have hall : (l.bytes ++ frames l.waiting).length ≤ 64 * (l.n - 1) := by rw [List.length_append]; exact hfit
    have e : l.sync σ = (if (layB l.base (l.bytes ++ frames l.waiting) (l.bytes.length / 64) σ).1 = 0 then
              (if (writeHead l.base l.epoch (l.bytes ++ frames l.waiting).length (layB l.base (l.bytes ++ frames l.waiting) (l.bytes.length / 64) σ).2).1 = 0 then
                (0, l.synced, (writeHead l.base l.epoch (l.bytes ++ frames l.waiting).length (layB l.base (l.bytes ++ frames l.waiting) (l.bytes.length / 64) σ).2).2)
              else ((writeHead l.base l.epoch (l.bytes ++ frames l.waiting).length (layB l.base (l.bytes ++ frames l.waiting) (l.bytes.length / 64) σ).2).1, { l with lost := true }, (writeHead l.base l.epoch (l.bytes ++ frames l.waiting).length (layB l.base (l.bytes ++ frames l.waiting) (l.bytes.length / 64) σ).2).2))
            else ((layB l.base (l.bytes ++ frames l.waiting) (l.bytes.length / 64) σ).1, { l with lost := true }, (layB l.base (l.bytes ++ frames l.waiting) (l.bytes.length / 64) σ).2)) := by
      simp only [Lg.sync, S.lost, Bool.false_eq_true, if_false, if_neg hw, Lg.synced]
    have hlay := layB_run (base := l.base) (k := l.bytes.length / 64) (all := l.bytes ++ frames l.waiting) S.down S.pend (fun j hj => by omega)
    rw [e] at hsok ⊢
    clear e
    generalize layB l.base (l.bytes ++ frames l.waiting) (l.bytes.length / 64) σ = r at *
    rcases hlay with ⟨r1, r2, r3, r4, m, m1, m2, r5⟩ | ⟨r0, r1, r2, r3, m, m2, r4⟩
    · rw [if_pos r1] at hsok ⊢
      have hkl : r.2.kept.length = σ.kept.length := by rw [r5, keepAll_length]
      have hch : ∀ p ∈ chunks l.base (l.bytes ++ frames l.waiting) (l.bytes.length / 64) m, p.1 < σ.kept.length := by
        intro p hp
        obtain ⟨j, j1, j2, rfl⟩ := mem_chunks hp
        have := m2 j j1 j2
        simp only [chunk]
        omega
      have himg : ∀ i, imgK r.2.kept i = lookP σ.kept (chunks l.base (l.bytes ++ frames l.waiting) (l.bytes.length / 64) m) i := by
        intro i
        unfold imgK
        rw [r5]
        exact keepAll_look _ _ _ hch
      have hmix : Mixed l.base (l.bytes ++ frames l.waiting) (l.bytes.length / 64) (imgK σ.kept) (imgK r.2.kept) := by
        intro i
        rw [himg i]
        exact mixed_of (fun p hp => by obtain ⟨j, j1, -, rfl⟩ := mem_chunks hp; exact ⟨j, j1, rfl⟩) i
      have hdall : Data (imgK r.2.kept) l.base (l.bytes ++ frames l.waiting) := S.fits.data.full hmix (fun j j1 j2 => by rw [himg]; exact lookP_chunks _ _ _ rfl j1 j2) m1
      have hdold : Data (imgK r.2.kept) l.base l.bytes := S.fits.data.mixed hmix
      have hhead : imgK r.2.kept l.base = imgK σ.kept l.base := by
        rcases hmix l.base with h | ⟨j, -, h, -⟩
        · exact h
        · omega
      have hnew : ∀ img : Nat → List UInt8, img l.base = headB l.epoch (l.bytes ++ frames l.waiting).length → (∀ i, l.base < i → img i = imgK r.2.kept i) → Fits img l.synced := fun img h1 h2 => ⟨.inr h1, hdall.other h2⟩
      have hold : Fits (imgK r.2.kept) l := ⟨by rw [hhead]; exact S.fits.head, hdold⟩
      have hwh := head_run (base := l.base) (e := l.epoch) (n := (l.bytes ++ frames l.waiting).length) r2 r4 (by omega)
      generalize writeHead l.base l.epoch (l.bytes ++ frames l.waiting).length r.2 = q at *
      have himg2 : ∀ i, lookP r.2.kept [(l.base, headB l.epoch (l.bytes ++ frames l.waiting).length)] i = if l.base = i then headB l.epoch (l.bytes ++ frames l.waiting).length else imgK r.2.kept i := fun i => lookP_one _ _ _ _
      have hN : Fits (lookP r.2.kept [(l.base, headB l.epoch (l.bytes ++ frames l.waiting).length)]) l.synced := hnew _ (by rw [himg2, if_pos rfl]) (fun i hi => by rw [himg2, if_neg (by omega)])
      rcases hwh with ⟨q1, q2, q3, q4, q5⟩ | ⟨q0, q1, q2, q3, q4⟩
      · rw [if_pos q1] at hsok ⊢
        refine .inl ⟨rfl, rfl, ⟨hsok, Lg.synced_ok hlok, S.lost, q2, q4, by rw [q5, keepAll_length, hkl]; exact hsz, ?_⟩, by simp only []; rw [q3, r3]⟩
        simp only []
        refine hN.congr (fun i => ?_)
        unfold imgK
        rw [q5]
        exact keepAll_look _ _ _ (fun p hp => by simp only [List.mem_singleton] at hp; subst hp; simp only []; omega)
      · rw [if_neg (by omega)] at hsok ⊢
        refine .inr ⟨by rw [← r3]; exact q0, q1, rfl, ⟨hsok, q2, by rw [q3, hkl]; exact hsz, fun ps hps => ?_⟩⟩
        simp only [] at hps ⊢
        rw [q3]
        rcases q4 with e | e
        · rw [e] at hps
          obtain rfl := List.eq_nil_of_sublist_nil hps
          exact .inl hold
        · rw [e] at hps
          rcases List.sublist_cons_iff.1 hps with h | ⟨r', rfl, h⟩
          · obtain rfl := List.eq_nil_of_sublist_nil h
            exact .inl hold
          · obtain rfl := List.eq_nil_of_sublist_nil h
            exact .inr hN
    · rw [if_neg (by omega)] at hsok ⊢
      refine .inr ⟨r0, r1, rfl, ⟨hsok, r2, by rw [r3]; exact hsz, fun ps hps => .inl ?_⟩⟩
      simp only [] at hps ⊢
      rw [r3]
      rw [r4] at hps
      have hmix : Mixed l.base (l.bytes ++ frames l.waiting) (l.bytes.length / 64) (imgK σ.kept) (lookP σ.kept ps) := mixed_of (fun p hp => by obtain ⟨j, j1, -, rfl⟩ := mem_chunks (hps.mem hp); exact ⟨j, j1, rfl⟩)
      refine ⟨?_, S.fits.data.mixed hmix⟩
      have hb : lookP σ.kept ps l.base = imgK σ.kept l.base := by
        rcases hmix l.base with h | ⟨j, -, h, -⟩
        · exact h
        · omega
      rw [hb]
      exact S.fits.head

/-- What a reset makes. -/
def Lg.fresh (l : Lg) : Lg := { l with epoch := l.epoch + 1, bytes := [], recs := [] }

theorem Lg.fresh_ok {l : Lg} (ok : l.Ok) (hw : l.waiting = []) (he : l.epoch < 2 ^ 62) : l.fresh.Ok :=
  ⟨ok.two, ok.most, ok.base, by simp only [Lg.fresh]; omega, by simp [Lg.fresh, hw, frames], by simp [Lg.fresh, frames], by simp [Lg.fresh], by simp [Lg.fresh, hw]⟩

theorem reset_run {σ : Dk} {l : Lg} (S : Sat σ l) (hw : l.waiting = []) (he : l.epoch < 2 ^ 62) :
    ((l.reset σ).1 = 0 ∧ (l.reset σ).2.1 = l.fresh ∧ Sat (l.reset σ).2.2 l.fresh ∧ (l.reset σ).2.2.armed = σ.armed) ∨
    (σ.armed = true ∧ (l.reset σ).1 = 10 ∧ (l.reset σ).2.1 = { l with lost := true } ∧ Torn (l.reset σ).2.2 l l.fresh) := by
  have hlok := S.log
  have hsz := S.room
  have h2 := hlok.two
  have hsok : (l.reset σ).2.2.Ok := Lg.reset_dk S.ok l
  have e : l.reset σ = (if (writeHead l.base (l.epoch + 1) 0 σ).1 = 0 then (0, l.fresh, (writeHead l.base (l.epoch + 1) 0 σ).2) else ((writeHead l.base (l.epoch + 1) 0 σ).1, { l with lost := true }, (writeHead l.base (l.epoch + 1) 0 σ).2)) := by
    have hne : ¬ l.epoch = 2 ^ 62 := by omega
    simp only [Lg.reset, S.lost, Bool.false_eq_true, if_false, hw, ne_eq, not_true_eq_false, if_neg hne, Lg.fresh]
  have hwh := head_run (base := l.base) (e := l.epoch + 1) (n := 0) S.down S.pend (by omega)
  rw [e] at hsok ⊢
  clear e
  generalize writeHead l.base (l.epoch + 1) 0 σ = q at *
  have hN : Fits (lookP σ.kept [(l.base, headB (l.epoch + 1) 0)]) l.fresh := ⟨.inr (by rw [lookP_one]; exact if_pos rfl), by intro p hp; simp [Lg.fresh] at hp⟩
  rcases hwh with ⟨q1, q2, q3, q4, q5⟩ | ⟨q0, q1, q2, q3, q4⟩
  · rw [if_pos q1] at hsok ⊢
    refine .inl ⟨rfl, rfl, ⟨hsok, Lg.fresh_ok hlok hw he, S.lost, q2, q4, by rw [q5, keepAll_length]; exact hsz, ?_⟩, by simp only []; rw [q3]⟩
    simp only []
    refine hN.congr (fun i => ?_)
    unfold imgK
    rw [q5]
    exact keepAll_look _ _ _ (fun p hp => by simp only [List.mem_singleton] at hp; subst hp; simp only []; omega)
  · rw [if_neg (by omega)] at hsok ⊢
    refine .inr ⟨q0, q1, rfl, ⟨hsok, q2, by rw [q3]; exact hsz, fun ps hps => ?_⟩⟩
    simp only [] at hps ⊢
    rw [q3]
    rcases q4 with e | e
    · rw [e] at hps
      obtain rfl := List.eq_nil_of_sublist_nil hps
      exact .inl S.fits
    · rw [e] at hps
      rcases List.sublist_cons_iff.1 hps with h | ⟨r', rfl, h⟩
      · obtain rfl := List.eq_nil_of_sublist_nil h
        exact .inl S.fits
      · obtain rfl := List.eq_nil_of_sublist_nil h
        exact .inr hN

end Go.Proofs.YtnffnpndnaofhaaGreatDoor

/- A healthy disk, with writes that wait: a sync goes well, and leaves the sectors outside the log's part as they were. Plain Lean, no Go. -/
namespace Go.Proofs.YtnffnpndnaofhaaGreatDoor

structure Heal (σ : Dk) (N : Nat) : Prop where
  ok : σ.Ok
  down : σ.down = false
  armed : σ.armed = false
  len : σ.kept.length = N

theorem Heal.write {σ : Dk} {N : Nat} (h : Heal σ N) {i : Nat} (hi : i < N) {s : List UInt8} (hs : s.length ≤ 64) :
    (σ.write (i : Int) s).1 = 0 ∧ Heal (σ.write (i : Int) s).2 N ∧ (σ.write (i : Int) s).2.pend = σ.pend ++ [(i, pad s)] ∧ ∀ j, (σ.write (i : Int) s).2.look j = if i = j then pad s else σ.look j := by
  have hok := Dk.write_ok h.ok (i : Int) s
  rcases write_run h.down (i := i) (by rw [h.len]; exact hi) hs with ⟨h1, h2, h3, h4, h5⟩ | ⟨h0, -⟩
  · refine ⟨h1, ⟨hok, h2, by rw [h3, h.armed], by rw [h4, h.len]⟩, h5, fun j => ?_⟩
    rw [look_eq, look_eq, h4, h5]
    simp [lookP]
  · rw [h.armed] at h0; cases h0

theorem Heal.flush {σ : Dk} {N : Nat} (h : Heal σ N) : σ.flush.1 = 0 ∧ Heal σ.flush.2 N ∧ σ.flush.2.pend = [] ∧ ∀ j, σ.flush.2.look j = σ.look j := by
  have hok := Dk.flush_ok h.ok
  rcases flush_run h.down with ⟨h1, h2, h3, h4, h5⟩ | ⟨h0, -⟩
  · refine ⟨h1, ⟨hok, h2, by rw [h3, h.armed], by rw [h4, keepAll_length, h.len]⟩, h5, fun j => ?_⟩
    rw [look_nil h5, look_eq, h4]
    exact keepAll_look _ _ _ (fun p hp => (h.ok.pend p hp).1)
  · rw [h.armed] at h0; cases h0

theorem Heal.layN {base N top : Nat} {all : List UInt8} (hr : ∀ j, 64 * j < all.length → base + 1 + j < top) (ht : top ≤ N) : ∀ (f k : Nat) (σ : Dk), Heal σ N →
    (layN base all f k σ).1 = 0 ∧ Heal (layN base all f k σ).2 N ∧ ∀ i, (i ≤ base ∨ top ≤ i) → (layN base all f k σ).2.look i = σ.look i
  | 0, _, _, h => ⟨rfl, h, fun _ _ => rfl⟩
  | f + 1, k, σ, h => by
    unfold Go.Proofs.YtnffnpndnaofhaaGreatDoor.layN
    by_cases hlt : 64 * k < all.length
    · rw [if_pos hlt]
      have := hr k hlt
      obtain ⟨w1, w2, -, w4⟩ := h.write (i := base + 1 + k) (by omega) (s := (all.drop (64 * k)).take 64) (by rw [List.length_take]; omega)
      rw [if_pos w1]
      obtain ⟨h1, h2, h3⟩ := Heal.layN hr ht f (k + 1) _ w2
      refine ⟨h1, h2, fun i hi => ?_⟩
      rw [h3 i hi, w4, if_neg (by omega)]
    · rw [if_neg hlt]
      exact ⟨rfl, h, fun _ _ => rfl⟩

theorem Heal.sync {σ : Dk} {N : Nat} {l : Lg} (h : Heal σ N) (lo : l.Ok) (hl : l.lost = false) (hr : l.base + l.n ≤ N) :
    (l.sync σ).1 = 0 ∧ (l.sync σ).2.1 = l.synced ∧ Heal (l.sync σ).2.2 N ∧ (l.sync σ).2.2.pend.length ≤ σ.pend.length ∧ ∀ i, (i < l.base ∨ l.base + l.n ≤ i) → (l.sync σ).2.2.look i = σ.look i := by
  have h2 := lo.two
  by_cases hw : l.waiting = []
  · have e : l.sync σ = (0, l, σ) := by simp [Lg.sync, hl, hw]
    have es : l.synced = l := by
      cases l
      simp only at hw
      subst hw
      simp [Lg.synced, frames]
    rw [e, es]
    exact ⟨rfl, rfl, h, Nat.le_refl _, fun _ _ => rfl⟩
  · have hall : (l.bytes ++ frames l.waiting).length ≤ 64 * (l.n - 1) := by rw [List.length_append]; exact lo.fits
    obtain ⟨n1, n2, n3⟩ := Heal.layN (base := l.base) (top := l.base + l.n) (all := l.bytes ++ frames l.waiting) (fun j hj => by omega) hr ((l.bytes ++ frames l.waiting).length / 64 + 1) (l.bytes.length / 64) σ h
    have hlB : layB l.base (l.bytes ++ frames l.waiting) (l.bytes.length / 64) σ = (Go.Proofs.YtnffnpndnaofhaaGreatDoor.layN l.base (l.bytes ++ frames l.waiting) ((l.bytes ++ frames l.waiting).length / 64 + 1) (l.bytes.length / 64) σ).2.flush := by
      unfold layB
      simp only []
      rw [if_pos n1]
    generalize Go.Proofs.YtnffnpndnaofhaaGreatDoor.layN l.base (l.bytes ++ frames l.waiting) ((l.bytes ++ frames l.waiting).length / 64 + 1) (l.bytes.length / 64) σ = r at *
    obtain ⟨f1, f2, f3, f4⟩ := n2.flush
    obtain ⟨w1, w2, -, w4⟩ := f2.write (i := l.base) (by omega) (s := headB l.epoch (l.bytes ++ frames l.waiting).length) (by rw [length_headB]; omega)
    have hwH : writeHead l.base l.epoch (l.bytes ++ frames l.waiting).length r.2.flush.2 = (r.2.flush.2.write (l.base : Int) (headB l.epoch (l.bytes ++ frames l.waiting).length)).2.flush := by
      unfold writeHead
      simp only []
      rw [if_pos w1]
    obtain ⟨g1, g2, g3, g4⟩ := w2.flush
    have e : l.sync σ = (0, l.synced, (r.2.flush.2.write (l.base : Int) (headB l.epoch (l.bytes ++ frames l.waiting).length)).2.flush.2) := by
      simp only [Lg.sync, hl, Bool.false_eq_true, if_false, if_neg hw, hlB, f1, if_true, hwH, g1, Lg.synced]
    rw [e]
    refine ⟨rfl, rfl, g2, by simp only []; rw [g3]; simp, fun i hi => ?_⟩
    simp only []
    rw [g4, w4, if_neg (by omega), f4]
    exact n3 i (by omega)

end Go.Proofs.YtnffnpndnaofhaaGreatDoor
