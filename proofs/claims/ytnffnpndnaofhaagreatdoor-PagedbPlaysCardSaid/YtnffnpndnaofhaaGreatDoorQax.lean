/- Parts of the proof: A database at rest on a disk: what opening, settling and a commit make of it, wherever the power goes. Plain Lean, no Go. -/
import Derived.Test.YtnffnpndnaofhaaGreatDoorQaw
import Derived.Test.YtnffnpndnaofhaaGreatDoorQap
import Derived.Test.YtnffnpndnaofhaaGreatDoorQas

/- A database at rest on a disk: what opening, settling and a commit make of it, wherever the power goes. Plain Lean, no Go. -/
namespace Go.Proofs.YtnffnpndnaofhaaGreatDoor
set_option maxRecDepth 100000

structure Shape (N log cnt : Nat) : Prop where
  two : 2 ≤ log
  fits : log + 8 * cnt ≤ N
  div : cnt = (N - log) / 8
  four : 4 ≤ cnt
  most : N ≤ 65536

structure LogI (log cnt E : Nat) (l : Lg) (rs : List (List Ent)) : Prop where
  ok : l.Ok
  lost : l.lost = false
  waits : l.waiting = []
  base : l.base = 0
  n : l.n = log
  epoch : l.epoch ≤ E
  recs : l.recs = rs.map recB
  ents : ∀ es ∈ rs, Ents log es ∧ (∀ e ∈ es, e.1 < cnt) ∧ es.length ≤ 127 ∧ 1 ≤ es.length

theorem LogI.fine {N log cnt E : Nat} {l : Lg} {rs : List (List Ent)} (h : LogI log cnt E l rs) (hN : log ≤ N) : l.Fine N := ⟨h.ok, h.lost, by rw [h.base, h.n]; omega⟩

theorem LogI.more {log cnt E E' : Nat} {l : Lg} {rs : List (List Ent)} (h : LogI log cnt E l rs) (he : E ≤ E') : LogI log cnt E' l rs := { h with epoch := Nat.le_trans h.epoch he }

theorem length_recB {log : Nat} {es : List Ent} (h : Ents log es) : (recB es).length = 4 + 516 * es.length := by rw [recB, List.length_append, length_numLE, length_flat h]

theorem frames_many {log : Nat} : ∀ (rs : List (List Ent)), (∀ es ∈ rs, Ents log es ∧ 1 ≤ es.length) → 528 * rs.length ≤ (frames (rs.map recB)).length
  | [], _ => by simp
  | es :: rs, h => by
    have h1 := h es (by simp)
    have h2 := frames_many rs (fun x hx => h x (by simp [hx]))
    simp only [List.map_cons, List.length_cons]
    rw [show frames (recB es :: rs.map recB) = frameB (recB es) ++ frames (rs.map recB) from rfl, List.length_append, length_frameB, length_recB h1.1]
    omega

theorem LogI.many {log cnt E : Nat} {l : Lg} {rs : List (List Ent)} (h : LogI log cnt E l rs) : rs.length ≤ 8000 := by
  have h1 := frames_many rs (fun es he => ⟨(h.ents es he).1, (h.ents es he).2.2.2⟩)
  have h2 := h.ok.fits
  have h3 := h.ok.most
  rw [h.ok.form, h.recs] at h2
  omega

theorem LogI.recs' {log cnt E : Nat} {l : Lg} {rs : List (List Ent)} (h : LogI log cnt E l rs) : Recs log cnt rs :=
  ⟨fun es he => ⟨(h.ents es he).1, (h.ents es he).2.1, (h.ents es he).2.2.1⟩, by have := h.many; omega⟩

theorem flatten_le : ∀ (rs : List (List Ent)), (∀ es ∈ rs, es.length ≤ 127) → rs.flatten.length ≤ 127 * rs.length
  | [], _ => by simp
  | es :: rs, h => by
    have h1 := h es (by simp)
    have h2 := flatten_le rs (fun x hx => h x (by simp [hx]))
    simp only [List.flatten_cons, List.length_append, List.length_cons]
    omega

theorem LogI.flat {log cnt E : Nat} {l : Lg} {rs : List (List Ent)} (h : LogI log cnt E l rs) : rs.flatten.length ≤ 1016000 := by
  have h1 := flatten_le rs (fun es he => (h.ents es he).2.2.1)
  have h2 := h.many
  omega

/-- What an image comes to, when it is opened. -/
def RecI (log cnt E : Nat) (P : Nat → List UInt8) (img : Img) : Prop := ∃ l rs, LogI log cnt E l rs ∧ Fits img l ∧ PgOk log cnt rs.flatten P img

theorem RecI.more {log cnt E E' : Nat} {P : Nat → List UInt8} {img : Img} (h : RecI log cnt E P img) (he : E ≤ E') : RecI log cnt E' P img := by
  obtain ⟨l, rs, h1, h2, h3⟩ := h
  exact ⟨l, rs, h1.more he, h2, h3⟩

/-- A disk on which a database can be opened. -/
structure Cold (N log cnt E : Nat) (P : Nat → List UInt8) (σ : Dk) : Prop where
  sh : Shape N log cnt
  up : Up σ N
  lg : ∃ l rs, LogI log cnt E l rs ∧ Crash σ (fun img => Fits img l ∧ PgOk log cnt rs.flatten P img)
  room : σ.pend.length ≤ 2000000

/-- A database that is open, at rest, however much waits. -/
structure Rest0 (N log cnt E : Nat) (P : Nat → List UInt8) (l : Lg) (σ : Dk) : Prop where
  sh : Shape N log cnt
  up : Up σ N
  lg : ∃ rs, LogI log cnt E l rs ∧ Crash σ (fun img => Fits img l ∧ PgOk log cnt rs.flatten P img)
  pages : ∀ k, k < cnt → pageOf log σ.look k = P k

/-- A database that is open, at rest. -/
structure Rest (N log cnt E : Nat) (P : Nat → List UInt8) (l : Lg) (σ : Dk) : Prop extends Rest0 N log cnt E P l σ where
  room : σ.pend.length ≤ 2000000

theorem Rest0.more {N log cnt E E' : Nat} {P : Nat → List UInt8} {l : Lg} {σ : Dk} (h : Rest0 N log cnt E P l σ) (he : E ≤ E') : Rest0 N log cnt E' P l σ := by
  obtain ⟨rs, h1, h2⟩ := h.lg
  exact ⟨h.sh, h.up, ⟨rs, h1.more he, h2⟩, h.pages⟩

theorem Rest.cold {N log cnt E : Nat} {P : Nat → List UInt8} {l : Lg} {σ : Dk} (h : Rest N log cnt E P l σ) : Cold N log cnt E P σ := by
  obtain ⟨rs, h1, h2⟩ := h.lg
  exact ⟨h.sh, h.up, ⟨l, rs, h1, h2⟩, h.room⟩

theorem Rest.more {N log cnt E E' : Nat} {P : Nat → List UInt8} {l : Lg} {σ : Dk} (h : Rest N log cnt E P l σ) (he : E ≤ E') : Rest N log cnt E' P l σ := ⟨h.toRest0.more he, h.room⟩

theorem Rest.crash {N log cnt E : Nat} {P : Nat → List UInt8} {l : Lg} {σ : Dk} (h : Rest N log cnt E P l σ) : Crash σ (RecI log cnt E P) := by
  obtain ⟨rs, h1, h2⟩ := h.lg
  exact h2.mono (fun img hi => ⟨l, rs, h1, hi.1, hi.2⟩)

theorem Cold.of_rec {N log cnt E : Nat} {P : Nat → List UInt8} {σ : Dk} (sh : Shape N log cnt) (u : Up σ N) (hp : σ.pend = []) (h : RecI log cnt E P σ.look) : Cold N log cnt E P σ := by
  obtain ⟨l, rs, h1, h2, h3⟩ := h
  exact ⟨sh, u, ⟨l, rs, h1, Crash.of_look hp ⟨h2, h3⟩⟩, by rw [hp]; simp⟩

theorem PgOk.outer (log cnt : Nat) (es : List Ent) (P : Nat → List UInt8) : Outer 0 log (PgOk log cnt es P) := by
  intro img img' hi h k hk
  refine ⟨fun hn => ?_, (h k hk).2⟩
  rw [← (h k hk).1 hn]
  exact pageOf_congr (fun i h1 _ => hi i (.inr (by omega)))

theorem PgOk.nil {log cnt : Nat} {P : Nat → List UInt8} {img : Img} : PgOk log cnt [] P img ↔ ∀ k, k < cnt → pageOf log img k = P k :=
  ⟨fun h k hk => (h k hk).1 rfl, fun h k hk => ⟨fun _ => h k hk, fun b hb => by cases hb⟩⟩

theorem PgOk.of_pages {log cnt : Nat} {es : List Ent} {P : Nat → List UInt8} {img img' : Img} (h : PgOk log cnt es P img) (hp : ∀ k, k < cnt → pageOf log img' k = P k) : PgOk log cnt es P img' :=
  fun k hk => ⟨fun _ => hp k hk, (h k hk).2⟩

/-- A disk that was never written to. -/
theorem cold_new {N log cnt : Nat} (sh : Shape N log cnt) : Cold N log cnt 0 (fun _ => zeroPg) (Dk.new N) := by
  have h1 := sh.two
  have h2 := sh.fits
  have h3 := sh.most
  have h4 := sh.four
  have hlook : ∀ i, i < N → (Dk.new N).look i = List.replicate 64 0 := by
    intro i hi
    rw [look_nil rfl]
    simp [Dk.new, List.getD_eq_getElem?_getD, List.getElem?_replicate, hi]
  have hok : Lg.Ok ⟨0, log, 0, [], [], [], false⟩ := ⟨h1, by simp only []; omega, by simp, by simp, by simp [frames], by simp [frames], by simp, by simp⟩
  refine Cold.of_rec sh ⟨Dk.new_ok (by omega) (by omega), rfl, by simp [Dk.new]⟩ rfl ⟨⟨0, log, 0, [], [], [], false⟩, [], ⟨hok, rfl, rfl, rfl, rfl, Nat.le_refl _, rfl, by simp⟩, ⟨.inl ⟨rfl, rfl, hlook 0 (by omega)⟩, by intro p hp; simp at hp⟩, ?_⟩
  simp only [List.flatten_nil]
  rw [PgOk.nil]
  intro k hk
  unfold pageOf zeroPg
  have : ∀ i ∈ List.range 8, (Dk.new N).look (log + 8 * k + i) = List.replicate 64 0 := fun i hi => hlook _ (by have := List.mem_range.1 hi; omega)
  have e : (List.range 8).flatMap (fun i => (Dk.new N).look (log + 8 * k + i)) = (List.range 8).flatMap (fun _ => List.replicate 64 (0 : UInt8)) := by
    rw [List.flatMap_def, List.flatMap_def, List.map_congr_left this]
  rw [e]
  rfl

/-- settle. -/
theorem settle_run {N log cnt E : Nat} {P : Nat → List UInt8} {l : Lg} {σ : Dk} (G : Rest0 N log cnt E P l σ) (hE : E < 2 ^ 62) :
    ((settleB l σ).1 = 0 ∧ Rest0 N log cnt (E + 1) P (settleB l σ).2.1 (settleB l σ).2.2 ∧ (settleB l σ).2.1.recs = [] ∧ (settleB l σ).2.2.armed = σ.armed ∧ ((settleB l σ).2.2.pend = [] ∨ (l.recs = [] ∧ (settleB l σ).2.2 = σ))) ∨
    (σ.armed = true ∧ (settleB l σ).1 = 10 ∧ Dn (settleB l σ).2.2 N ∧ Crash (settleB l σ).2.2 (RecI log cnt (E + 1) P)) := by
  obtain ⟨rs, L, hc⟩ := G.lg
  have h1 := G.sh.two
  have h2 := G.sh.fits
  unfold settleB
  by_cases hr : l.recs = []
  · rw [if_pos hr]
    exact .inl ⟨rfl, G.more (Nat.le_succ _), hr, rfl, .inr ⟨hr, rfl⟩⟩
  · rw [if_neg hr]
    rcases Crash.flush G.up hc with ⟨f1, f2, f3, f4, f5, f6⟩ | ⟨f0, f1, f2, f3⟩
    · rw [if_pos f1]
      have hF : Outer l.base l.n (PgOk log cnt rs.flatten P) := by rw [L.base, L.n]; exact PgOk.outer _ _ _ _
      have hG : Outer l.base l.n (PgOk log cnt [] P) := by rw [L.base, L.n]; exact PgOk.outer _ _ _ _
      have hpg : PgOk log cnt [] P σ.flush.2.look := by rw [PgOk.nil, f5]; exact G.pages
      have hc2 : Crash σ.flush.2 (fun img => Fits img l ∧ (PgOk log cnt rs.flatten P img ∧ PgOk log cnt [] P img)) := Crash.of_look f4 ⟨f6.look.1, f6.look.2, hpg⟩
      have hFG : Outer l.base l.n (fun img => PgOk log cnt rs.flatten P img ∧ PgOk log cnt [] P img) := fun a b h hab => ⟨hF a b h hab.1, hG a b h hab.2⟩
      have hfine := L.fine (N := N) (by omega)
      have hLf : LogI log cnt (E + 1) l.fresh [] := ⟨Lg.fresh_ok L.ok L.waits (by have := L.epoch; omega), L.lost, L.waits, L.base, L.n, by have := L.epoch; simp only [Lg.fresh]; omega, rfl, by simp⟩
      rcases reset_crash f2 hfine L.waits (by have := L.epoch; omega) f4 hFG hc2 with ⟨q1, q2, q3, q4, q5, q6, q7⟩ | ⟨q0, q1, q2, q3, q4⟩
      · refine .inl ⟨q1, ⟨G.sh, q3, ⟨[], by rw [q2]; exact hLf, by rw [q2]; exact q7.mono (fun img h => ⟨h.1, h.2.2⟩)⟩, fun k hk => ?_⟩, by rw [q2]; rfl, by rw [q4, f3], .inl q5⟩
        rw [← G.pages k hk, ← f5]
        exact pageOf_congr (fun i h3 _ => q6 i (.inr (by rw [L.base, L.n]; omega)))
      · refine .inr ⟨by rw [← f3]; exact q0, q1, q3, q4.mono (fun img h => ?_)⟩
        rcases h.1 with h' | h'
        · exact ⟨l, rs, L.more (Nat.le_succ _), h', h.2.1⟩
        · exact ⟨l.fresh, [], hLf, h', h.2.2⟩
    · rw [if_neg (by omega)]
      exact .inr ⟨f0, f1, f2, f3.mono (fun img h => ⟨l, rs, L.more (Nat.le_succ _), h.1, h.2⟩)⟩

/-- Opening. -/
theorem open_run {N log cnt E : Nat} {P : Nat → List UInt8} {σ : Dk} (C : Cold N log cnt E P σ) (hE : E < 2 ^ 62) :
    ∃ l rs, openLg σ 0 (log : Int) = (0, some l) ∧ l.recs = rs.map recB ∧ Recs log cnt rs ∧
      (((redoAll log rs σ).1 = 0 ∧
        (((settleB l (redoAll log rs σ).2).1 = 0 ∧ Rest N log cnt (E + 1) P (settleB l (redoAll log rs σ).2).2.1 (settleB l (redoAll log rs σ).2).2.2 ∧ (settleB l (redoAll log rs σ).2).2.2.armed = σ.armed) ∨
         (σ.armed = true ∧ (settleB l (redoAll log rs σ).2).1 = 10 ∧ Dn (settleB l (redoAll log rs σ).2).2.2 N ∧ Crash (settleB l (redoAll log rs σ).2).2.2 (RecI log cnt (E + 1) P)))) ∨
       (σ.armed = true ∧ (redoAll log rs σ).1 = 10 ∧ Dn (redoAll log rs σ).2 N ∧ Crash (redoAll log rs σ).2 (RecI log cnt (E + 1) P))) := by
  obtain ⟨l, rs, L, hc⟩ := C.lg
  have h1 := C.sh.two
  have h2 := C.sh.fits
  have hlook := hc.look
  refine ⟨l, rs, ?_, L.recs, L.recs', ?_⟩
  · have := openLg_fits C.up.ok L.ok L.lost C.up.down (by rw [L.base, L.n, C.up.len]; omega) (fun i hi => Dk.look_length C.up.ok hi) hlook.1
    rw [L.base, L.n] at this
    rw [show ((0 : Nat) : Int) = 0 from rfl] at this
    rw [this]
    have hw := L.waits
    cases l
    simp only at hw
    subst hw
    rfl
  · have hQ : Blind log rs.flatten (fun img => Fits img l ∧ PgOk log cnt rs.flatten P img) := (Blind.fits L.ok L.base L.n).and (PgOk.blind _ _ _ _)
    have hr := redoAll_run (N := N) (cnt := cnt) (by omega) h2 hQ rs σ (fun es hes e he => ⟨List.mem_flatten.2 ⟨es, hes, he⟩, ((L.ents es hes).1 e he).1, (L.ents es hes).2.1 e he⟩) C.up hc
    have hfl := L.flat
    rcases hr with ⟨r1, r2, r3, r4, r5, r6, r7⟩ | ⟨r0, r1, r2, r3⟩
    · refine .inl ⟨r1, ?_⟩
      have G : Rest0 N log cnt E P l (redoAll log rs σ).2 := ⟨C.sh, r2, ⟨rs, L, r7⟩, fun k hk => by
        rw [r5]
        cases hl : lastOf rs.flatten k with
        | none => rw [Option.getD_none]; exact (hlook.2 k hk).1 hl
        | some b => rw [Option.getD_some]; exact ((hlook.2 k hk).2 b hl).symm⟩
      rcases settle_run G hE with ⟨s1, s2, s3, s4, s5⟩ | ⟨s0, s1, s2, s3⟩
      · refine .inl ⟨s1, ⟨s2, ?_⟩, by rw [s4, r3]⟩
        rcases s5 with s5 | ⟨s5, s6⟩
        · rw [s5]; simp
        · rw [s6]
          have hrs : rs = [] := by
            have := L.recs
            rw [s5] at this
            exact List.map_eq_nil_iff.1 this.symm
          subst hrs
          exact C.room
      · exact .inr ⟨by rw [← r3]; exact s0, s1, s2, s3⟩
    · exact .inr ⟨r0, r1, r2, r3.mono (fun img h => ⟨l, rs, L.more (Nat.le_succ _), h.1, h.2⟩)⟩

end Go.Proofs.YtnffnpndnaofhaaGreatDoor

/- A commit on a disk, wherever the power goes: all of it is there, or nothing. Plain Lean, no Go. -/
namespace Go.Proofs.YtnffnpndnaofhaaGreatDoor
set_option maxRecDepth 100000

/-- The pages behind a commit. -/
def pagesP (es : List Ent) (P : Nat → List UInt8) : Nat → List UInt8 := fun k => (lastOf es k).getD (P k)

theorem PgOk.add {log cnt : Nat} {rs : List (List Ent)} {es : List Ent} {P : Nat → List UInt8} {img : Img} (h : PgOk log cnt rs.flatten P img) : PgOk log cnt (rs ++ [es]).flatten (pagesP es P) img := by
  intro k hk
  rw [List.flatten_append, List.flatten_cons, List.flatten_nil, List.append_nil, lastOf_append]
  obtain ⟨h1, h2⟩ := h k hk
  unfold pagesP
  cases he : lastOf es k with
  | some b => simp
  | none =>
    simp only [Option.none_or, Option.getD_none]
    exact ⟨h1, h2⟩

theorem Fits.same {l l' : Lg} {img : Img} (h : Fits img l) (h1 : l'.base = l.base) (h2 : l'.epoch = l.epoch) (h3 : l'.bytes = l.bytes) : Fits img l' := by
  refine ⟨?_, ?_⟩
  · rw [h1, h2, h3]; exact h.head
  · rw [h1, h3]; exact h.data

theorem writeB_run {N log cnt E : Nat} {P : Nat → List UInt8} {l : Lg} {σ : Dk} {m n : Meta} {es : List Ent} (G : Rest0 N log cnt E P l σ) (he : ∀ e ∈ es, e.2.length = 512 ∧ e.1 < cnt) (h1 : 1 ≤ es.length) (h2 : 4 + 516 * es.length ≤ 65536) (hroom : ((4 + 516 * es.length + 8 : Nat) : Int) ≤ l.room) :
    ((writeB log m n es l σ).e = 0 ∧ (writeB log m n es l σ).lost = false ∧ (writeB log m n es l σ).m = n ∧ Rest N log cnt E (pagesP es P) (writeB log m n es l σ).l (writeB log m n es l σ).σ ∧ (writeB log m n es l σ).σ.armed = σ.armed) ∨
    (σ.armed = true ∧ (writeB log m n es l σ).e = 10 ∧ Dn (writeB log m n es l σ).σ N ∧ Crash (writeB log m n es l σ).σ (fun img => RecI log cnt E P img ∨ RecI log cnt E (pagesP es P) img)) := by
  obtain ⟨rs, L, hc⟩ := G.lg
  have s1 := G.sh.two
  have s2 := G.sh.fits
  have s3 := G.sh.most
  have hent : Ents log es := fun e hm => ⟨(he e hm).1, by have := (he e hm).2; omega⟩
  have hlen := length_recB hent
  obtain ⟨l2, hl2⟩ : ∃ l2, l2 = { l with waiting := [recB es] } := ⟨_, rfl⟩
  have hadd : (l.add (recB es)).2 = l2 := by
    unfold Lg.add
    rw [L.lost, if_neg (by simp), if_neg (by rw [hlen]; omega), if_neg (by rw [hlen]; omega)]
    rw [hl2, L.waits, L.lost]
    rfl
  have hok2 : l2.Ok := by rw [← hadd]; exact Lg.add_ok L.ok _
  have b2 : l2.base = 0 := by rw [hl2]; exact L.base
  have n2 : l2.n = log := by rw [hl2]; exact L.n
  have fine2 : l2.Fine N := ⟨hok2, by rw [hl2]; exact L.lost, by rw [b2, n2]; omega⟩
  have hF : Outer l2.base l2.n (PgOk log cnt rs.flatten P) := by rw [b2, n2]; exact PgOk.outer _ _ _ _
  have hc2 : Crash σ (fun img => Fits img l2 ∧ PgOk log cnt rs.flatten P img) := hc.mono (fun img h => ⟨h.1.same (by rw [hl2]) (by rw [hl2]) (by rw [hl2]), h.2⟩)
  have hsy := sync_crash G.up fine2 hF hc2
  have hLs : LogI log cnt E l2.synced (rs ++ [es]) := by
    refine ⟨Lg.synced_ok hok2, by rw [hl2]; exact L.lost, rfl, b2, n2, by rw [hl2]; exact L.epoch, ?_, ?_⟩
    · rw [hl2]
      simp only [Lg.synced, L.recs, List.map_append, List.map_cons, List.map_nil]
    · intro x hx
      rcases List.mem_append.1 hx with hx | hx
      · exact L.ents x hx
      · simp only [List.mem_singleton] at hx
        subst hx
        exact ⟨hent, fun e hm => (he e hm).2, by omega, h1⟩
  unfold writeB
  rw [hadd]
  generalize l2.sync σ = Y at *
  rcases hsy with ⟨y1, y2, y3, y4, y5, -, y7, y8⟩ | ⟨y0, y1, y2, y3, y4⟩
  · rw [if_pos y1]
    have hpend := y5 (by rw [hl2]; simp)
    have hlook : ∀ k, k < cnt → pageOf log Y.2.2.look k = P k := by
      intro k hk
      rw [← G.pages k hk]
      exact pageOf_congr (fun i h3 _ => y7 i (.inr (by rw [b2, n2]; omega)))
    have hQ : Blind log (rs ++ [es]).flatten (fun img => Fits img l2.synced ∧ PgOk log cnt (rs ++ [es]).flatten (pagesP es P) img) := (Blind.fits hLs.ok hLs.base hLs.n).and (PgOk.blind _ _ _ _)
    have hr := redo_run (N := N) (cnt := cnt) (by omega) s2 hQ es Y.2.2 (fun e hm => ⟨List.mem_flatten.2 ⟨es, by simp, hm⟩, (he e hm).1, (he e hm).2⟩) y3 (y8.mono (fun img h => ⟨h.1, h.2.add⟩))
    generalize redoB log es Y.2.2 = R at *
    rcases hr with ⟨r1, r2, r3, r4, r5, r6, r7⟩ | ⟨r0, r1, r2, r3⟩
    · refine .inl ⟨r1, by simp [r1], rfl, ⟨⟨G.sh, r2, ⟨rs ++ [es], by simp only []; rw [y2]; exact hLs, by simp only []; rw [y2]; exact r7⟩, fun k hk => ?_⟩, ?_⟩, by simp only []; rw [r3, y4]⟩
      · simp only []
        rw [r5, hlook k hk]
        rfl
      · simp only []
        rw [hpend] at r4
        simp only [List.length_nil] at r4
        omega
    · exact .inr ⟨by rw [← y4]; exact r0, r1, r2, r3.mono (fun img h => .inr ⟨l2.synced, rs ++ [es], hLs, h.1, h.2⟩)⟩
  · rw [if_neg (by omega)]
    refine .inr ⟨y0, y1, y3, y4.mono (fun img h => ?_)⟩
    rcases h.1 with h' | h'
    · exact .inl ⟨l, rs, L, h'.same (by rw [hl2]) (by rw [hl2]) (by rw [hl2]), h.2⟩
    · exact .inr ⟨l2.synced, rs ++ [es], hLs, h', h.2.add⟩

/-- A commit. -/
theorem commitB_run {N log cnt E : Nat} {P : Nat → List UInt8} {l : Lg} {σ : Dk} {m n : Meta} {es : List Ent} {spoilt : Bool} (G : Rest N log cnt E P l σ) (he : ∀ e ∈ es, e.2.length = 512 ∧ e.1 < cnt) (hE : E < 2 ^ 62) :
    (spoilt = true ∧ (commitB log m n spoilt es l σ) = ⟨9, m, l, σ, false⟩) ∨
    (spoilt = false ∧ es.length = 0 ∧ (commitB log m n spoilt es l σ) = ⟨0, m, l, σ, false⟩) ∨
    (spoilt = false ∧ es.length ≠ 0 ∧ (4 + 516 * es.length > 65536 ∨ 4 + 516 * es.length + 8 > 64 * (log - 1)) ∧ (commitB log m n spoilt es l σ) = ⟨7, m, l, σ, false⟩) ∨
    (spoilt = false ∧ es.length ≠ 0 ∧ ¬ (4 + 516 * es.length > 65536 ∨ 4 + 516 * es.length + 8 > 64 * (log - 1)) ∧
      (((commitB log m n spoilt es l σ).e = 0 ∧ (commitB log m n spoilt es l σ).lost = false ∧ (commitB log m n spoilt es l σ).m = n ∧ Rest N log cnt (E + 1) (pagesP es P) (commitB log m n spoilt es l σ).l (commitB log m n spoilt es l σ).σ ∧ (commitB log m n spoilt es l σ).σ.armed = σ.armed) ∨
       (σ.armed = true ∧ (commitB log m n spoilt es l σ).e = 10 ∧ Dn (commitB log m n spoilt es l σ).σ N ∧ Crash (commitB log m n spoilt es l σ).σ (fun img => RecI log cnt (E + 1) P img ∨ RecI log cnt (E + 1) (pagesP es P) img)))) := by
  unfold commitB
  cases spoilt
  · simp only [Bool.false_eq_true, if_false, false_and, false_or, true_and]
    by_cases h0 : es.length = 0
    · rw [if_pos h0]
      exact .inl ⟨h0, rfl⟩
    · rw [if_neg h0]
      by_cases hf : 4 + 516 * es.length > 65536 ∨ 4 + 516 * es.length + 8 > 64 * (log - 1)
      · rw [if_pos hf]
        exact .inr (.inl ⟨h0, hf, rfl⟩)
      · rw [if_neg hf]
        refine .inr (.inr ⟨h0, hf, ?_⟩)
        by_cases hg : ((4 + 516 * es.length + 8 : Nat) : Int) > l.room
        · rw [if_pos hg]
          rcases settle_run G.toRest0 hE with ⟨q1, q2, q3, q4, -⟩ | ⟨q0, q1, q2, q3⟩
          · rw [if_pos q1]
            obtain ⟨rs, L, -⟩ := q2.lg
            have hrm : (settleB l σ).2.1.room = 64 * ((log : Int) - 1) := by
              have hb := L.ok.form
              rw [q3] at hb
              unfold Lg.room
              rw [hb, L.waits, L.n]
              simp [frames]
            have hw := writeB_run (m := m) (n := n) q2 he (by omega) (by omega) (by rw [hrm]; have := G.sh.two; omega)
            rw [q4] at hw
            rcases hw with ⟨w1, w2, w3, w4, w5⟩ | hw
            · exact .inl ⟨w1, w2, w3, w4, w5⟩
            · exact .inr hw
          · rw [if_neg (by omega)]
            exact .inr ⟨q0, q1, q2, q3.mono (fun img h => .inl h)⟩
        · rw [if_neg hg]
          rcases writeB_run (m := m) (n := n) G.toRest0 he (by omega) (by omega) (by omega) with ⟨w1, w2, w3, w4, w5⟩ | ⟨w0, w1, w2, w3⟩
          · exact .inl ⟨w1, w2, w3, w4.more (Nat.le_succ _), w5⟩
          · exact .inr ⟨w0, w1, w2, w3.mono (fun img h => h.imp (fun h => h.more (Nat.le_succ _)) (fun h => h.more (Nat.le_succ _)))⟩
  · simp

end Go.Proofs.YtnffnpndnaofhaaGreatDoor

/- A transaction (layer 10): SetRoot of an open one; conditions stand in the theorem. -/
namespace Go.Proofs.YtnffnpndnaofhaaGreatDoor
open Go.RowKit
set_option maxRecDepth 100000

def Meta.setRoot (m : Meta) (i v : Nat) : Meta :=
  match i with
  | 0 => { m with r0 := v }
  | 1 => { m with r1 := v }
  | 2 => { m with r2 := v }
  | _ => { m with r3 := v }

set_option maxHeartbeats 4000000 in
theorem tx_setroot {w0 w : World} {ps : List HP} {t x d b log : Nat} {m n : Meta} {mv : Value} {marked spoilt : Bool} {σ : Dk} (H : St w0 w (objP t (txCells x n mv marked spoilt) 67 :: objP x (dbCells d b log m (.pointer (some ⟨t, 0, none⟩)) false) 62 :: diskP d σ :: ps)) (hd : σ.down = false) (i v : Nat) (hi : i < 4) (hv : v < 2147483648) :
    Calls Tryz.prog 30 #[.pointer (some ⟨t, 0, none⟩), .int .i64 (i : Int), .int .i64 (v : Int)] w fun e w' => e = .returned (.int .i64 0) ∧ St w0 w' (objP t (txCells x (n.setRoot i v) mv true spoilt) 67 :: objP x (dbCells d b log m (.pointer (some ⟨t, 0, none⟩)) false) 62 :: diskP d σ :: ps) := by
  have hu := fun W (hW : W = w) => hW ▸ tx_up H hd
  have HH := hid H
  obtain ⟨u, cu⟩ : ∃ u, w.cell? ⟨t, 1 + i, none⟩ = some u := ⟨_, ((H.obj 0 rfl).cell (1 + i)).trans (List.getElem?_eq_getElem (by simp [txCells]; omega))⟩
  have fu := (H.obj 0 rfl).frozen (1 + i)
  have f9 := (H.obj 0 rfl).frozen 9
  have c9 := (H.obj 0 rfl).cell 9
  have hlt := (H.obj 0 rfl).lt
  simp only [txCells, List.getElem?_cons_succ, List.getElem?_cons_zero] at c9
  have i1 : (i : Int) < 4 := by omega
  have d1 : decide ((i : Int) < 0) = false := decide_eq_false (by omega)
  have d2 : decide (4 ≤ (i : Int)) = false := decide_eq_false (by omega)
  have d3 : decide ((v : Int) < 0) = false := decide_eq_false (by omega)
  have d4 : decide (2147483648 ≤ (v : Int)) = false := decide_eq_false (by omega)
  have HI := hid hi
  clear H hd hi hv
  go_enter Tryz.func30, Tryz.ntmps30
  go_wp2_with (go_at_call 53; refine (hu _ rfl).mono ?_; rintro e w' ⟨rfl, rfl⟩)
  go_ret
  refine ⟨rfl, ?_⟩
  have h1 := St.set (St.set HH.out 0 rfl (1 + i) (.int .i64 (v : Int))) 0 rfl 9 (.bool true)
  have e : ((txCells x n mv marked spoilt).set (1 + i) (.int .i64 (v : Int))).set 9 (.bool true) = txCells x (n.setRoot i v) mv true spoilt := by
    have := HI.out
    match i, this with
    | 0, _ => rfl
    | 1, _ => rfl
    | 2, _ => rfl
    | 3, _ => rfl
  rw [← e]
  exact h1

end Go.Proofs.YtnffnpndnaofhaaGreatDoor

/- A transaction (layer 10): Root of an open one; conditions stand in the theorem. -/
namespace Go.Proofs.YtnffnpndnaofhaaGreatDoor
open Go.RowKit
set_option maxRecDepth 100000

set_option maxHeartbeats 4000000 in
theorem tx_root {w0 w : World} {ps : List HP} {t x d b log : Nat} {m n : Meta} {mv : Value} {marked spoilt : Bool} {σ : Dk} (H : St w0 w (objP t (txCells x n mv marked spoilt) 67 :: objP x (dbCells d b log m (.pointer (some ⟨t, 0, none⟩)) false) 62 :: diskP d σ :: ps)) (hd : σ.down = false) (i : Nat) (hi : i < 4) :
    Calls Tryz.prog 29 #[.pointer (some ⟨t, 0, none⟩), .int .i64 (i : Int)] w fun e w' => e = .returned (.int .i64 (n.root i : Int)) ∧ w = w' := by
  have hu := fun W (hW : W = w) => hW ▸ tx_up H hd
  have cu : w.cell? ⟨t, 1 + i, none⟩ = some (.int .i64 (n.root i : Int)) := by
    rw [(H.obj 0 rfl).cell (1 + i)]
    match i, hi with
    | 0, _ => rfl
    | 1, _ => rfl
    | 2, _ => rfl
    | 3, _ => rfl
  have i1 : (i : Int) < 4 := by omega
  have d1 : decide ((i : Int) < 0) = false := decide_eq_false (by omega)
  have d2 : decide (4 ≤ (i : Int)) = false := decide_eq_false (by omega)
  clear H hd hi
  generalize n.root i = v at *
  go_enter Tryz.func29, Tryz.ntmps29
  go_wp2_with (go_at_call 53; refine (hu _ rfl).mono ?_; rintro e w' ⟨rfl, rfl⟩)
  go_ret
  exact ⟨rfl, rfl⟩

end Go.Proofs.YtnffnpndnaofhaaGreatDoor
