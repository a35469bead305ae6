/- Parts of the proof: wal.Open on a disk: it comes to openLg; conditions stand in the theorem. -/
import Derived.Test.YtnffnpndnaofhaaGreatDoorQal

/- wal.Open on a disk: it comes to openLg; conditions stand in the theorem. -/
namespace Go.Proofs.YtnffnpndnaofhaaGreatDoor
open Go.RowKit
set_option maxRecDepth 100000

/-- How Open ends. -/
def OpenEnd (w0 w' : World) (ps : List HP) (d : Nat) (σ : Dk) (en : Ending) : Int × Option Lg → Prop
  | (e, none) => en = .returned (.tuple #[.pointer none, .int .i64 e]) ∧ St w0 w' (diskP d σ :: ps)
  | (e, some l) => ∃ b, en = .returned (.tuple #[.pointer (some ⟨b, 0, none⟩), .int .i64 e]) ∧ St w0 w' (logP b d l :: diskP d σ :: ps)

theorem Dk.look_len {σ : Dk} (ok : σ.Ok) {i : Nat} (h : i < σ.kept.length) : (σ.look i).length = 64 := Dk.look_length ok h

theorem sectorsB_length {σ : Dk} (ok : σ.Ok) (a : Nat) : ∀ c, a + c ≤ σ.kept.length → (sectorsB σ a c).length = 64 * c
  | 0, _ => by simp [sectorsB]
  | c + 1, h => by
    rw [sectorsB_succ, List.length_append, sectorsB_length ok a c (by omega), Dk.look_length ok (by omega)]
    omega

theorem sectorsB_take {σ : Dk} (ok : σ.Ok) (a : Nat) {c m k : Nat} (h : a + m ≤ σ.kept.length) (hc : c ≤ m) (hk : k ≤ 64 * c) : (sectorsB σ a m).take k = (sectorsB σ a c).take k := by
  have h1 : sectorsB σ a m = sectorsB σ a c ++ (List.range (m - c)).flatMap fun i => σ.look (a + (c + i)) := by
    unfold sectorsB
    have : List.range m = List.range c ++ (List.range (m - c)).map (c + ·) := by
      conv => lhs; rw [show m = c + (m - c) by omega, List.range_add]
    rw [this, List.flatMap_append]
    simp [List.flatMap_map]
  have h2 := sectorsB_length ok a c (by omega)
  rw [h1, List.take_append_of_le_length (by omega)]

theorem read_has {σ : Dk} (hd : σ.down = false) {i : Nat} (h : i < σ.kept.length) : σ.read (i : Int) = (σ.look i, 0) := by
  unfold Dk.read
  rw [hd]
  simp only [Bool.false_eq_true, if_false]
  rw [if_pos (by simp [Dk.has]; omega)]
  simp

theorem Lg.start_ok {B N : Nat} (h2 : 2 ≤ N) (h3 : N ≤ 65536) (h4 : B ≤ 65536) : Lg.Ok ⟨B, N, 0, [], [], [], false⟩ :=
  ⟨h2, h3, h4, by simp, by simp [frames], by simp [frames], by simp, by simp⟩

theorem splitN_some : ∀ (f : Nat) (b : List UInt8) (l : List (List UInt8)), splitN f b = some l → b = frames l ∧ ∀ r ∈ l, r.length ≤ 65536
  | 0, b, l, h => by
    unfold splitN at h
    split at h
    · cases h; rename_i e; exact ⟨e, by simp⟩
    · cases h
  | f + 1, b, l, h => by
    unfold splitN at h
    split at h
    · cases h; rename_i e; exact ⟨e, by simp⟩
    split at h
    · cases h
    · rename_i r k hu
      obtain ⟨rfl, h2, h3, h4⟩ := unframeB_some hu
      cases hr : splitN f (b.drop (8 + r.length)) with
      | none => rw [hr] at h; cases h
      | some l' =>
        rw [hr] at h
        cases h
        obtain ⟨e, hm⟩ := splitN_some f _ _ hr
        refine ⟨?_, ?_⟩
        · rw [show frames (r :: l') = frameB r ++ frames l' from rfl, ← e]
          exact h3
        · intro x hx
          simp only [List.mem_cons] at hx
          rcases hx with rfl | hx
          · exact h4
          · exact hm x hx

theorem splitN_nil (f : Nat) : splitN f [] = some [] := by cases f <;> rfl

theorem splitN_step {f : Nat} {b : List UInt8} (hb : b ≠ []) (hf : b.length ≤ f) : splitN f b = match unframeB b with
    | none => none
    | some (r, k) => (splitN (f - 1) (b.drop k)).map (r :: ·) := by
  have : 0 < b.length := List.length_pos_iff.2 hb
  obtain ⟨g, rfl⟩ : ∃ g, f = g + 1 := ⟨f - 1, by omega⟩
  rw [splitN, if_neg hb]
  rfl

/-- The round's word on what is to come: what is done, and the rest, make the whole. -/
def Splits (bytes : List UInt8) (done : List (List UInt8)) (rest : List UInt8) : Prop :=
  ∃ f, rest.length ≤ f ∧ splitB bytes = (splitN f rest).map (done ++ ·) ∧ 8 * done.length + rest.length ≤ bytes.length

theorem Splits.start (bytes : List UInt8) : Splits bytes [] bytes := ⟨_, Nat.le_refl _, by unfold splitB; cases splitN bytes.length bytes <;> simp, by simp⟩

theorem Splits.done {bytes : List UInt8} {done : List (List UInt8)} (h : Splits bytes done []) : splitB bytes = some done := by
  obtain ⟨f, -, h2, -⟩ := h
  rw [h2, splitN_nil]
  simp

theorem Splits.bad {bytes : List UInt8} {done : List (List UInt8)} {rest : List UInt8} (h : Splits bytes done rest) (hne : rest ≠ []) (hu : unframeB rest = none) : splitB bytes = none := by
  obtain ⟨f, h1, h2, -⟩ := h
  rw [h2, splitN_step hne h1, hu]
  rfl

theorem Splits.next {bytes : List UInt8} {done : List (List UInt8)} {rest r : List UInt8} {k : Nat} (h : Splits bytes done rest) (hne : rest ≠ []) (hu : unframeB rest = some (r, k)) : Splits bytes (done ++ [r]) (rest.drop k) := by
  obtain ⟨f, h1, h2, h3⟩ := h
  obtain ⟨rfl, h5, -, -⟩ := unframeB_some hu
  refine ⟨f - 1, by rw [List.length_drop]; omega, ?_, ?_⟩
  · rw [h2, splitN_step hne h1, hu]
    simp only
    cases splitN (f - 1) (rest.drop (8 + r.length)) <;> simp
  · rw [List.length_drop, List.length_append, List.length_singleton]
    omega

/-- An operation that gives a value and leaves the world. -/
theorem wpL_val {P : Program} {ops : Array Oper} {rest : List Oper} {o : Oper} {a : Act} {w : World} {Q : Exit → Act → World → Prop} (hgd : o.guard = none) (v : Value) (h : (execOp a.eval o).run P w = .ok (.value v) w)
    (hk : wpList P ops Q rest (a.put o.dst v) w) : wpList P ops Q (o :: rest) a w :=
  wpList_plain hgd fun _ hK => wp_value h (hK _ _ hk)

theorem at_cut {P : Program} {ops : Array Oper} {rest : List Oper} {a : Act} {w : World} {Q : Exit → Act → World → Prop} {d : Option Tmp} {ty : TypeId} {pos : String} {af : Array Edge} {g : Option (Nat × Bool)} {t : TypeId} {x : Operand} {lo hi mx : Option Operand} (h : wpList P ops Q (⟨d, .slice t x lo hi mx, ty, pos, af, g⟩ :: rest) a w) : wpList P ops Q (⟨d, .slice t x lo hi mx, ty, pos, af, g⟩ :: rest) a w := h

theorem run_cut {w : World} {o : Oper} {a : Act} {x y z : Operand} (ho : o.op = .slice 122 x none (some y) (some z)) {av : Option Addr} {n cap m : Nat} (hx : a.eval x = .slice av n cap) (hy : a.eval y = .int .u64 (m : Int)) (hz : a.eval z = .int .u64 (m : Int)) (hm : m ≤ cap) (h0 : m ≠ 0 → ∃ g, av = some ⟨g, 0, none⟩) :
    (execOp a.eval o).run Tryz.prog w = .ok (.value (.slice av m m)) w := by
  have hr := run_slice_hm (P := Tryz.prog) w 122 av n cap (by kernel_rfl) .u64 .u64 (m : Int) (m : Int) (by omega) (by omega) (by omega)
  have hs : (sizeOf (Tryz.prog.elem 122)).run Tryz.prog w = .ok 1 w := by kernel_rfl
  have hq : ∀ x lo hi mx, (Instr.sliceAt 122 x lo hi mx).run Tryz.prog w = (Instr.slice 122 x lo hi mx).run Tryz.prog w := fun x lo hi mx => run_sliceAt_slice (P := Tryz.prog) w 122 x lo hi mx (by kernel_rfl)
  unfold execOp
  simp only [ho, hx, hy, hz, Option.map_some, Option.map_none, Sem.run_bind, Sem.run_pure, hq, hr, hs, Result.andThen_ok, sliced, Int.toNat_natCast]
  by_cases e : m = 0
  · subst e; simp
  · obtain ⟨g, rfl⟩ := h0 e
    rw [if_neg e]
    simp [Addr.add]

theorem run_bytes_rd {w : World} {o : Oper} {a : Act} {x : Operand} (ho : o.op = .convert 122 9 x) {v : Value} (hx : a.eval x = v) {bs : List UInt8} (h : Rd w 5 v (bs.map byteV)) :
    (execOp a.eval o).run Tryz.prog w = .ok (.value (.string ⟨bs.toArray⟩)) w := by
  rcases h with ⟨rfl, h1⟩ | ⟨g, cap, cur, rfl, hg, h1, h2, h3⟩
  · have hb : bs = [] := by cases bs with | nil => rfl | cons => cases h1
    subst hb
    have hr := run_convert_bytes_nil (P := Tryz.prog) w 122 5 Tryz.underlying122 Tryz.underlying5 0 0 9 Tryz.underlying9
    unfold execOp
    simp only [ho, hx, Sem.run_bind, Sem.run_pure, Result.andThen_ok, hr]
    rfl
  · rw [List.length_map] at h1 h3 hx
    have hr := run_bytes_string (P := Tryz.prog) (w := w) (src := 122) (dst := 9) Tryz.underlying122 Tryz.underlying5 Tryz.underlying9 (b := g) (off := 0) (len := bs.length) (cap := cap) (bs := bs) rfl (by
      rw [← h3]
      have := hg.piece 0 bs.length
      simpa using this)
    unfold execOp
    simp only [ho, hx, Sem.run_bind, Sem.run_pure, Result.andThen_ok, hr]

theorem Rd.cut {w : World} {E : TypeId} {av : Option Addr} {n cap m : Nat} {xs : List Value} (h : Sl w E 1 (.slice av n cap) n xs) (hm : m ≤ n) : Rd w E (.slice av m m) (xs.take m) := by
  have hl : xs.length = n := by have := h.1; omega
  have hx : (xs.take m).length = m := by rw [List.length_take]; omega
  rcases h.2 with ⟨e, rfl⟩ | ⟨g, cap', cur, e, hg, h1, h2, h3, h4⟩
  · obtain rfl : m = 0 := by omega
    cases e
    exact .inl ⟨rfl, rfl⟩
  · cases e
    refine .inr ⟨g, m, cur, by rw [hx], hg, by omega, by omega, ?_⟩
    rw [hx, ← h4, List.take_take]
    congr 1
    omega

/-- A new log's own cells. -/
def rawCells (d : Nat) (B N e : Nat) (bv rv wv : Value) : List Value :=
  [.pointer (some ⟨d, 0, none⟩), .int .i64 (B : Int), .int .i64 (N : Int), .int .i64 (e : Int), bv, rv, wv, .bool false]

/-- What holds at the head of a round of the first loop: k sectors are read. -/
def OpenMid (w0 wr : World) (ps : List HP) (b d : Nat) (σ : Dk) (B N E : Nat) (v : Value) (k : Nat) : Prop :=
  St w0 wr (slP v 5 1 (64 * k) ((sectorsB σ (B + 1) k).map byteV) :: objP b (rawCells d B N E v (.slice none 0 0) (.slice none 0 0)) 124 :: diskP d σ :: ps)

/-- What holds at the head of a round of the second loop: done are the records so far. -/
def SplitMid (w0 wr : World) (ps : List HP) (b d : Nat) (σ : Dk) (B N E : Nat) (bv : Value) (bytes : List UInt8) (rv : Value) (done : List (List UInt8)) : Prop :=
  St w0 wr (slP rv 9 1 done.length (done.map strV) :: objP b (rawCells d B N E bv rv (.slice none 0 0)) 124 :: rdP bv 5 (bytes.map byteV) :: diskP d σ :: ps)

def strLen : Value → Nat
  | .string s => s.size
  | _ => 0

set_option maxHeartbeats 4000000 in
theorem wal_open {w0 w : World} {ps : List HP} {d : Nat} {σ : Dk} (hh : HalfAt w0) (H : St w0 w (diskP d σ :: ps)) (base n : Int)
    (hb0 : -9223372036854775808 ≤ base) (hb1 : base ≤ 9223372036854775807) (hn0 : -9223372036854775808 ≤ n) (hn1 : n ≤ 9223372036854775807) :
    Calls Tryz.prog 41 #[.pointer (some ⟨d, 0, none⟩), .int .i64 base, .int .i64 n] w fun en w' => OpenEnd w0 w' ps d σ en (openLg σ base n) := by
  have ok := sd_ok H
  have hpos := ok.pos
  have hmost := ok.most
  have hsz := fun W (hW : W = w) => hW ▸ sd_size H
  have hdn := fun W (hW : W = w) => hW ▸ sd_down H
  have hne : ((σ.kept.length : Int) == 0) = false := by rw [beq_eq_false_iff_ne]; omega
  have HX := hid H
  have OK := hid ok
  obtain ⟨F, hF⟩ : ∃ F, Hid (openLg σ base n = F) := ⟨_, hid rfl⟩
  rw [hF.out]
  have hF2 := hF.out
  unfold openLg at hF2
  clear hF H ok
  obtain ⟨sz, hszd⟩ : ∃ sz, σ.kept.length = sz := ⟨_, rfl⟩
  rw [hszd] at hpos hmost hsz hne hF2
  have HZ := hid hszd
  clear hszd
  cases hdown : σ.down
  · rw [hdown] at hdn hF2
    simp only [Bool.false_eq_true, if_false] at hF2
    have HDN := hid hdown
    clear hdown
    by_cases b1 : n < 2
    · rw [if_pos (by omega)] at hF2
      subst hF2
      go_enter Tryz.func41, Tryz.ntmps41
      go_wp2_with (first | (go_at_call 62; refine (hsz _ rfl).mono ?_; rintro e w' ⟨rfl, rfl⟩) | (go_at_call 33; refine (hdn _ rfl).mono ?_; rintro e w' ⟨rfl, rfl⟩))
      go_ret2
      exact ⟨rfl, HX.out⟩
    by_cases b2 : base < 0
    · rw [if_pos (by omega)] at hF2
      subst hF2
      go_enter Tryz.func41, Tryz.ntmps41
      go_wp2_with (first | (go_at_call 62; refine (hsz _ rfl).mono ?_; rintro e w' ⟨rfl, rfl⟩) | (go_at_call 33; refine (hdn _ rfl).mono ?_; rintro e w' ⟨rfl, rfl⟩))
      go_ret2
      exact ⟨rfl, HX.out⟩
    by_cases b3 : (sz : Int) < base
    · rw [if_pos (by omega)] at hF2
      subst hF2
      go_enter Tryz.func41, Tryz.ntmps41
      go_wp2_with (first | (go_at_call 62; refine (hsz _ rfl).mono ?_; rintro e w' ⟨rfl, rfl⟩) | (go_at_call 33; refine (hdn _ rfl).mono ?_; rintro e w' ⟨rfl, rfl⟩))
      go_ret2
      exact ⟨rfl, HX.out⟩
    by_cases b4 : (sz : Int) - base < n
    · rw [if_pos (by omega)] at hF2
      subst hF2
      go_enter Tryz.func41, Tryz.ntmps41
      go_wp2_with (first | (go_at_call 62; refine (hsz _ rfl).mono ?_; rintro e w' ⟨rfl, rfl⟩) | (go_at_call 33; refine (hdn _ rfl).mono ?_; rintro e w' ⟨rfl, rfl⟩))
      go_ret2
      exact ⟨rfl, HX.out⟩
    rw [if_neg (by omega)] at hF2
    obtain ⟨B, rfl⟩ : ∃ B : Nat, base = (B : Int) := ⟨base.toNat, by omega⟩
    obtain ⟨N, rfl⟩ : ∃ N : Nat, n = (N : Int) := ⟨n.toNat, by omega⟩
    simp only [Int.toNat_natCast] at hF2
    have hB : B < sz := by omega
    have hBN : B + N ≤ sz := by omega
    have hread := read_has HDN.out (σ := σ) (i := B) (by rw [HZ.out]; omega)
    have hlook := Dk.look_length OK.out (i := B) (by rw [HZ.out]; omega)
    have HF := hid hF2
    clear hF2
    obtain ⟨s, hs⟩ : ∃ s, Hid (σ.look B = s) := ⟨_, hid rfl⟩
    rw [hs.out] at hread hlook
    obtain ⟨z, hz⟩ : ∃ z : ByteArray, Hid (z = ⟨s.toArray⟩) := ⟨_, hid rfl⟩
    have hzl : z.data.toList = s := by rw [hz.out, ba_mk]
    have hzs : z.size = 64 := by rw [ba_size, hzl, hlook]
    have HL := hid (And.intro hzl hlook)
    clear hzl hlook
    have HRD := hid hread
    obtain ⟨z0, hz0⟩ : ∃ z : ByteArray, Hid (z = ⟨(List.replicate 64 (0 : UInt8)).toArray⟩) := ⟨_, hid rfl⟩
    have hz0s : z0.size = 64 := by rw [ba_size, hz0.out, ba_mk, List.length_replicate]
    have hrep := fun W => repeat_nought 64 W (by omega)
    rw [← hz0.out] at hrep
    have hv1 := fun W => wal_value (z.extract 4 12) W (by rw [ByteArray.size_extract]; omega)
    have hv2 := fun W => wal_value (z.extract 12 16) W (by rw [ByteArray.size_extract]; omega)
    have e1 : (z.extract 4 12).data.toList = (s.drop 4).take 8 := by rw [ba_take, HL.out.1, List.drop_take]
    have e2 : (z.extract 12 16).data.toList = (s.drop 12).take 4 := by rw [ba_take, HL.out.1, List.drop_take]
    have l1 := valLE_lt ((s.drop 4).take 8)
    have l2 := valLE_lt ((s.drop 12).take 4)
    have g1 : ((s.drop 4).take 8).length = 8 := by rw [List.length_take, List.length_drop, HL.out.2]; rfl
    have g2 : ((s.drop 12).take 4).length = 4 := by rw [List.length_take, List.length_drop, HL.out.2]; rfl
    rw [g1] at l1
    rw [g2] at l2
    rw [e1] at hv1
    rw [e2] at hv2
    obtain ⟨E, hE⟩ : ∃ E, Hid (valLE ((s.drop 4).take 8) = E) := ⟨_, hid rfl⟩
    obtain ⟨Ln, hLn⟩ : ∃ Ln, Hid (valLE ((s.drop 12).take 4) = Ln) := ⟨_, hid rfl⟩
    rw [hE.out] at hv1 l1
    rw [hLn.out] at hv2 l2
    clear e1 e2 g1 g2
    clear hread
    go_enter Tryz.func41, Tryz.ntmps41
    go_wp2_with (first
      | (go_at_call 62; refine (hsz _ rfl).mono ?_; rintro e w' ⟨rfl, rfl⟩)
      | (go_at_call 33; refine (hdn _ rfl).mono ?_; rintro e w' ⟨rfl, rfl⟩))
    have H1 := hid ((HX.out.alloc (rawCells d B N 0 (.slice none 0 0) (.slice none 0 0) (.slice none 0 0)) 124).pull 1 rfl)
    have hrd := sd_read H1.out (B : Int)
    rw [HRD.out, ← hz.out] at hrd
    unfold rawCells at H1 hrd
    clear hsz hdn HX
    generalize w.heap.size = b at *
    generalize (w.alloc _) = wa at *
    refine hrd.mono ?_
    rintro en w1 ⟨rfl, H2, P2⟩
    clear hrd H1
    go_wp2_with fail
    refine (hrep _).mono ?_
    rintro en w2 ⟨rfl, P3⟩
    have H3 := hid (H2.quiet P3)
    clear H2 P2 P3 hrep
    by_cases hzero : s = List.replicate 64 0
    · have hzz : z = z0 := by rw [hz.out, hz0.out, hzero]
      subst hzz
      have hF3 := HF.out
      rw [if_pos (by rw [hs.out]; exact hzero)] at hF3
      subst hF3
      clear HF
      go_wp2
      go_ret2
      refine ⟨b, rfl, ?_⟩
      have h1 := ((((H3.out.pull 1 rfl).nil 9 1).nil 9 1).nil 5 1).see (q := rdP (.slice none 0 0) 5 []) (fun fp h => ⟨h.1, Rd.of_sl h.2⟩)
      have h2 := h1.pull 3 rfl
      exact log_close (l := ⟨B, N, 0, [], [], [], false⟩) (Lg.start_ok (by omega) (by omega) (by omega)) (bv := .slice none 0 0) (rv := .slice none 0 0) (wv := .slice none 0 0) h2
    · have hzz : ¬ z = z0 := fun e => hzero (by rw [← HL.out.1, e, hz0.out, ba_mk])
      have hzne := toList_ne hzz
      have hF3 := HF.out
      rw [if_neg (by rw [hs.out]; exact hzero), hs.out] at hF3
      simp only [hE.out, hLn.out] at hF3
      have HF := hid hF3
      have hEi : (E : Int) < 18446744073709551616 := by omega
      have hLi : (Ln : Int) < 4294967296 := by omega
      clear hF3 hzz hzero
      go_upto_region 11 with fail
      refine wp_stages (by kernel_rfl) ?_
      refine wp_stage (fun W => W = w2.drew) [(0, true), (1, true), (3, true), (4, true), (2, false)] 3 rfl (by kernel_rfl) (by intro c a dd v w h; cases dd <;> exact h) (rfl) ?_
      clear hne
      have hsl : ∀ (W : World) (i j : Int), 0 ≤ i → i ≤ j → j ≤ 64 → (Instr.slice 9 (.string z) (some (.int .i64 i)) (some (.int .i64 j)) none).run Tryz.prog W = .ok (.string (z.extract i.toNat j.toNat)) W := by
        intro W i j h0 h1 h2
        rw [run_slice_string_if W _ z .i64 .i64 i j Tryz.underlying9, if_pos (by omega), if_pos (by omega)]
      (refine wpOrd_readw (v := _) rfl rfl (by intro w' hS; subst hS; go_simp; rfl) ?_; (try simp only [Act.put, List.setIfInBounds_toArray, List.set_cons_succ, List.set_cons_zero, List.getElem_toArray, List.getElem_cons_succ, List.getElem_cons_zero]))
      refine wpOrd_readw (v := .string (z.extract 4 12)) rfl rfl (by intro w' hS; subst hS; unfold execOp; simp only [Act.eval, hsl _ 4 12 (by decide) (by decide) (by decide)]; go_simp) ?_
      (try simp only [Act.put, List.setIfInBounds_toArray, List.set_cons_succ, List.set_cons_zero, List.getElem_toArray, List.getElem_cons_succ, List.getElem_cons_zero])
      (refine wpOrd_readw (v := _) rfl rfl (by intro w' hS; subst hS; go_simp; rfl) ?_; (try simp only [Act.put, List.setIfInBounds_toArray, List.set_cons_succ, List.set_cons_zero, List.getElem_toArray, List.getElem_cons_succ, List.getElem_cons_zero]))
      refine wpOrd_readw (v := .string (z.extract 12 16)) rfl rfl (by intro w' hS; subst hS; unfold execOp; simp only [Act.eval, hsl _ 12 16 (by decide) (by decide) (by decide)]; go_simp) ?_
      (try simp only [Act.put, List.setIfInBounds_toArray, List.set_cons_succ, List.set_cons_zero, List.getElem_toArray, List.getElem_cons_succ, List.getElem_cons_zero])
      refine wpOrd_dow rfl rfl (fun K hK => ?_)
      go_simp
      refine (hv1 _).mono ?_
      rintro e w6 ⟨rfl, rfl⟩
      refine hK _ _ ⟨rfl, ?_⟩
      clear hK K
      (try simp only [Act.put, List.setIfInBounds_toArray, List.set_cons_succ, List.set_cons_zero, List.getElem_toArray, List.getElem_cons_succ, List.getElem_cons_zero])
      refine wpOrd_end ?_
      refine wp_stages_end 5 (by rfl) (by kernel_rfl) ?_
      simp only [List.drop_succ_cons, List.drop_zero]
      have HD := hid (H3.out.drew.pull 1 rfl)
      generalize w2.drew = wd at *
      clear hv1 hsl H3
      have hN1 : (64 : Int) * ((N : Int) - 1) < 18446744073709551616 := by omega
      by_cases a1 : 4611686018427387904 < E
      · have hF3 := HF.out
        rw [if_pos (by omega)] at hF3
        subst hF3
        have a1' : (4611686018427387904 : Int) < (E : Int) := by omega
        clear HF
        go_wp2_with (go_at_call 77; refine (hv2 _).mono ?_; rintro e w6 ⟨rfl, rfl⟩)
        go_ret2
        exact ⟨rfl, HD.out.drop⟩
      have a1' : ¬ (4611686018427387904 : Int) < (E : Int) := by omega
      by_cases a2 : 64 * (N - 1) < Ln
      · have hF3 := HF.out
        rw [if_pos (by omega)] at hF3
        subst hF3
        have a2' : (64 : Int) * ((N : Int) - 1) < (Ln : Int) := by omega
        clear HF
        go_wp2_with (go_at_call 77; refine (hv2 _).mono ?_; rintro e w6 ⟨rfl, rfl⟩)
        go_ret2
        exact ⟨rfl, HD.out.drop⟩
      have a2' : ¬ (64 : Int) * ((N : Int) - 1) < (Ln : Int) := by omega
      have hhd := fun W hW => wal_head E Ln W hW (by omega) (by omega)
      obtain ⟨zh, hzh⟩ : ∃ z : ByteArray, Hid (z = ⟨(headB E Ln).toArray⟩) := ⟨_, hid rfl⟩
      rw [← hzh.out] at hhd
      by_cases a3 : s = headB E Ln
      · have hzz : zh = z := by rw [hz.out, hzh.out, a3]
        have hF3 := HF.out
        rw [if_neg (by simp only [not_or, Classical.not_not]; exact ⟨by omega, by omega, a3⟩)] at hF3
        have HF := hid hF3
        clear hF3 a3 HL
        rw [hzz] at hhd
        clear hzz hzh
        have hE62 : (E : Int) ≤ 4611686018427387904 := by omega
        clear hzne
        have d1 : decide ((4611686018427387904 : Int) < (E : Int)) = false := decide_eq_false a1'
        have d2 : decide ((64 : Int) * ((N : Int) - 1) < (Ln : Int)) = false := decide_eq_false a2'
        clear a1' a2'
        go_wp2_with (first | (go_at_call 77; refine (hv2 _).mono ?_; rintro e w6 ⟨rfl, rfl⟩) | (go_at_call 78; refine (hhd _ (hh.pres HD.out.pres)).mono ?_; rintro e w6 ⟨rfl, P6⟩; have H6 := hid (HD.out.quiet P6); have c3 := (H6.out.obj 0 rfl).cell 3; have f3 := (H6.out.obj 0 rfl).frozen 3; simp only [rawCells, List.getElem?_cons_succ, List.getElem?_cons_zero] at c3))
        have HM : OpenMid w0 (w6.setCell ⟨b, 3, none⟩ (.int .i64 (E : Int))) ps b d σ B N E (.slice none 0 0) 0 := by
          have h1 := (H6.out.set 0 rfl 3 (.int .i64 (E : Int))).nil 5 1
          unfold OpenMid
          rw [show sectorsB σ (B + 1) 0 = [] from rfl]
          exact h1
        clear c3 f3 H6
        obtain ⟨i, hi, hiz, his, hib⟩ := info_u8
        have HI := hid (And.intro hi (And.intro hiz (And.intro his hib)))
        clear hi hiz his hib
        go_loopw [13] (fun iv wr => ∃ (k : Nat) (v : Value), iv = .int .i64 (((B + 1 + k : Nat)) : Int) ∧ k ≤ N - 1 ∧ (k = 0 ∨ 64 * (k - 1) < Ln) ∧ OpenMid w0 wr ps b d σ B N E v k) (fun iv _ => 70000 + sz - (intOf iv).toNat)
        case atStart => exact ⟨0, _, by go_num, Nat.zero_le _, .inl rfl, HM⟩
        case round =>
          obtain ⟨k, v, rfl, hk, hkl, hM⟩ := hrel
          clear HM
          have HH := hid hM
          clear hM
          obtain ⟨av, cv, rfl, hcv, hcm⟩ := (St.sl HH.out 0 rfl).shape
          have c4 := (St.obj HH.out 1 rfl).cell 4
          simp only [rawCells, List.getElem?_cons_succ, List.getElem?_cons_zero] at c4
          obtain ⟨L, hL⟩ : ∃ L, Hid (64 * k = L) := ⟨_, hid rfl⟩
          have hLb : L ≤ 4194304 := by have := hL.out; omega
          have h0 := HH.out
          unfold OpenMid at h0
          rw [hL.out] at h0 hcv c4
          have HH := hid h0
          clear h0
          obtain ⟨I, hI⟩ : ∃ I, Hid (B + 1 + k = I) := ⟨_, hid rfl⟩
          rw [hI.out]
          have hsl := sectorsB_length OK.out (B + 1) k (by rw [HZ.out]; omega)
          by_cases hlt : L < Ln
          · have hlt' : (L : Int) < (Ln : Int) := by omega
            have hkN : k < N - 1 := by have := hL.out; omega
            have hIs : I < sz := by have := hI.out; omega
            have hread := read_has HDN.out (σ := σ) (i := I) (by rw [HZ.out]; exact hIs)
            have hlook := Dk.look_length OK.out (i := I) (by rw [HZ.out]; exact hIs)
            obtain ⟨z1, hz1⟩ : ∃ z : ByteArray, Hid (z = ⟨(σ.look I).toArray⟩) := ⟨_, hid rfl⟩
            have hz1s : z1.size = 64 := by rw [ba_size, hz1.out, ba_mk, hlook]
            have hrd := sd_read (St.pull HH.out 2 rfl) (I : Int)
            rw [hread, ← hz1.out] at hrd
            clear hread hlook
            have hIi : (I : Int) ≤ 65536 := by omega
            go_wp2_with (first
              | (go_at_call 75; refine hrd.mono ?_; rintro e w7 ⟨rfl, H7, P7⟩; have H7 := hid H7; have c4' := (St.obj H7.out 2 rfl).cell 4; have X7 := St.sl H7.out 1 rfl; simp only [rawCells, List.getElem?_cons_succ, List.getElem?_cons_zero] at c4')
              | ((with_reducible refine at_append ?_); go_must (refine wpL_app rfl (.tmp 115) (.tmp 116) 122 9 rfl 5 i _ 1 Tryz.underlying122 HI.out.1 HI.out.2.1 HI.out.2.2.1 rfl (.slice av L cv) L _ rfl X7 z1.size _ (Src.text Tryz.underlying9 z1) (by simp only [maxLen]; omega) (by rw [HI.out.2.2.2]; omega) ?_); intro v8 w8 Y1 Y2 Y3; have H8 := hid (St.grow H7.out 1 rfl Y1 Y2 Y3); obtain ⟨a8, cap8, rfl, -, -⟩ := Y1.shape; have c8 := (St.obj H8.out 2 rfl).cell 4; have f8 := (St.obj H8.out 2 rfl).frozen 4; simp only [rawCells, List.getElem?_cons_succ, List.getElem?_cons_zero] at c8; clear Y1 Y2 Y3))
            go_roundw
            case rel =>
              refine ⟨k + 1, .slice a8 (L + 64) cap8, by have := hI.out; go_num, by omega, .inr (by have := hL.out; omega), ?_⟩
              have h9 := St.set H8.out 2 rfl 4 (.slice a8 (L + z1.size) cap8)
              have h10 := (h9.pull 2 rfl).pull 2 rfl
              have e1 : (sectorsB σ (B + 1) k).map byteV ++ z1.data.toList.map byteV = (sectorsB σ (B + 1) (k + 1)).map byteV := by
                rw [sectorsB_succ, List.map_append, hz1.out, ba_mk, hI.out]
              have e2 : L + 64 = 64 * (k + 1) := by have := hL.out; omega
              rw [hz1s] at h10
              unfold OpenMid
              rw [← e1, ← e2]
              exact h10
            case measure => simp [intOf]; omega
          · have hlt' : ¬ (L : Int) < (Ln : Int) := by omega
            have HDone := hid (show (((sectorsB σ (B + 1) (N - 1)).take Ln) = (sectorsB σ (B + 1) k).take Ln) from sectorsB_take OK.out (B + 1) (by rw [HZ.out]; omega) hk (by have := hL.out; omega))
            obtain ⟨by', hby⟩ : ∃ x, Hid ((sectorsB σ (B + 1) k).take Ln = x) := ⟨_, hid rfl⟩
            have hbyl : by'.length = Ln := by rw [← hby.out, List.length_take, hsl]; have := hL.out; omega
            rw [hby.out] at HDone
            have hF3 := HF.out
            rw [HDone.out] at hF3
            have HF := hid hF3
            clear hF3
            have hcut := Rd.cut (St.sl HH.out 0 rfl) (m := Ln) (by omega)
            rw [← List.map_take, hby.out] at hcut
            have hav : Ln ≠ 0 → ∃ g, av = some ⟨g, 0, none⟩ := by
              intro hne
              obtain ⟨g, cg, cur, e1, -⟩ := (St.sl HH.out 0 rfl).get (by omega)
              cases e1
              exact ⟨g, rfl⟩
            have f4 := (St.obj HH.out 1 rfl).frozen 4
            have HA : St w0 (wr.setCell ⟨b, 4, none⟩ (.slice av Ln Ln)) (objP b (rawCells d B N E (.slice av Ln Ln) (.slice none 0 0) (.slice none 0 0)) 124 :: rdP (.slice av Ln Ln) 5 (by'.map byteV) :: diskP d σ :: ps) := by
              have h1 := (HH.out.see (q := rdP (.slice av Ln Ln) 5 (by'.map byteV)) (fun fp h => ⟨h.1.trans (by cases av <;> rfl), by have := Rd.cut h.2 (m := Ln) (by omega); rwa [← List.map_take, hby.out] at this⟩))
              have h2 := h1.set 1 rfl 4 (.slice av Ln Ln)
              exact h2.pull 1 rfl
            go_wp2_with (first
              | ((with_reducible refine at_cut ?_); refine wpL_val rfl (.slice av Ln Ln) (run_cut rfl rfl rfl rfl (by omega) hav) ?_)
              | ((with_reducible refine at_conv ?_); refine wpL_val rfl (.string ⟨by'.toArray⟩) (run_bytes_rd rfl rfl (St.rd HA 1 rfl)) ?_))
            have HS : SplitMid w0 (wr.setCell ⟨b, 4, none⟩ (.slice av Ln Ln)) ps b d σ B N E (.slice av Ln Ln) by' (.slice none 0 0) [] := (HA.nil 9 1)
            clear HA f4 hcut hav c4 HH hsl
            obtain ⟨j, hj, hjz, hjs, hjb⟩ := info_str
            have HJ := hid (And.intro hj (And.intro hjz (And.intro hjs hjb)))
            clear hj hjz hjs hjb
            have hLn2 : Ln ≤ 4194304 := by omega
            go_loopw [16] (fun bvv wr => ∃ (zr : ByteArray) (done : List (List UInt8)) (rv : Value), bvv = .string zr ∧ Splits by' done zr.data.toList ∧ SplitMid w0 wr ps b d σ B N E (.slice av Ln Ln) by' rv done) (fun bvv _ => strLen bvv)
            case atStart => exact ⟨_, _, _, rfl, by rw [ba_mk]; exact Splits.start by', HS⟩
            case round =>
              obtain ⟨zr, done, rv, rfl, hsp, hM⟩ := hrel
              clear HS
              have HH := hid hM
              have HSP := hid hsp
              clear hM hsp
              by_cases hne : zr.data.toList = []
              · obtain rfl : zr = ⟨#[]⟩ := ba_ext (by rw [hne])
                have hF3 := HF.out
                rw [(show Splits by' done [] from HSP.out).done] at hF3
                subst hF3
                clear HF
                go_wp2
                go_ret2
                refine ⟨b, rfl, ?_⟩
                obtain ⟨hfr, hall⟩ := splitN_some _ _ _ (show Splits by' done [] from HSP.out).done
                refine log_close (l := ⟨B, N, E, by', done, [], false⟩) ⟨by simp only []; omega, by simp only []; omega, by simp only []; omega, by simp only []; omega, by simp only [frames, List.flatMap_nil, List.length_nil]; omega, hfr, hall, by simp⟩ (bv := .slice av Ln Ln) (rv := rv) (wv := .slice none 0 0) ?_
                have h1 := HH.out.nil 9 1
                exact ((h1.pull 1 rfl).pull 3 rfl).pull 3 rfl |>.pull 0 rfl
              · have hzz : ¬ zr = ⟨#[]⟩ := fun e => hne (by rw [e])
                have hz0 : zr.toList.isEmpty = false := by
                  rw [ByteArray.toList_eq]
                  cases hq : zr.data.toList with
                  | nil => exact absurd hq hne
                  | cons => rfl
                obtain ⟨hrl, hdl⟩ : zr.data.toList.length ≤ by'.length ∧ 8 * done.length ≤ by'.length := by
                  obtain ⟨f, -, -, h3⟩ := HSP.out
                  omega
                have hzrl : zr.size = zr.data.toList.length := ba_size zr
                have hun := wal_unframe zr wr (hh.pres (St.pres HH.out)) (by omega)
                cases hu : unframeB zr.data.toList with
                | none =>
                  have hun2 := hun.mono (R' := fun e w' => (∃ x y, e = .returned (.tuple #[.string x, .int .i64 y, .bool false])) ∧ Pres [] wr w') (fun e w' h => ⟨by have := h.1; unfold Unframed at this; rw [hu] at this; exact this, h.2⟩)
                  have hF3 := HF.out
                  rw [HSP.out.bad hne hu] at hF3
                  subst hF3
                  clear HF hun hu hrl hdl hzrl hzz hne
                  go_wp2_with (go_at_call 79; refine hun2.mono ?_; rintro e w9 ⟨⟨x, y, rfl⟩, P9⟩)
                  go_ret2
                  exact ⟨rfl, ((St.quiet HH.out P9).drop).drop.drop⟩
                | some rk =>
                  obtain ⟨r, kk⟩ := rk
                  obtain ⟨zc, hzc⟩ : ∃ z : ByteArray, Hid (z = ⟨r.toArray⟩) := ⟨_, hid rfl⟩
                  have hun2 := hun.mono (R' := fun e w' => e = .returned (.tuple #[.string zc, .int .i64 (kk : Int), .bool true]) ∧ Pres [] wr w') (fun e w' h => ⟨by have := h.1; unfold Unframed at this; rw [hu] at this; rw [this, hzc.out], h.2⟩)
                  have hnx := hid (HSP.out.next hne hu)
                  obtain ⟨hk8, hkk, -, -⟩ := unframeB_some hu
                  have hk0 : 0 < kk := by omega
                  have hkk' : (kk : Int) ≤ (zr.size : Int) := by omega
                  obtain ⟨arv, crv, rfl, -, -⟩ := (St.sl HH.out 0 rfl).shape
                  clear hun hu hzz hrl hne hzrl hk8
                  go_wp2_with (first
                    | (go_at_call 79; refine hun2.mono ?_; rintro e w9 ⟨rfl, P9⟩; have H9 := hid (St.quiet HH.out P9); have c5 := (St.obj H9.out 1 rfl).cell 5; have hLt := (St.obj H9.out 1 rfl).lt; simp only [rawCells, List.getElem?_cons_succ, List.getElem?_cons_zero] at c5; have A3 := At.new w9 [.string zc] 9; have H3 := hid (St.quiet H9.out ((Pres.refl [] w9).alloc (.cells #[.string zc] 9))); have X3 := St.sl H3.out 0 rfl)
                    | ((with_reducible refine at_append ?_); go_must (refine wpL_app rfl (.tmp 149) (.tmp 151) 91 91 rfl 9 j _ 1 Tryz.underlying91 HJ.out.1 HJ.out.2.1 HJ.out.2.2.1 rfl (.slice arv done.length crv) done.length _ rfl X3 1 [.string zc] (Src.at Tryz.underlying91 A3 rfl (by simp [Value.oneCell'])) (by simp only [maxLen]; omega) (by rw [HJ.out.2.2.2]; omega) ?_); intro v5 w5 Y1 Y2 Y3; have H5 := hid (St.grow H3.out 0 rfl Y1 Y2 Y3); obtain ⟨ao5, cap5, rfl, -, -⟩ := Y1.shape; have f5 := (St.obj H5.out 1 rfl).frozen 5; have c5' := (St.obj H5.out 1 rfl).cell 5; simp only [rawCells, List.getElem?_cons_succ, List.getElem?_cons_zero] at c5'; clear Y1 Y2 Y3))
                  go_roundw
                  case rel =>
                    refine ⟨_, done ++ [r], .slice ao5 (done.length + 1) cap5, rfl, ?_, ?_⟩
                    · have := hnx.out
                      have e1 : ∀ n, zr.size ≤ n → (zr.extract kk n).data.toList = zr.data.toList.drop kk := fun n hn => by rw [ba_take, List.take_of_length_le (by rw [← ba_size]; omega)]
                      rw [e1 _ (Nat.le_refl _)]
                      exact this
                    · have h1 := St.set H5.out 1 rfl 5 (.slice ao5 (done.length + 1) cap5)
                      have e1 : strV r = .string zc := by unfold strV; rw [hzc.out]
                      unfold SplitMid
                      simp only [List.length_append, List.length_cons, List.length_nil, List.map_append, List.map_cons, List.map_nil, e1]
                      exact h1
                  case measure =>
                    show (zr.extract kk zr.size).size < zr.size
                    rw [ByteArray.size_extract]
                    omega
      · have hzz : ¬ z = zh := fun e => a3 (by rw [← HL.out.1, e, hzh.out, ba_mk])
        have hzne2 := toList_ne hzz
        have hF3 := HF.out
        rw [if_pos (by exact .inr (.inr a3))] at hF3
        subst hF3
        clear HF
        go_wp2_with (first | (go_at_call 77; refine (hv2 _).mono ?_; rintro e w6 ⟨rfl, rfl⟩) | (go_at_call 78; refine (hhd _ (hh.pres HD.out.pres)).mono ?_; rintro e w6 ⟨rfl, P6⟩))
        go_ret2
        exact ⟨rfl, (HD.out.quiet P6).drop⟩
  · rw [hdown] at hdn hF2
    simp only [if_true] at hF2
    subst hF2
    go_enter Tryz.func41, Tryz.ntmps41
    go_wp2_with (first | (go_at_call 62; refine (hsz _ rfl).mono ?_; rintro e w' ⟨rfl, rfl⟩) | (go_at_call 33; refine (hdn _ rfl).mono ?_; rintro e w' ⟨rfl, rfl⟩))
    go_ret2
    exact ⟨rfl, HX.out⟩

end Go.Proofs.YtnffnpndnaofhaaGreatDoor
