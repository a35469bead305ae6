/- Parts of the proof: wal.Open on a disk: it comes to openLg; conditions stand in the theorem. -/
import Derived.Test.YtnffnpndnaofhaaGreatDoorQae
import Derived.Maps.RangeWalk

/- wal.Open on a disk: it comes to openLg; conditions stand in the theorem. -/
namespace Go.Proofs.YtnffnpndnaofhaaGreatDoor
open Go.RowKit
set_option maxRecDepth 100000

/-- How Open ends. -/
def OpenEnd (w0 w' : World) (ps : List HP) (d : Nat) (σ : Dk) (en : Ending) : Int × Option Lg → Prop
  | (e, none) => en = .returned (.tuple #[.pointer none, .int .i64 e]) ∧ St w0 w' (diskP d σ :: ps)
  | (e, some l) => ∃ b, en = .returned (.tuple #[.pointer (some ⟨b, 0, none⟩), .int .i64 e]) ∧ St w0 w' (logP b d l :: diskP d σ :: ps)

theorem Dk.look_len {σ : Dk} (ok : σ.Ok) {i : Nat} (h : i < σ.kept.length) : (σ.look i).length = 64 := Dk.look_length ok h

theorem sectorsB_length {σ : Dk} (ok : σ.Ok) (a : Nat) : ∀ c, a + c ≤ σ.kept.length → (sectorsB σ a c).length = 64 * c
  | 0, _ => by simp [sectorsB]
  | c + 1, h => by
    rw [sectorsB_succ, List.length_append, sectorsB_length ok a c (by omega), Dk.look_length ok (by omega)]
    omega

theorem sectorsB_take {σ : Dk} (ok : σ.Ok) (a : Nat) {c m k : Nat} (h : a + m ≤ σ.kept.length) (hc : c ≤ m) (hk : k ≤ 64 * c) : (sectorsB σ a m).take k = (sectorsB σ a c).take k := by
  have h1 : sectorsB σ a m = sectorsB σ a c ++ (List.range (m - c)).flatMap fun i => σ.look (a + (c + i)) := by
    unfold sectorsB
    have : List.range m = List.range c ++ (List.range (m - c)).map (c + ·) := by
      conv => lhs; rw [show m = c + (m - c) by omega, List.range_add]
    rw [this, List.flatMap_append]
    simp [List.flatMap_map]
  have h2 := sectorsB_length ok a c (by omega)
  rw [h1, List.take_append_of_le_length (by omega)]

theorem read_has {σ : Dk} (hd : σ.down = false) {i : Nat} (h : i < σ.kept.length) : σ.read (i : Int) = (σ.look i, 0) := by
  unfold Dk.read
  rw [hd]
  simp only [Bool.false_eq_true, if_false]
  rw [if_pos (by simp [Dk.has]; omega)]
  simp

theorem Lg.start_ok {B N : Nat} (h2 : 2 ≤ N) (h3 : N ≤ 65536) (h4 : B ≤ 65536) : Lg.Ok ⟨B, N, 0, [], [], [], false⟩ :=
  ⟨h2, h3, h4, by simp, by simp [frames], by simp [frames], by simp, by simp⟩

theorem splitN_some : ∀ (f : Nat) (b : List UInt8) (l : List (List UInt8)), splitN f b = some l → b = frames l ∧ ∀ r ∈ l, r.length ≤ 65536
  | 0, b, l, h => by
    unfold splitN at h
    split at h
    · cases h; rename_i e; exact ⟨e, by simp⟩
    · cases h
  | f + 1, b, l, h => by
    unfold splitN at h
    split at h
    · cases h; rename_i e; exact ⟨e, by simp⟩
    split at h
    · cases h
    · rename_i r k hu
      obtain ⟨rfl, h2, h3, h4⟩ := unframeB_some hu
      cases hr : splitN f (b.drop (8 + r.length)) with
      | none => rw [hr] at h; cases h
      | some l' =>
        rw [hr] at h
        cases h
        obtain ⟨e, hm⟩ := splitN_some f _ _ hr
        refine ⟨?_, ?_⟩
        · rw [show frames (r :: l') = frameB r ++ frames l' from rfl, ← e]
          exact h3
        · intro x hx
          simp only [List.mem_cons] at hx
          rcases hx with rfl | hx
          · exact h4
          · exact hm x hx

theorem splitN_nil (f : Nat) : splitN f [] = some [] := by cases f <;> rfl

theorem splitN_step {f : Nat} {b : List UInt8} (hb : b ≠ []) (hf : b.length ≤ f) : splitN f b = match unframeB b with
    | none => none
    | some (r, k) => (splitN (f - 1) (b.drop k)).map (r :: ·) := by
  have : 0 < b.length := List.length_pos_iff.2 hb
  obtain ⟨g, rfl⟩ : ∃ g, f = g + 1 := ⟨f - 1, by omega⟩
  rw [splitN, if_neg hb]
  rfl

/-- The round's word on what is to come: what is done, and the rest, make the whole. -/
def Splits (bytes : List UInt8) (done : List (List UInt8)) (rest : List UInt8) : Prop :=
  ∃ f, rest.length ≤ f ∧ splitB bytes = (splitN f rest).map (done ++ ·) ∧ 8 * done.length + rest.length ≤ bytes.length

theorem Splits.start (bytes : List UInt8) : Splits bytes [] bytes := ⟨_, Nat.le_refl _, by unfold splitB; cases splitN bytes.length bytes <;> simp, by simp⟩

theorem Splits.done {bytes : List UInt8} {done : List (List UInt8)} (h : Splits bytes done []) : splitB bytes = some done := by
  obtain ⟨f, -, h2, -⟩ := h
  rw [h2, splitN_nil]
  simp

theorem Splits.bad {bytes : List UInt8} {done : List (List UInt8)} {rest : List UInt8} (h : Splits bytes done rest) (hne : rest ≠ []) (hu : unframeB rest = none) : splitB bytes = none := by
  obtain ⟨f, h1, h2, -⟩ := h
  rw [h2, splitN_step hne h1, hu]
  rfl

theorem Splits.next {bytes : List UInt8} {done : List (List UInt8)} {rest r : List UInt8} {k : Nat} (h : Splits bytes done rest) (hne : rest ≠ []) (hu : unframeB rest = some (r, k)) : Splits bytes (done ++ [r]) (rest.drop k) := by
  obtain ⟨f, h1, h2, h3⟩ := h
  obtain ⟨rfl, h5, -, -⟩ := unframeB_some hu
  refine ⟨f - 1, by rw [List.length_drop]; omega, ?_, ?_⟩
  · rw [h2, splitN_step hne h1, hu]
    simp only
    cases splitN (f - 1) (rest.drop (8 + r.length)) <;> simp
  · rw [List.length_drop, List.length_append, List.length_singleton]
    omega

/-- An operation that gives a value and leaves the world. -/
theorem wpL_val {P : Program} {ops : Array Oper} {rest : List Oper} {o : Oper} {a : Act} {w : World} {Q : Exit → Act → World → Prop} (hgd : o.guard = none) (v : Value) (h : (execOp a.eval o).run P w = .ok (.value v) w)
    (hk : wpList P ops Q rest (a.put o.dst v) w) : wpList P ops Q (o :: rest) a w :=
  wpList_plain hgd fun _ hK => wp_value h (hK _ _ hk)

theorem at_cut {P : Program} {ops : Array Oper} {rest : List Oper} {a : Act} {w : World} {Q : Exit → Act → World → Prop} {d : Option Tmp} {ty : TypeId} {pos : String} {af : Array Edge} {g : Option (Nat × Bool)} {t : TypeId} {x : Operand} {lo hi mx : Option Operand} (h : wpList P ops Q (⟨d, .slice t x lo hi mx, ty, pos, af, g⟩ :: rest) a w) : wpList P ops Q (⟨d, .slice t x lo hi mx, ty, pos, af, g⟩ :: rest) a w := h

theorem run_cut {w : World} {o : Oper} {a : Act} {x y z : Operand} (ho : o.op = .slice 122 x none (some y) (some z)) {av : Option Addr} {n cap m : Nat} (hx : a.eval x = .slice av n cap) (hy : a.eval y = .int .u64 (m : Int)) (hz : a.eval z = .int .u64 (m : Int)) (hm : m ≤ cap) (h0 : m ≠ 0 → ∃ g, av = some ⟨g, 0, none⟩) :
    (execOp a.eval o).run Tryz.prog w = .ok (.value (.slice av m m)) w := by
  have hr := run_slice_hm (P := Tryz.prog) w 122 av n cap (by kernel_rfl) .u64 .u64 (m : Int) (m : Int) (by omega) (by omega) (by omega)
  have hs : (sizeOf (Tryz.prog.elem 122)).run Tryz.prog w = .ok 1 w := by kernel_rfl
  have hq : ∀ x lo hi mx, (Instr.sliceAt 122 x lo hi mx).run Tryz.prog w = (Instr.slice 122 x lo hi mx).run Tryz.prog w := fun x lo hi mx => run_sliceAt_slice (P := Tryz.prog) w 122 x lo hi mx (by kernel_rfl)
  unfold execOp
  simp only [ho, hx, hy, hz, Option.map_some, Option.map_none, Sem.run_bind, Sem.run_pure, hq, hr, hs, Result.andThen_ok, sliced, Int.toNat_natCast]
  by_cases e : m = 0
  · subst e; simp
  · obtain ⟨g, rfl⟩ := h0 e
    rw [if_neg e]
    simp [Addr.add]

theorem run_bytes_rd {w : World} {o : Oper} {a : Act} {x : Operand} (ho : o.op = .convert 122 9 x) {v : Value} (hx : a.eval x = v) {bs : List UInt8} (h : Rd w 5 v (bs.map byteV)) :
    (execOp a.eval o).run Tryz.prog w = .ok (.value (.string ⟨bs.toArray⟩)) w := by
  rcases h with ⟨rfl, h1⟩ | ⟨g, cap, cur, rfl, hg, h1, h2, h3⟩
  · have hb : bs = [] := by cases bs with | nil => rfl | cons => cases h1
    subst hb
    have hr := run_convert_bytes_nil (P := Tryz.prog) w 122 5 Tryz.underlying122 Tryz.underlying5 0 0 9 Tryz.underlying9
    unfold execOp
    simp only [ho, hx, Sem.run_bind, Sem.run_pure, Result.andThen_ok, hr]
    rfl
  · rw [List.length_map] at h1 h3 hx
    have hr := run_bytes_string (P := Tryz.prog) (w := w) (src := 122) (dst := 9) Tryz.underlying122 Tryz.underlying5 Tryz.underlying9 (b := g) (off := 0) (len := bs.length) (cap := cap) (bs := bs) rfl (by
      rw [← h3]
      have := hg.piece 0 bs.length
      simpa using this)
    unfold execOp
    simp only [ho, hx, Sem.run_bind, Sem.run_pure, Result.andThen_ok, hr]

theorem Rd.cut {w : World} {E : TypeId} {av : Option Addr} {n cap m : Nat} {xs : List Value} (h : Sl w E 1 (.slice av n cap) n xs) (hm : m ≤ n) : Rd w E (.slice av m m) (xs.take m) := by
  have hl : xs.length = n := by have := h.1; omega
  have hx : (xs.take m).length = m := by rw [List.length_take]; omega
  rcases h.2 with ⟨e, rfl⟩ | ⟨g, cap', cur, e, hg, h1, h2, h3, h4⟩
  · obtain rfl : m = 0 := by omega
    cases e
    exact .inl ⟨rfl, rfl⟩
  · cases e
    refine .inr ⟨g, m, cur, by rw [hx], hg, by omega, by omega, ?_⟩
    rw [hx, ← h4, List.take_take]
    congr 1
    omega

/-- A new log's own cells. -/
def rawCells (d : Nat) (B N e : Nat) (bv rv wv : Value) : List Value :=
  [.pointer (some ⟨d, 0, none⟩), .int .i64 (B : Int), .int .i64 (N : Int), .int .i64 (e : Int), bv, rv, wv, .bool false]

/-- What holds at the head of a round of the first loop: k sectors are read. -/
def OpenMid (w0 wr : World) (ps : List HP) (b d : Nat) (σ : Dk) (B N E : Nat) (v : Value) (k : Nat) : Prop :=
  St w0 wr (slP v 5 1 (64 * k) ((sectorsB σ (B + 1) k).map byteV) :: objP b (rawCells d B N E v (.slice none 0 0) (.slice none 0 0)) 124 :: diskP d σ :: ps)

/-- What holds at the head of a round of the second loop: done are the records so far. -/
def SplitMid (w0 wr : World) (ps : List HP) (b d : Nat) (σ : Dk) (B N E : Nat) (bv : Value) (bytes : List UInt8) (rv : Value) (done : List (List UInt8)) : Prop :=
  St w0 wr (slP rv 9 1 done.length (done.map strV) :: objP b (rawCells d B N E bv rv (.slice none 0 0)) 124 :: rdP bv 5 (bytes.map byteV) :: diskP d σ :: ps)

def strLen : Value → Nat
  | .string s => s.size
  | _ => 0

set_option maxHeartbeats 4000000 in
theorem wal_open {w0 w : World} {ps : List HP} {d : Nat} {σ : Dk} (hh : HalfAt w0) (H : St w0 w (diskP d σ :: ps)) (base n : Int)
    (hb0 : -9223372036854775808 ≤ base) (hb1 : base ≤ 9223372036854775807) (hn0 : -9223372036854775808 ≤ n) (hn1 : n ≤ 9223372036854775807) :
    Calls Tryz.prog 41 #[.pointer (some ⟨d, 0, none⟩), .int .i64 base, .int .i64 n] w fun en w' => OpenEnd w0 w' ps d σ en (openLg σ base n) := by
  have ok := sd_ok H
  have hpos := ok.pos
  have hmost := ok.most
  have hsz := fun W (hW : W = w) => hW ▸ sd_size H
  have hdn := fun W (hW : W = w) => hW ▸ sd_down H
  have hne : ((σ.kept.length : Int) == 0) = false := by rw [beq_eq_false_iff_ne]; omega
  have HX := hid H
  have OK := hid ok
  obtain ⟨F, hF⟩ : ∃ F, Hid (openLg σ base n = F) := ⟨_, hid rfl⟩
  rw [hF.out]
  have hF2 := hF.out
  unfold openLg at hF2
  clear hF H ok
  obtain ⟨sz, hszd⟩ : ∃ sz, σ.kept.length = sz := ⟨_, rfl⟩
  rw [hszd] at hpos hmost hsz hne hF2
  have HZ := hid hszd
  clear hszd
  cases hdown : σ.down
  · rw [hdown] at hdn hF2
    simp only [Bool.false_eq_true, if_false] at hF2
    have HDN := hid hdown
    clear hdown
    by_cases b1 : n < 2
    · rw [if_pos (by omega)] at hF2
      subst hF2
      go_enter Tryz.func41, Tryz.ntmps41
      go_wp2_with (first | (go_at_call 62; refine (hsz _ rfl).mono ?_; rintro e w' ⟨rfl, rfl⟩) | (go_at_call 33; refine (hdn _ rfl).mono ?_; rintro e w' ⟨rfl, rfl⟩))
      go_ret2
      exact ⟨rfl, HX.out⟩
    by_cases b2 : base < 0
    · rw [if_pos (by omega)] at hF2
      subst hF2
      go_enter Tryz.func41, Tryz.ntmps41
      go_wp2_with (first | (go_at_call 62; refine (hsz _ rfl).mono ?_; rintro e w' ⟨rfl, rfl⟩) | (go_at_call 33; refine (hdn _ rfl).mono ?_; rintro e w' ⟨rfl, rfl⟩))
      go_ret2
      exact ⟨rfl, HX.out⟩
    by_cases b3 : (sz : Int) < base
    · rw [if_pos (by omega)] at hF2
      subst hF2
      go_enter Tryz.func41, Tryz.ntmps41
      go_wp2_with (first | (go_at_call 62; refine (hsz _ rfl).mono ?_; rintro e w' ⟨rfl, rfl⟩) | (go_at_call 33; refine (hdn _ rfl).mono ?_; rintro e w' ⟨rfl, rfl⟩))
      go_ret2
      exact ⟨rfl, HX.out⟩
    by_cases b4 : (sz : Int) - base < n
    · rw [if_pos (by omega)] at hF2
      subst hF2
      go_enter Tryz.func41, Tryz.ntmps41
      go_wp2_with (first | (go_at_call 62; refine (hsz _ rfl).mono ?_; rintro e w' ⟨rfl, rfl⟩) | (go_at_call 33; refine (hdn _ rfl).mono ?_; rintro e w' ⟨rfl, rfl⟩))
      go_ret2
      exact ⟨rfl, HX.out⟩
    rw [if_neg (by omega)] at hF2
    obtain ⟨B, rfl⟩ : ∃ B : Nat, base = (B : Int) := ⟨base.toNat, by omega⟩
    obtain ⟨N, rfl⟩ : ∃ N : Nat, n = (N : Int) := ⟨n.toNat, by omega⟩
    simp only [Int.toNat_natCast] at hF2
    have hB : B < sz := by omega
    have hBN : B + N ≤ sz := by omega
    have hread := read_has HDN.out (σ := σ) (i := B) (by rw [HZ.out]; omega)
    have hlook := Dk.look_length OK.out (i := B) (by rw [HZ.out]; omega)
    have HF := hid hF2
    clear hF2
    obtain ⟨s, hs⟩ : ∃ s, Hid (σ.look B = s) := ⟨_, hid rfl⟩
    rw [hs.out] at hread hlook
    obtain ⟨z, hz⟩ : ∃ z : ByteArray, Hid (z = ⟨s.toArray⟩) := ⟨_, hid rfl⟩
    have hzl : z.data.toList = s := by rw [hz.out, ba_mk]
    have hzs : z.size = 64 := by rw [ba_size, hzl, hlook]
    have HL := hid (And.intro hzl hlook)
    clear hzl hlook
    have HRD := hid hread
    obtain ⟨z0, hz0⟩ : ∃ z : ByteArray, Hid (z = ⟨(List.replicate 64 (0 : UInt8)).toArray⟩) := ⟨_, hid rfl⟩
    have hz0s : z0.size = 64 := by rw [ba_size, hz0.out, ba_mk, List.length_replicate]
    have hrep := fun W => repeat_nought 64 W (by omega)
    rw [← hz0.out] at hrep
    have hv1 := fun W => wal_value (z.extract 4 12) W (by rw [ByteArray.size_extract]; omega)
    have hv2 := fun W => wal_value (z.extract 12 16) W (by rw [ByteArray.size_extract]; omega)
    have e1 : (z.extract 4 12).data.toList = (s.drop 4).take 8 := by rw [ba_take, HL.out.1, List.drop_take]
    have e2 : (z.extract 12 16).data.toList = (s.drop 12).take 4 := by rw [ba_take, HL.out.1, List.drop_take]
    have l1 := valLE_lt ((s.drop 4).take 8)
    have l2 := valLE_lt ((s.drop 12).take 4)
    have g1 : ((s.drop 4).take 8).length = 8 := by rw [List.length_take, List.length_drop, HL.out.2]; rfl
    have g2 : ((s.drop 12).take 4).length = 4 := by rw [List.length_take, List.length_drop, HL.out.2]; rfl
    rw [g1] at l1
    rw [g2] at l2
    rw [e1] at hv1
    rw [e2] at hv2
    obtain ⟨E, hE⟩ : ∃ E, Hid (valLE ((s.drop 4).take 8) = E) := ⟨_, hid rfl⟩
    obtain ⟨Ln, hLn⟩ : ∃ Ln, Hid (valLE ((s.drop 12).take 4) = Ln) := ⟨_, hid rfl⟩
    rw [hE.out] at hv1 l1
    rw [hLn.out] at hv2 l2
    clear e1 e2 g1 g2
    clear hread
    go_enter Tryz.func41, Tryz.ntmps41
    go_wp2_with (first
      | (go_at_call 62; refine (hsz _ rfl).mono ?_; rintro e w' ⟨rfl, rfl⟩)
      | (go_at_call 33; refine (hdn _ rfl).mono ?_; rintro e w' ⟨rfl, rfl⟩))
    have H1 := hid ((HX.out.alloc (rawCells d B N 0 (.slice none 0 0) (.slice none 0 0) (.slice none 0 0)) 124).pull 1 rfl)
    have hrd := sd_read H1.out (B : Int)
    rw [HRD.out, ← hz.out] at hrd
    unfold rawCells at H1 hrd
    clear hsz hdn HX
    generalize w.heap.size = b at *
    generalize (w.alloc _) = wa at *
    refine hrd.mono ?_
    rintro en w1 ⟨rfl, H2, P2⟩
    clear hrd H1
    go_wp2_with fail
    refine (hrep _).mono ?_
    rintro en w2 ⟨rfl, P3⟩
    have H3 := hid (H2.quiet P3)
    clear H2 P2 P3 hrep
    by_cases hzero : s = List.replicate 64 0
    · have hzz : z = z0 := by rw [hz.out, hz0.out, hzero]
      subst hzz
      have hF3 := HF.out
      rw [if_pos (by rw [hs.out]; exact hzero)] at hF3
      subst hF3
      clear HF
      go_wp2
      go_ret2
      refine ⟨b, rfl, ?_⟩
      have h1 := ((((H3.out.pull 1 rfl).nil 9 1).nil 9 1).nil 5 1).see (q := rdP (.slice none 0 0) 5 []) (fun fp h => ⟨h.1, Rd.of_sl h.2⟩)
      have h2 := h1.pull 3 rfl
      exact log_close (l := ⟨B, N, 0, [], [], [], false⟩) (Lg.start_ok (by omega) (by omega) (by omega)) (bv := .slice none 0 0) (rv := .slice none 0 0) (wv := .slice none 0 0) h2
    · have hzz : ¬ z = z0 := fun e => hzero (by rw [← HL.out.1, e, hz0.out, ba_mk])
      have hzne := toList_ne hzz
      have hF3 := HF.out
      rw [if_neg (by rw [hs.out]; exact hzero), hs.out] at hF3
      simp only [hE.out, hLn.out] at hF3
      have HF := hid hF3
      have hEi : (E : Int) < 18446744073709551616 := by omega
      have hLi : (Ln : Int) < 4294967296 := by omega
      clear hF3 hzz hzero
      go_upto_region 11 with fail
      refine wp_stages (by kernel_rfl) ?_
      refine wp_stage (fun W => W = w2.drew) [(0, true), (1, true), (3, true), (4, true), (2, false)] 3 rfl (by kernel_rfl) (by intro c a dd v w h; cases dd <;> exact h) (rfl) ?_
      clear hne
      have hsl : ∀ (W : World) (i j : Int), 0 ≤ i → i ≤ j → j ≤ 64 → (Instr.slice 9 (.string z) (some (.int .i64 i)) (some (.int .i64 j)) none).run Tryz.prog W = .ok (.string (z.extract i.toNat j.toNat)) W := by
        intro W i j h0 h1 h2
        rw [run_slice_string_if W _ z .i64 .i64 i j Tryz.underlying9, if_pos (by omega), if_pos (by omega)]
      (refine wpOrd_readw (v := _) rfl rfl (by intro w' hS; subst hS; go_simp; rfl) ?_; (try simp only [Act.put, List.setIfInBounds_toArray, List.set_cons_succ, List.set_cons_zero, List.getElem_toArray, List.getElem_cons_succ, List.getElem_cons_zero]))
      refine wpOrd_readw (v := .string (z.extract 4 12)) rfl rfl (by intro w' hS; subst hS; unfold execOp; simp only [Act.eval, hsl _ 4 12 (by decide) (by decide) (by decide)]; go_simp) ?_
      (try simp only [Act.put, List.setIfInBounds_toArray, List.set_cons_succ, List.set_cons_zero, List.getElem_toArray, List.getElem_cons_succ, List.getElem_cons_zero])
      (refine wpOrd_readw (v := _) rfl rfl (by intro w' hS; subst hS; go_simp; rfl) ?_; (try simp only [Act.put, List.setIfInBounds_toArray, List.set_cons_succ, List.set_cons_zero, List.getElem_toArray, List.getElem_cons_succ, List.getElem_cons_zero]))
      refine wpOrd_readw (v := .string (z.extract 12 16)) rfl rfl (by intro w' hS; subst hS; unfold execOp; simp only [Act.eval, hsl _ 12 16 (by decide) (by decide) (by decide)]; go_simp) ?_
      (try simp only [Act.put, List.setIfInBounds_toArray, List.set_cons_succ, List.set_cons_zero, List.getElem_toArray, List.getElem_cons_succ, List.getElem_cons_zero])
      refine wpOrd_dow rfl rfl (fun K hK => ?_)
      go_simp
      refine (hv1 _).mono ?_
      rintro e w6 ⟨rfl, rfl⟩
      refine hK _ _ ⟨rfl, ?_⟩
      clear hK K
      (try simp only [Act.put, List.setIfInBounds_toArray, List.set_cons_succ, List.set_cons_zero, List.getElem_toArray, List.getElem_cons_succ, List.getElem_cons_zero])
      refine wpOrd_end ?_
      refine wp_stages_end 5 (by rfl) (by kernel_rfl) ?_
      simp only [List.drop_succ_cons, List.drop_zero]
      have HD := hid (H3.out.drew.pull 1 rfl)
      generalize w2.drew = wd at *
      clear hv1 hsl H3
      have hN1 : (64 : Int) * ((N : Int) - 1) < 18446744073709551616 := by omega
      by_cases a1 : 4611686018427387904 < E
      · have hF3 := HF.out
        rw [if_pos (by omega)] at hF3
        subst hF3
        have a1' : (4611686018427387904 : Int) < (E : Int) := by omega
        clear HF
        go_wp2_with (go_at_call 77; refine (hv2 _).mono ?_; rintro e w6 ⟨rfl, rfl⟩)
        go_ret2
        exact ⟨rfl, HD.out.drop⟩
      have a1' : ¬ (4611686018427387904 : Int) < (E : Int) := by omega
      by_cases a2 : 64 * (N - 1) < Ln
      · have hF3 := HF.out
        rw [if_pos (by omega)] at hF3
        subst hF3
        have a2' : (64 : Int) * ((N : Int) - 1) < (Ln : Int) := by omega
        clear HF
        go_wp2_with (go_at_call 77; refine (hv2 _).mono ?_; rintro e w6 ⟨rfl, rfl⟩)
        go_ret2
        exact ⟨rfl, HD.out.drop⟩
      have a2' : ¬ (64 : Int) * ((N : Int) - 1) < (Ln : Int) := by omega
      have hhd := fun W hW => wal_head E Ln W hW (by omega) (by omega)
      obtain ⟨zh, hzh⟩ : ∃ z : ByteArray, Hid (z = ⟨(headB E Ln).toArray⟩) := ⟨_, hid rfl⟩
      rw [← hzh.out] at hhd
      by_cases a3 : s = headB E Ln
      · have hzz : zh = z := by rw [hz.out, hzh.out, a3]
        have hF3 := HF.out
        rw [if_neg (by simp only [not_or, Classical.not_not]; exact ⟨by omega, by omega, a3⟩)] at hF3
        have HF := hid hF3
        clear hF3 a3 HL
        rw [hzz] at hhd
        clear hzz hzh
        have hE62 : (E : Int) ≤ 4611686018427387904 := by omega
        clear hzne
        have d1 : decide ((4611686018427387904 : Int) < (E : Int)) = false := decide_eq_false a1'
        have d2 : decide ((64 : Int) * ((N : Int) - 1) < (Ln : Int)) = false := decide_eq_false a2'
        clear a1' a2'
        go_wp2_with (first | (go_at_call 77; refine (hv2 _).mono ?_; rintro e w6 ⟨rfl, rfl⟩) | (go_at_call 78; refine (hhd _ (hh.pres HD.out.pres)).mono ?_; rintro e w6 ⟨rfl, P6⟩; have H6 := hid (HD.out.quiet P6); have c3 := (H6.out.obj 0 rfl).cell 3; have f3 := (H6.out.obj 0 rfl).frozen 3; simp only [rawCells, List.getElem?_cons_succ, List.getElem?_cons_zero] at c3))
        have HM : OpenMid w0 (w6.setCell ⟨b, 3, none⟩ (.int .i64 (E : Int))) ps b d σ B N E (.slice none 0 0) 0 := by
          have h1 := (H6.out.set 0 rfl 3 (.int .i64 (E : Int))).nil 5 1
          unfold OpenMid
          rw [show sectorsB σ (B + 1) 0 = [] from rfl]
          exact h1
        clear c3 f3 H6
        obtain ⟨i, hi, hiz, his, hib⟩ := info_u8
        have HI := hid (And.intro hi (And.intro hiz (And.intro his hib)))
        clear hi hiz his hib
        go_loopw [13] (fun iv wr => ∃ (k : Nat) (v : Value), iv = .int .i64 (((B + 1 + k : Nat)) : Int) ∧ k ≤ N - 1 ∧ (k = 0 ∨ 64 * (k - 1) < Ln) ∧ OpenMid w0 wr ps b d σ B N E v k) (fun iv _ => 70000 + sz - (intOf iv).toNat)
        case atStart => exact ⟨0, _, by go_num, Nat.zero_le _, .inl rfl, HM⟩
        case round =>
          obtain ⟨k, v, rfl, hk, hkl, hM⟩ := hrel
          clear HM
          have HH := hid hM
          clear hM
          obtain ⟨av, cv, rfl, hcv, hcm⟩ := (St.sl HH.out 0 rfl).shape
          have c4 := (St.obj HH.out 1 rfl).cell 4
          simp only [rawCells, List.getElem?_cons_succ, List.getElem?_cons_zero] at c4
          obtain ⟨L, hL⟩ : ∃ L, Hid (64 * k = L) := ⟨_, hid rfl⟩
          have hLb : L ≤ 4194304 := by have := hL.out; omega
          have h0 := HH.out
          unfold OpenMid at h0
          rw [hL.out] at h0 hcv c4
          have HH := hid h0
          clear h0
          obtain ⟨I, hI⟩ : ∃ I, Hid (B + 1 + k = I) := ⟨_, hid rfl⟩
          rw [hI.out]
          have hsl := sectorsB_length OK.out (B + 1) k (by rw [HZ.out]; omega)
          by_cases hlt : L < Ln
          · have hlt' : (L : Int) < (Ln : Int) := by omega
            have hkN : k < N - 1 := by have := hL.out; omega
            have hIs : I < sz := by have := hI.out; omega
            have hread := read_has HDN.out (σ := σ) (i := I) (by rw [HZ.out]; exact hIs)
            have hlook := Dk.look_length OK.out (i := I) (by rw [HZ.out]; exact hIs)
            obtain ⟨z1, hz1⟩ : ∃ z : ByteArray, Hid (z = ⟨(σ.look I).toArray⟩) := ⟨_, hid rfl⟩
            have hz1s : z1.size = 64 := by rw [ba_size, hz1.out, ba_mk, hlook]
            have hrd := sd_read (St.pull HH.out 2 rfl) (I : Int)
            rw [hread, ← hz1.out] at hrd
            clear hread hlook
            have hIi : (I : Int) ≤ 65536 := by omega
            go_wp2_with (first
              | (go_at_call 75; refine hrd.mono ?_; rintro e w7 ⟨rfl, H7, P7⟩; have H7 := hid H7; have c4' := (St.obj H7.out 2 rfl).cell 4; have X7 := St.sl H7.out 1 rfl; simp only [rawCells, List.getElem?_cons_succ, List.getElem?_cons_zero] at c4')
              | ((with_reducible refine at_append ?_); go_must (refine wpL_app rfl (.tmp 115) (.tmp 116) 122 9 rfl 5 i _ 1 Tryz.underlying122 HI.out.1 HI.out.2.1 HI.out.2.2.1 rfl (.slice av L cv) L _ rfl X7 z1.size _ (Src.text Tryz.underlying9 z1) (by simp only [maxLen]; omega) (by rw [HI.out.2.2.2]; omega) ?_); intro v8 w8 Y1 Y2 Y3; have H8 := hid (St.grow H7.out 1 rfl Y1 Y2 Y3); obtain ⟨a8, cap8, rfl, -, -⟩ := Y1.shape; have c8 := (St.obj H8.out 2 rfl).cell 4; have f8 := (St.obj H8.out 2 rfl).frozen 4; simp only [rawCells, List.getElem?_cons_succ, List.getElem?_cons_zero] at c8; clear Y1 Y2 Y3))
            go_roundw
            case rel =>
              refine ⟨k + 1, .slice a8 (L + 64) cap8, by have := hI.out; go_num, by omega, .inr (by have := hL.out; omega), ?_⟩
              have h9 := St.set H8.out 2 rfl 4 (.slice a8 (L + z1.size) cap8)
              have h10 := (h9.pull 2 rfl).pull 2 rfl
              have e1 : (sectorsB σ (B + 1) k).map byteV ++ z1.data.toList.map byteV = (sectorsB σ (B + 1) (k + 1)).map byteV := by
                rw [sectorsB_succ, List.map_append, hz1.out, ba_mk, hI.out]
              have e2 : L + 64 = 64 * (k + 1) := by have := hL.out; omega
              rw [hz1s] at h10
              unfold OpenMid
              rw [← e1, ← e2]
              exact h10
            case measure => simp [intOf]; omega
          · have hlt' : ¬ (L : Int) < (Ln : Int) := by omega
            have HDone := hid (show (((sectorsB σ (B + 1) (N - 1)).take Ln) = (sectorsB σ (B + 1) k).take Ln) from sectorsB_take OK.out (B + 1) (by rw [HZ.out]; omega) hk (by have := hL.out; omega))
            obtain ⟨by', hby⟩ : ∃ x, Hid ((sectorsB σ (B + 1) k).take Ln = x) := ⟨_, hid rfl⟩
            have hbyl : by'.length = Ln := by rw [← hby.out, List.length_take, hsl]; have := hL.out; omega
            rw [hby.out] at HDone
            have hF3 := HF.out
            rw [HDone.out] at hF3
            have HF := hid hF3
            clear hF3
            have hcut := Rd.cut (St.sl HH.out 0 rfl) (m := Ln) (by omega)
            rw [← List.map_take, hby.out] at hcut
            have hav : Ln ≠ 0 → ∃ g, av = some ⟨g, 0, none⟩ := by
              intro hne
              obtain ⟨g, cg, cur, e1, -⟩ := (St.sl HH.out 0 rfl).get (by omega)
              cases e1
              exact ⟨g, rfl⟩
            have f4 := (St.obj HH.out 1 rfl).frozen 4
            have HA : St w0 (wr.setCell ⟨b, 4, none⟩ (.slice av Ln Ln)) (objP b (rawCells d B N E (.slice av Ln Ln) (.slice none 0 0) (.slice none 0 0)) 124 :: rdP (.slice av Ln Ln) 5 (by'.map byteV) :: diskP d σ :: ps) := by
              have h1 := (HH.out.see (q := rdP (.slice av Ln Ln) 5 (by'.map byteV)) (fun fp h => ⟨h.1.trans (by cases av <;> rfl), by have := Rd.cut h.2 (m := Ln) (by omega); rwa [← List.map_take, hby.out] at this⟩))
              have h2 := h1.set 1 rfl 4 (.slice av Ln Ln)
              exact h2.pull 1 rfl
            go_wp2_with (first
              | ((with_reducible refine at_cut ?_); refine wpL_val rfl (.slice av Ln Ln) (run_cut rfl rfl rfl rfl (by omega) hav) ?_)
              | ((with_reducible refine at_conv ?_); refine wpL_val rfl (.string ⟨by'.toArray⟩) (run_bytes_rd rfl rfl (St.rd HA 1 rfl)) ?_))
            have HS : SplitMid w0 (wr.setCell ⟨b, 4, none⟩ (.slice av Ln Ln)) ps b d σ B N E (.slice av Ln Ln) by' (.slice none 0 0) [] := (HA.nil 9 1)
            clear HA f4 hcut hav c4 HH hsl
            obtain ⟨j, hj, hjz, hjs, hjb⟩ := info_str
            have HJ := hid (And.intro hj (And.intro hjz (And.intro hjs hjb)))
            clear hj hjz hjs hjb
            have hLn2 : Ln ≤ 4194304 := by omega
            go_loopw [16] (fun bvv wr => ∃ (zr : ByteArray) (done : List (List UInt8)) (rv : Value), bvv = .string zr ∧ Splits by' done zr.data.toList ∧ SplitMid w0 wr ps b d σ B N E (.slice av Ln Ln) by' rv done) (fun bvv _ => strLen bvv)
            case atStart => exact ⟨_, _, _, rfl, by rw [ba_mk]; exact Splits.start by', HS⟩
            case round =>
              obtain ⟨zr, done, rv, rfl, hsp, hM⟩ := hrel
              clear HS
              have HH := hid hM
              have HSP := hid hsp
              clear hM hsp
              by_cases hne : zr.data.toList = []
              · obtain rfl : zr = ⟨#[]⟩ := ba_ext (by rw [hne])
                have hF3 := HF.out
                rw [(show Splits by' done [] from HSP.out).done] at hF3
                subst hF3
                clear HF
                go_wp2
                go_ret2
                refine ⟨b, rfl, ?_⟩
                obtain ⟨hfr, hall⟩ := splitN_some _ _ _ (show Splits by' done [] from HSP.out).done
                refine log_close (l := ⟨B, N, E, by', done, [], false⟩) ⟨by simp only []; omega, by simp only []; omega, by simp only []; omega, by simp only []; omega, by simp only [frames, List.flatMap_nil, List.length_nil]; omega, hfr, hall, by simp⟩ (bv := .slice av Ln Ln) (rv := rv) (wv := .slice none 0 0) ?_
                have h1 := HH.out.nil 9 1
                exact ((h1.pull 1 rfl).pull 3 rfl).pull 3 rfl |>.pull 0 rfl
              · have hzz : ¬ zr = ⟨#[]⟩ := fun e => hne (by rw [e])
                have hz0 : zr.toList.isEmpty = false := by
                  rw [ByteArray.toList_eq]
                  cases hq : zr.data.toList with
                  | nil => exact absurd hq hne
                  | cons => rfl
                obtain ⟨hrl, hdl⟩ : zr.data.toList.length ≤ by'.length ∧ 8 * done.length ≤ by'.length := by
                  obtain ⟨f, -, -, h3⟩ := HSP.out
                  omega
                have hzrl : zr.size = zr.data.toList.length := ba_size zr
                have hun := wal_unframe zr wr (hh.pres (St.pres HH.out)) (by omega)
                cases hu : unframeB zr.data.toList with
                | none =>
                  have hun2 := hun.mono (R' := fun e w' => (∃ x y, e = .returned (.tuple #[.string x, .int .i64 y, .bool false])) ∧ Pres [] wr w') (fun e w' h => ⟨by have := h.1; unfold Unframed at this; rw [hu] at this; exact this, h.2⟩)
                  have hF3 := HF.out
                  rw [HSP.out.bad hne hu] at hF3
                  subst hF3
                  clear HF hun hu hrl hdl hzrl hzz hne
                  go_wp2_with (go_at_call 79; refine hun2.mono ?_; rintro e w9 ⟨⟨x, y, rfl⟩, P9⟩)
                  go_ret2
                  exact ⟨rfl, ((St.quiet HH.out P9).drop).drop.drop⟩
                | some rk =>
                  obtain ⟨r, kk⟩ := rk
                  obtain ⟨zc, hzc⟩ : ∃ z : ByteArray, Hid (z = ⟨r.toArray⟩) := ⟨_, hid rfl⟩
                  have hun2 := hun.mono (R' := fun e w' => e = .returned (.tuple #[.string zc, .int .i64 (kk : Int), .bool true]) ∧ Pres [] wr w') (fun e w' h => ⟨by have := h.1; unfold Unframed at this; rw [hu] at this; rw [this, hzc.out], h.2⟩)
                  have hnx := hid (HSP.out.next hne hu)
                  obtain ⟨hk8, hkk, -, -⟩ := unframeB_some hu
                  have hk0 : 0 < kk := by omega
                  have hkk' : (kk : Int) ≤ (zr.size : Int) := by omega
                  obtain ⟨arv, crv, rfl, -, -⟩ := (St.sl HH.out 0 rfl).shape
                  clear hun hu hzz hrl hne hzrl hk8
                  go_wp2_with (first
                    | (go_at_call 79; refine hun2.mono ?_; rintro e w9 ⟨rfl, P9⟩; have H9 := hid (St.quiet HH.out P9); have c5 := (St.obj H9.out 1 rfl).cell 5; have hLt := (St.obj H9.out 1 rfl).lt; simp only [rawCells, List.getElem?_cons_succ, List.getElem?_cons_zero] at c5; have A3 := At.new w9 [.string zc] 9; have H3 := hid (St.quiet H9.out ((Pres.refl [] w9).alloc (.cells #[.string zc] 9))); have X3 := St.sl H3.out 0 rfl)
                    | ((with_reducible refine at_append ?_); go_must (refine wpL_app rfl (.tmp 149) (.tmp 151) 91 91 rfl 9 j _ 1 Tryz.underlying91 HJ.out.1 HJ.out.2.1 HJ.out.2.2.1 rfl (.slice arv done.length crv) done.length _ rfl X3 1 [.string zc] (Src.at Tryz.underlying91 A3 rfl (by simp [Value.oneCell'])) (by simp only [maxLen]; omega) (by rw [HJ.out.2.2.2]; omega) ?_); intro v5 w5 Y1 Y2 Y3; have H5 := hid (St.grow H3.out 0 rfl Y1 Y2 Y3); obtain ⟨ao5, cap5, rfl, -, -⟩ := Y1.shape; have f5 := (St.obj H5.out 1 rfl).frozen 5; have c5' := (St.obj H5.out 1 rfl).cell 5; simp only [rawCells, List.getElem?_cons_succ, List.getElem?_cons_zero] at c5'; clear Y1 Y2 Y3))
                  go_roundw
                  case rel =>
                    refine ⟨_, done ++ [r], .slice ao5 (done.length + 1) cap5, rfl, ?_, ?_⟩
                    · have := hnx.out
                      have e1 : ∀ n, zr.size ≤ n → (zr.extract kk n).data.toList = zr.data.toList.drop kk := fun n hn => by rw [ba_take, List.take_of_length_le (by rw [← ba_size]; omega)]
                      rw [e1 _ (Nat.le_refl _)]
                      exact this
                    · have h1 := St.set H5.out 1 rfl 5 (.slice ao5 (done.length + 1) cap5)
                      have e1 : strV r = .string zc := by unfold strV; rw [hzc.out]
                      unfold SplitMid
                      simp only [List.length_append, List.length_cons, List.length_nil, List.map_append, List.map_cons, List.map_nil, e1]
                      exact h1
                  case measure =>
                    show (zr.extract kk zr.size).size < zr.size
                    rw [ByteArray.size_extract]
                    omega
      · have hzz : ¬ z = zh := fun e => a3 (by rw [← HL.out.1, e, hzh.out, ba_mk])
        have hzne2 := toList_ne hzz
        have hF3 := HF.out
        rw [if_pos (by exact .inr (.inr a3))] at hF3
        subst hF3
        clear HF
        go_wp2_with (first | (go_at_call 77; refine (hv2 _).mono ?_; rintro e w6 ⟨rfl, rfl⟩) | (go_at_call 78; refine (hhd _ (hh.pres HD.out.pres)).mono ?_; rintro e w6 ⟨rfl, P6⟩))
        go_ret2
        exact ⟨rfl, (HD.out.quiet P6).drop⟩
  · rw [hdown] at hdn hF2
    simp only [if_true] at hF2
    subst hF2
    go_enter Tryz.func41, Tryz.ntmps41
    go_wp2_with (first | (go_at_call 62; refine (hsz _ rfl).mono ?_; rintro e w' ⟨rfl, rfl⟩) | (go_at_call 33; refine (hdn _ rfl).mono ?_; rintro e w' ⟨rfl, rfl⟩))
    go_ret2
    exact ⟨rfl, HX.out⟩

end Go.Proofs.YtnffnpndnaofhaaGreatDoor

/- A database of pages (layer 10): number, value, none, up, lose, Count come to their data; conditions stand in the theorems. -/
namespace Go.Proofs.YtnffnpndnaofhaaGreatDoor
open Go.RowKit
set_option maxRecDepth 100000

theorem str_z (l : List UInt8) : ∃ z : ByteArray, Hid (z = ⟨l.toArray⟩) ∧ strV l = .string z ∧ z.size = l.length := ⟨_, hid rfl, rfl, by rw [ba_size, ba_mk]⟩

/-- What page 0 has: roots, the high mark, the first free page, how many are free. -/
structure Meta where
  r0 : Nat
  r1 : Nat
  r2 : Nat
  r3 : Nat
  high : Nat
  free : Nat
  count : Nat

def Meta.cells (m : Meta) : List Value := [.int .i64 (m.r0 : Int), .int .i64 (m.r1 : Int), .int .i64 (m.r2 : Int), .int .i64 (m.r3 : Int), .int .i64 (m.high : Int), .int .i64 (m.free : Int), .int .i64 (m.count : Int)]

def dbCells (d l log : Nat) (m : Meta) (opn : Value) (lost : Bool) : List Value :=
  [.pointer (some ⟨d, 0, none⟩), .pointer (some ⟨l, 0, none⟩), .int .i64 (log : Int), .int .i64 (m.r0 : Int), .int .i64 (m.r1 : Int), .int .i64 (m.r2 : Int), .int .i64 (m.r3 : Int), .int .i64 (m.high : Int), .int .i64 (m.free : Int), .int .i64 (m.count : Int), opn, .bool lost]

theorem pd_number (n : Nat) (w : World) (hn : n < 2 ^ 31) :
    Calls Tryz.prog 63 #[.int .i64 (n : Int)] w fun e w' => e = .returned (.string ⟨(numLE n 4).toArray⟩) ∧ Pres [] w w' := by
  have A := hid (At.new w [.int .u8 ((n : Int) % 256), .int .u8 ((n : Int) / 256 % 256), .int .u8 ((n : Int) / 65536 % 256), .int .u8 ((n : Int) / 16777216)] 5)
  have hcell : [Value.int .u8 ((n : Int) % 256), .int .u8 ((n : Int) / 256 % 256), .int .u8 ((n : Int) / 65536 % 256), .int .u8 ((n : Int) / 16777216)] = (numLE n 4).map byteV := by
    have e : (numLE n 4).map byteV = [byteV (UInt8.ofNat (n / 2 ^ (8 * 0))), byteV (UInt8.ofNat (n / 2 ^ (8 * 1))), byteV (UInt8.ofNat (n / 2 ^ (8 * 2))), byteV (UInt8.ofNat (n / 2 ^ (8 * 3)))] := rfl
    rw [e, ← num_cell n 0, ← num_cell n 1, ← num_cell n 2, ← num_cell n 3]
    have q0 : (n : Int) / 2 ^ (8 * 0) % 256 = (n : Int) % 256 := by omega
    have q1 : (n : Int) / 2 ^ (8 * 1) % 256 = (n : Int) / 256 % 256 := by omega
    have q2 : (n : Int) / 2 ^ (8 * 2) % 256 = (n : Int) / 65536 % 256 := by omega
    have q3 : (n : Int) / 2 ^ (8 * 3) % 256 = (n : Int) / 16777216 := by omega
    rw [q0, q1, q2, q3]
  have HC := hid hcell
  have h31 : (n : Int) < 2147483648 := by omega
  have hmod : (n : Int) / 16777216 % 256 = (n : Int) / 16777216 := by omega
  clear hcell
  go_enter Tryz.func63, Tryz.ntmps63
  go_wp2_with (((with_reducible refine at_conv ?_); refine wpL_bytes_string rfl 122 9 _ rfl 5 Tryz.underlying122 Tryz.underlying5 Tryz.underlying9 w.heap.size 0 4 4 rfl (numLE n 4) (length_numLE n 4) _ _ A.out (by rw [List.drop_zero, List.take_of_length_le (by simp)]; exact HC.out) ?_))
  go_ret
  exact ⟨rfl, (Pres.refl _ _).alloc _⟩

theorem bits_or64i {a b i : Nat} (hb : b < 2 ^ i) (h : a * 2 ^ i + b < 2 ^ 32) : bits .or .i64 (b : Int) ((a * 2 ^ i : Nat) : Int) = ((b + a * 2 ^ i : Nat) : Int) := by
  have e1 : (BitVec.ofInt 64 ((a * 2 ^ i : Nat) : Int)).toNat = a * 2 ^ i := by rw [BitVec.toNat_ofInt]; omega
  have e2 : (BitVec.ofInt 64 (b : Int)).toNat = b := by rw [BitVec.toNat_ofInt]; omega
  have e3 : b ||| a * 2 ^ i = b + a * 2 ^ i := by
    have := Nat.two_pow_add_eq_or_of_lt hb a
    rw [Nat.mul_comm, Nat.or_comm] at this
    omega
  have e : (BitVec.ofInt 64 (b : Int) ||| BitVec.ofInt 64 ((a * 2 ^ i : Nat) : Int)).toNat = b + a * 2 ^ i := by rw [BitVec.toNat_or, e1, e2, e3]
  change IntKind.i64.wrap ((BitVec.ofInt 64 (b : Int) ||| BitVec.ofInt 64 ((a * 2 ^ i : Nat) : Int)).toNat : Int) = _
  rw [e, IntKind.wrap_i64]
  omega

theorem pd_value (s : ByteArray) (w : World) (hs : 4 ≤ s.size) :
    Calls Tryz.prog 60 #[.string s] w fun e w' => e = .returned (.int .i64 ((valLE (s.data.toList.take 4) : Nat) : Int)) ∧ w' = w.drew := by
  have hv := valLE_four hs
  obtain ⟨V, hV⟩ : ∃ V, Hid (valLE (s.data.toList.take 4) = V) := ⟨_, hid rfl⟩
  rw [hV.out] at hv ⊢
  have h0 : (0 : Nat) < s.size := by omega
  have h1 : (1 : Nat) < s.size := by omega
  have h2 : (2 : Nat) < s.size := by omega
  have h3 : (3 : Nat) < s.size := by omega
  have b0 : s[0].toNat < 256 := s[0].toNat_lt
  have b1 : s[1].toNat < 256 := s[1].toNat_lt
  have b2 : s[2].toNat < 256 := s[2].toNat_lt
  have b3 : s[3].toNat < 256 := s[3].toNat_lt
  have i0 : (0 : Int) < (s.size : Int) := by omega
  have i1 : (1 : Int) < (s.size : Int) := by omega
  have i2 : (2 : Int) < (s.size : Int) := by omega
  have i3 : (3 : Int) < (s.size : Int) := by omega
  obtain ⟨x0, e0⟩ : ∃ x, s[0].toNat = x := ⟨_, rfl⟩
  obtain ⟨x1, e1⟩ : ∃ x, s[1].toNat = x := ⟨_, rfl⟩
  obtain ⟨x2, e2⟩ : ∃ x, s[2].toNat = x := ⟨_, rfl⟩
  obtain ⟨x3, e3⟩ : ∃ x, s[3].toNat = x := ⟨_, rfl⟩
  rw [e0, e1, e2, e3] at hv
  rw [e0] at b0
  rw [e1] at b1
  rw [e2] at b2
  rw [e3] at b3
  have u0 : IntKind.i64.wrap (x0 : Int) = (x0 : Int) := by rw [IntKind.wrap_i64]; omega
  have u1 : IntKind.i64.wrap (x1 : Int) = (x1 : Int) := by rw [IntKind.wrap_i64]; omega
  have u2 : IntKind.i64.wrap (x2 : Int) = (x2 : Int) := by rw [IntKind.wrap_i64]; omega
  have u3 : IntKind.i64.wrap (x3 : Int) = (x3 : Int) := by rw [IntKind.wrap_i64]; omega
  obtain ⟨y1, f1⟩ : ∃ y, Hid (x1 * 2 ^ 8 = y) := ⟨_, hid rfl⟩
  obtain ⟨y2, f2⟩ : ∃ y, Hid (x2 * 2 ^ 16 = y) := ⟨_, hid rfl⟩
  obtain ⟨y3, f3⟩ : ∃ y, Hid (x3 * 2 ^ 24 = y) := ⟨_, hid rfl⟩
  obtain ⟨z1, g1⟩ : ∃ y, Hid (x0 + y1 = y) := ⟨_, hid rfl⟩
  obtain ⟨z2, g2⟩ : ∃ y, Hid (z1 + y2 = y) := ⟨_, hid rfl⟩
  have m1 : IntKind.i64.wrap ((x1 : Int) * 256) = (y1 : Int) := by rw [IntKind.wrap_i64, ← f1.out]; omega
  have m2 : IntKind.i64.wrap ((x2 : Int) * 65536) = (y2 : Int) := by rw [IntKind.wrap_i64, ← f2.out]; omega
  have m3 : IntKind.i64.wrap ((x3 : Int) * 16777216) = (y3 : Int) := by rw [IntKind.wrap_i64, ← f3.out]; omega
  have o1 : bits .or .i64 (x0 : Int) (y1 : Int) = (z1 : Int) := by
    have := bits_or64i (a := x1) (b := x0) (i := 8) (by omega) (by omega)
    rw [f1.out, g1.out] at this
    exact this
  have o2 : bits .or .i64 (z1 : Int) (y2 : Int) = (z2 : Int) := by
    have := bits_or64i (a := x2) (b := z1) (i := 16) (by rw [← g1.out, ← f1.out]; omega) (by rw [← g1.out, ← f1.out]; omega)
    rw [f2.out, g2.out] at this
    exact this
  have o3 : bits .or .i64 (z2 : Int) (y3 : Int) = (V : Int) := by
    have := bits_or64i (a := x3) (b := z2) (i := 24) (by rw [← g2.out, ← g1.out, ← f1.out, ← f2.out]; omega) (by rw [← g2.out, ← g1.out, ← f1.out, ← f2.out]; omega)
    rw [f3.out] at this
    rw [this]
    have hvv : V = z2 + y3 := by rw [hv, ← g2.out, ← g1.out, ← f1.out, ← f2.out, ← f3.out]
    rw [hvv]
  clear hv hs b0 b1 b2 b3
  go_enter Tryz.func60, Tryz.ntmps60
  go_upto_region 1 with fail
  refine wp_stages (by kernel_rfl) ?_
  refine wp_stage (fun _ => True) [(0, true), (1, true), (2, true), (3, true), (4, true), (5, true), (6, true), (7, true), (8, true), (9, true), (10, true), (11, true), (12, true), (13, true), (14, true), (15, true), (16, true)] 2 rfl (by kernel_rfl) (by intro c a dd v w h; cases dd <;> exact h) (trivial) ?_
  iterate 17 (refine wpOrd_read (v := _) rfl rfl (by intro w' hS; skip; clear hS; go_simp; rfl) ?_; (try simp only [Act.put, List.setIfInBounds_toArray, List.set_cons_succ, List.set_cons_zero, List.getElem_toArray, List.getElem_cons_succ, List.getElem_cons_zero]))
  refine wpOrd_end ?_
  refine wp_stages_end 17 (by rfl) (by kernel_rfl) ?_
  simp only [List.drop_succ_cons, List.drop_zero]
  go_wp2
  go_ret
  exact ⟨rfl, rfl⟩

section
variable {w0 w : World} {ps : List HP} {x d l log : Nat} {m : Meta} {opn : Value} {lost : Bool} {σ : Dk}

theorem pd_none (H : St w0 w (objP x (dbCells d l log m opn lost) 62 :: ps)) :
    Calls Tryz.prog 61 #[.pointer (some ⟨x, 0, none⟩)] w fun e w' => e = .returned (.bool false) ∧ w = w' := by
  have c0 := (H.obj 0 rfl).cell 0
  simp only [dbCells, List.getElem?_cons_zero] at c0
  clear H
  go_enter Tryz.func61, Tryz.ntmps61
  go_wp2
  go_ret
  exact ⟨rfl, rfl⟩

theorem pd_up (H : St w0 w (objP x (dbCells d l log m opn lost) 62 :: diskP d σ :: ps)) :
    Calls Tryz.prog 50 #[.pointer (some ⟨x, 0, none⟩)] w fun e w' => e = .returned (.int .i64 (if lost || σ.down then 10 else 0)) ∧ w = w' := by
  have hn := fun W (hW : W = w) => hW ▸ pd_none H
  have hd := fun W (hW : W = w) => hW ▸ sd_down (H.pull 1 rfl)
  have c0 := (H.obj 0 rfl).cell 0
  have c11 := (H.obj 0 rfl).cell 11
  simp only [dbCells, List.getElem?_cons_succ, List.getElem?_cons_zero] at c0 c11
  clear H
  cases lost
  · cases hdn : σ.down
    all_goals
      rw [hdn] at hd
      clear hdn
      go_enter Tryz.func50, Tryz.ntmps50
      go_wp2_with (first | (go_at_call 61; refine (hn _ rfl).mono ?_; rintro e w' ⟨rfl, rfl⟩) | (go_at_call 33; refine (hd _ rfl).mono ?_; rintro e w' ⟨rfl, rfl⟩))
      go_ret
      exact ⟨rfl, rfl⟩
  · clear hd
    go_enter Tryz.func50, Tryz.ntmps50
    go_wp2_with (go_at_call 61; refine (hn _ rfl).mono ?_; rintro e w' ⟨rfl, rfl⟩)
    go_ret
    exact ⟨rfl, rfl⟩

theorem pd_lose (H : St w0 w (objP x (dbCells d l log m opn lost) 62 :: ps)) (e : Int) :
    Calls Tryz.prog 56 #[.pointer (some ⟨x, 0, none⟩), .int .i64 e] w fun en w' => en = .returned (.int .i64 e) ∧ St w0 w' (objP x (dbCells d l log m opn (lost || e != 0)) 62 :: ps) := by
  have c11 := (H.obj 0 rfl).cell 11
  have f11 := (H.obj 0 rfl).frozen 11
  simp only [dbCells, List.getElem?_cons_succ, List.getElem?_cons_zero] at c11
  have HH := hid H
  clear H
  cases lost
  all_goals
    go_enter Tryz.func56, Tryz.ntmps56
    go_wp2
    go_ret
    exact ⟨rfl, HH.out.set 0 rfl 11 _⟩

theorem pd_count (H : St w0 w (objP x (dbCells d l log m opn lost) 62 :: diskP d σ :: ps)) (hl : log ≤ σ.kept.length) :
    Calls Tryz.prog 24 #[.pointer (some ⟨x, 0, none⟩)] w fun e w' => e = .returned (.int .i64 (((σ.kept.length - log) / 8 : Nat) : Int)) ∧ Pres [] w w' := by
  have hn := fun W (hW : W = w) => hW ▸ pd_none H
  have ok := sd_ok (H.pull 1 rfl)
  have hmost := ok.most
  have c0 := (H.obj 0 rfl).cell 0
  have c2 := (H.obj 0 rfl).cell 2
  simp only [dbCells, List.getElem?_cons_succ, List.getElem?_cons_zero] at c0 c2
  have HH := hid H
  obtain ⟨sz, hsz⟩ : ∃ sz, Hid (σ.kept.length = sz) := ⟨_, hid rfl⟩
  have hs := fun W (h : St w0 W (diskP d σ :: objP x (dbCells d l log m opn lost) 62 :: ps)) => sd_size h
  rw [hsz.out] at hs hl hmost ⊢
  have w1 : IntKind.i64.wrap ((sz : Int) - (log : Int)) = (sz : Int) - (log : Int) := by rw [IntKind.wrap_i64]; omega
  clear H ok
  go_enter Tryz.func24, Tryz.ntmps24
  go_upto_region 3 with (go_at_call 61; refine (hn _ rfl).mono ?_; rintro e w' ⟨rfl, rfl⟩)
  refine wp_stages (by kernel_rfl) ?_
  have HD := hid (HH.out.drew)
  have P0 := hid ((Pres.refl [] w).drew)
  have S0 : w.drew.cell? ⟨x, 0, none⟩ = some (.pointer (some ⟨d, 0, none⟩)) ∧ w.drew.cell? ⟨x, 2, none⟩ = some (.int .i64 (log : Int)) := ⟨c0, c2⟩
  generalize w.drew = wd at *
  refine wp_stage (fun W => W.cell? ⟨x, 0, none⟩ = some (.pointer (some ⟨d, 0, none⟩)) ∧ W.cell? ⟨x, 2, none⟩ = some (.int .i64 (log : Int))) [(0, true), (1, true), (2, true), (3, true), (5, true), (6, true), (7, true), (8, true), (4, false)] 3 rfl (by kernel_rfl) (by intro c a dd v w h; cases dd <;> exact h) (S0) ?_
  iterate 8 (refine wpOrd_read (v := _) rfl rfl (by intro w' hS; obtain ⟨s1, s2⟩ := id hS; clear hS; go_simp; rfl) ?_; (try simp only [Act.put, List.setIfInBounds_toArray, List.set_cons_succ, List.set_cons_zero, List.getElem_toArray, List.getElem_cons_succ, List.getElem_cons_zero]))
  refine wpOrd_do rfl rfl (fun K hK => ?_)
  go_simp
  refine (hs _ (HD.out.pull 1 rfl)).mono ?_
  rintro e w2 ⟨rfl, rfl⟩
  refine hK _ _ ⟨S0, ?_⟩
  clear hK K
  (try simp only [Act.put, List.setIfInBounds_toArray, List.set_cons_succ, List.set_cons_zero, List.getElem_toArray, List.getElem_cons_succ, List.getElem_cons_zero])
  refine wpOrd_end ?_
  refine wp_stages_end 9 (by rfl) (by kernel_rfl) ?_
  simp only [List.drop_succ_cons, List.drop_zero]
  go_wp2
  go_ret
  refine ⟨congrArg (fun v : Int => Ending.returned (.int .i64 v)) ?_, P0.out⟩
  omega
end

end Go.Proofs.YtnffnpndnaofhaaGreatDoor

/- A database of pages (layer 10): image and lay come to their data; conditions stand in the theorems. -/
namespace Go.Proofs.YtnffnpndnaofhaaGreatDoor
open Go.RowKit
set_option maxRecDepth 100000

set_option maxHeartbeats 4000000 in
theorem pd_image {w0 w : World} {ps : List HP} {x d l log : Nat} {m : Meta} {opn : Value} {lost : Bool} {σ : Dk} (H : St w0 w (objP x (dbCells d l log m opn lost) 62 :: diskP d σ :: ps)) (pg : Nat) (hd : σ.down = false) (hr : log + 8 * pg + 8 ≤ σ.kept.length) :
    Calls Tryz.prog 46 #[.pointer (some ⟨x, 0, none⟩), .int .i64 (pg : Int)] w fun e w' => e = .returned (.tuple #[strV (sectorsB σ (log + 8 * pg) 8), .int .i64 0]) ∧ St w0 w' (objP x (dbCells d l log m opn lost) 62 :: diskP d σ :: ps) ∧ Pres [] w w' := by
  have ok := sd_ok (H.pull 1 rfl)
  have hmost := ok.most
  have HH := hid H
  have OK := hid ok
  have HD := hid hd
  obtain ⟨sz, hsz⟩ : ∃ sz, Hid (σ.kept.length = sz) := ⟨_, hid rfl⟩
  rw [hsz.out] at hr hmost
  obtain ⟨B, hB⟩ : ∃ B, Hid (log + 8 * pg = B) := ⟨_, hid rfl⟩
  rw [hB.out] at hr ⊢
  have qa : IntKind.i64.wrap ((pg : Int) * 8) = (pg : Int) * 8 := by have := hB.out; rw [IntKind.wrap_i64]; omega
  have qb : IntKind.i64.wrap (B : Int) = (B : Int) := by rw [IntKind.wrap_i64]; omega
  have qc : (log : Int) + (pg : Int) * 8 = (B : Int) := by have := hB.out; omega
  clear H ok hd
  go_enter Tryz.func46, Tryz.ntmps46
  go_wp2_with fail
  go_loopw [6, 10] (fun sv iv wr => ∃ k : Nat, k ≤ 8 ∧ iv = .int .i64 (k : Int) ∧ sv = strV (sectorsB σ B k) ∧ St w0 wr (objP x (dbCells d l log m opn lost) 62 :: diskP d σ :: ps) ∧ Pres [] w wr) (fun _ iv _ => 8 - (intOf iv).toNat)
  case atStart => exact ⟨0, Nat.zero_le _, rfl, rfl, HH.out, Pres.refl _ _⟩
  case round =>
    obtain ⟨k, hk, rfl, rfl, hM, hP⟩ := hrel
    clear HH
    have HH := hid hM
    have HP := hid hP
    have c0 := (hM.obj 0 rfl).cell 0
    have c2 := (hM.obj 0 rfl).cell 2
    simp only [dbCells, List.getElem?_cons_succ, List.getElem?_cons_zero] at c0 c2
    have hsl := sectorsB_length OK.out B k (by rw [hsz.out]; omega)
    obtain ⟨za, hza, eza, hzas⟩ := str_z (sectorsB σ B k)
    rw [eza]
    rw [hsl] at hzas
    have HZA := hid eza
    clear eza hsl hM hP
    by_cases hlt : k < 8
    · have hlt' : (k : Int) < 8 := by omega
      obtain ⟨I, hI⟩ : ∃ I, B + k = I := ⟨_, rfl⟩
      have qd : IntKind.i64.wrap ((B : Int) + (k : Int)) = (I : Int) := by rw [IntKind.wrap_i64]; omega
      have hIs : I < sz := by omega
      have hread := read_has HD.out (σ := σ) (i := I) (by rw [hsz.out]; exact hIs)
      have hlook := Dk.look_length OK.out (i := I) (by rw [hsz.out]; exact hIs)
      obtain ⟨z1, hz1⟩ : ∃ z : ByteArray, Hid (z = ⟨(σ.look I).toArray⟩) := ⟨_, hid rfl⟩
      have hz1s : z1.size = 64 := by rw [ba_size, hz1.out, ba_mk, hlook]
      have HI := hid hI
      have hza2 : za.size ≤ 512 := by omega
      clear hlook hI hzas
      go_upto_region 5 with (fail)
      refine wp_stages (by kernel_rfl) ?_
      have S0 : wr.drew.cell? ⟨x, 0, none⟩ = some (.pointer (some ⟨d, 0, none⟩)) ∧ wr.drew.cell? ⟨x, 2, none⟩ = some (.int .i64 (log : Int)) := ⟨c0, c2⟩
      refine wp_stage (fun W => W.cell? ⟨x, 0, none⟩ = some (.pointer (some ⟨d, 0, none⟩)) ∧ W.cell? ⟨x, 2, none⟩ = some (.int .i64 (log : Int))) [(0, true), (1, true), (2, true), (3, true), (4, true), (5, true), (6, true), (7, true), (8, true), (9, true), (10, true), (11, true), (12, true), (13, false)] 5 rfl (by kernel_rfl) (by intro c a dd v w h; cases dd <;> exact h) (S0) ?_
      iterate 13 (refine wpOrd_read (v := _) rfl rfl (by intro w' hS; obtain ⟨s1, s2⟩ := id hS; clear hS; go_simp; rfl) ?_; (try simp only [Act.put, List.setIfInBounds_toArray, List.set_cons_succ, List.set_cons_zero, List.getElem_toArray, List.getElem_cons_succ, List.getElem_cons_zero]))
      have HW := hid (HH.out.drew.pull 1 rfl)
      have HPW := hid HP.out.drew
      generalize wr.drew = wd at *
      have hrd := sd_read HW.out (I : Int)
      rw [hread, ← hz1.out] at hrd
      clear hread c0 c2
      refine wpOrd_do rfl rfl (fun K hK => ?_)
      go_simp
      refine hrd.mono ?_
      rintro e w7 ⟨rfl, H7, P7⟩
      refine hK _ _ ⟨⟨P7.cell S0.1 (by simp), P7.cell S0.2 (by simp)⟩, ?_⟩
      clear hK K S0 hrd
      have H7 := hid (H7.pull 1 rfl)
      have P8 := hid (HPW.out.then P7)
      (try simp only [Act.put, List.setIfInBounds_toArray, List.set_cons_succ, List.set_cons_zero, List.getElem_toArray, List.getElem_cons_succ, List.getElem_cons_zero])
      refine wpOrd_end ?_
      refine wp_stage (fun _ => True) [(14, true), (15, true), (16, true), (17, false)] 1 rfl (by kernel_rfl) (by intro c a dd v w h; cases dd <;> exact h) (trivial) ?_
      iterate 3 (refine wpOrd_read (v := _) rfl rfl (by intro w' hS; skip; clear hS; go_simp; rfl) ?_; (try simp only [Act.put, List.setIfInBounds_toArray, List.set_cons_succ, List.set_cons_zero, List.getElem_toArray, List.getElem_cons_succ, List.getElem_cons_zero]))
      refine wpOrd_do rfl rfl (fun K hK => ?_)
      go_simp
      refine hK _ _ ⟨trivial, ?_⟩
      clear hK K
      (try simp only [Act.put, List.setIfInBounds_toArray, List.set_cons_succ, List.set_cons_zero, List.getElem_toArray, List.getElem_cons_succ, List.getElem_cons_zero])
      refine wpOrd_end ?_
      refine wp_stages_end 18 (by rfl) (by kernel_rfl) ?_
      simp only [List.drop_succ_cons, List.drop_zero]
      clear qd
      go_wp2
      go_roundw
      case rel =>
        refine ⟨k + 1, by omega, by go_num, ?_, H7.out, P8.out⟩
        refine congrArg Value.string (ba_ext ?_)
        rw [ba_append, hza.out, hz1.out, ba_mk, ba_mk, ba_mk, sectorsB_succ, HI.out]
      case measure => first | (simp [intOf]; done) | (simp [intOf]; omega)
    · obtain rfl : k = 8 := by omega
      have hend : ¬ ((8 : Nat) : Int) < 8 := by omega
      go_wp2
      go_ret2
      exact ⟨by rw [HZA.out]; rfl, HH.out, HP.out⟩

end Go.Proofs.YtnffnpndnaofhaaGreatDoor

/- A database of pages (layer 10): lay writes a page's sectors as layN says; conditions stand in the theorem. -/
namespace Go.Proofs.YtnffnpndnaofhaaGreatDoor
open Go.RowKit
set_option maxRecDepth 100000

/-- The state at the head of a round: all that is to come is R. -/
structure LayAt (w0 wr : World) (ps : List HP) (x d l log : Nat) (m : Meta) (opn : Value) (lost : Bool) (v : Value) (base : Nat) (img : List UInt8) (R : Int × Dk) (k M : Nat) : Prop where
  st : ∃ τ f, St w0 wr (slP v 9 1 8 ((secList img 8).map strV) :: objP x (dbCells d l log m opn lost) 62 :: diskP d τ :: ps) ∧ layN base img f k τ = R ∧ 9 ≤ f + k ∧ τ.pend.length ≤ M + k

set_option maxHeartbeats 4000000 in
theorem pd_lay {w0 w : World} {ps : List HP} {x d l log : Nat} {m : Meta} {opn : Value} {lost : Bool} {σ : Dk} (H : St w0 w (objP x (dbCells d l log m opn lost) 62 :: diskP d σ :: ps)) (pg : Nat) (s : ByteArray) (img : List UInt8) (hs : s.data.toList = img) (hl : img.length = 512) (h1 : 1 ≤ log) (h2 : log + 8 * pg ≤ 65536) (hroom : σ.pend.length ≤ 800000000) :
    Calls Tryz.prog 82 #[.pointer (some ⟨x, 0, none⟩), .int .i64 (pg : Int), .string s] w fun e w' => e = .returned (.int .i64 (layN (log + 8 * pg - 1) img 9 0 σ).1) ∧ St w0 w' (objP x (dbCells d l log m opn lost) 62 :: diskP d (layN (log + 8 * pg - 1) img 9 0 σ).2 :: ps) := by
  have hsec := pg_sectors H s img hs hl
  obtain ⟨R, hR⟩ : ∃ R, Hid (layN (log + 8 * pg - 1) img 9 0 σ = R) := ⟨_, hid rfl⟩
  rw [hR.out]
  obtain ⟨B, hB⟩ : ∃ B, Hid (log + 8 * pg = B) := ⟨_, hid rfl⟩
  have hb1 : 1 ≤ B := by have := hB.out; omega
  have hb2 : B ≤ 65536 := by have := hB.out; omega
  have qa : IntKind.i64.wrap ((pg : Int) * 8) = (pg : Int) * 8 := by have := hB.out; rw [IntKind.wrap_i64]; omega
  have qb : IntKind.i64.wrap (B : Int) = (B : Int) := by rw [IntKind.wrap_i64]; omega
  have qc : (log : Int) + (pg : Int) * 8 = (B : Int) := by have := hB.out; omega
  have hbase : log + 8 * pg - 1 = B - 1 := by have := hB.out; omega
  have HR := hid (show layN (B - 1) img 9 0 σ = R by rw [← hbase]; exact hR.out)
  have HL := hid hl
  clear H hs hl h1 h2 hbase hR
  go_enter Tryz.func82, Tryz.ntmps82
  go_wp2_with fail
  refine hsec.mono ?_
  rintro e w1 ⟨v, rfl, H1⟩
  obtain ⟨av, cv, rfl, -, -⟩ := (H1.sl 0 rfl).shape
  have HM : LayAt w0 w1 ps x d l log m opn lost (.slice av 8 cv) (B - 1) img R 0 σ.pend.length := ⟨σ, 9, H1, HR.out, by omega, by omega⟩
  have HM := hid HM
  clear H1 hsec
  go_wp2_with fail
  go_loopw [13] (fun iv wr => ∃ k : Nat, k ≤ 8 ∧ iv = .int .i64 (k : Int) ∧ LayAt w0 wr ps x d l log m opn lost (.slice av 8 cv) (B - 1) img R k σ.pend.length) (fun iv _ => 8 - (intOf iv).toNat)
  case atStart => exact ⟨0, Nat.zero_le _, rfl, HM.out⟩
  case round =>
    obtain ⟨k, hk, rfl, ⟨τ, f, hS, hRk, hf, hp⟩⟩ := hrel
    clear HM
    by_cases hlt : k < 8
    · have hlt' : (k : Int) < 8 := by omega
      obtain ⟨I, hI⟩ : ∃ I, B + k = I := ⟨_, rfl⟩
      have qd : IntKind.i64.wrap ((B : Int) + (k : Int)) = (I : Int) := by rw [IntKind.wrap_i64]; omega
      obtain ⟨g, cg, cur, e1, -⟩ := (hS.sl 0 rfl).get (by omega)
      simp only [Value.slice.injEq] at e1
      obtain ⟨rfl, -, rfl⟩ := e1
      obtain ⟨bs, hbs⟩ : ∃ bs, Hid ((img.drop (64 * k)).take 64 = bs) := ⟨_, hid rfl⟩
      have hkth : (secList img 8)[k]? = some bs := by rw [secList, List.getElem?_map, List.getElem?_range hlt, Option.map_some, hbs.out]
      have ck : wr.cell? ⟨g, k, none⟩ = some (strV bs) := sl_cells (hS.sl 0 rfl) (by rw [List.getElem?_map, hkth]; rfl)
      obtain ⟨z, hz, ez, hzs⟩ := str_z bs
      have hzl : z.data.toList = bs := by rw [hz.out, ba_mk]
      rw [ez] at ck
      have hbl : bs.length ≤ 64 := by rw [← hbs.out, List.length_take]; omega
      have c0 := (hS.obj 1 rfl).cell 0
      have c2 := (hS.obj 1 rfl).cell 2
      simp only [dbCells, List.getElem?_cons_succ, List.getElem?_cons_zero] at c0 c2
      have HS := hid hS
      have HI := hid hI
      have HZL := hid hzl
      have HE := hid ez
      clear hS hkth hI hzl ez
      go_upto_region 4 with (fail)
      refine wp_stages (by kernel_rfl) ?_
      have S0 : wr.drew.cell? ⟨x, 0, none⟩ = some (.pointer (some ⟨d, 0, none⟩)) ∧ wr.drew.cell? ⟨x, 2, none⟩ = some (.int .i64 (log : Int)) := ⟨c0, c2⟩
      refine wp_stage (fun W => W.cell? ⟨x, 0, none⟩ = some (.pointer (some ⟨d, 0, none⟩)) ∧ W.cell? ⟨x, 2, none⟩ = some (.int .i64 (log : Int))) [(0, true), (1, true), (2, true), (3, true), (4, true), (5, true), (6, true), (7, true), (8, true), (9, true), (10, true), (11, true), (12, true), (13, true)] 2 rfl (by kernel_rfl) (by intro c a dd v w h; cases dd <;> exact h) (S0) ?_
      iterate 14 (refine wpOrd_read (v := _) rfl rfl (by intro w' hS; obtain ⟨s1, s2⟩ := id hS; clear hS; go_simp; rfl) ?_; (try simp only [Act.put, List.setIfInBounds_toArray, List.set_cons_succ, List.set_cons_zero, List.getElem_toArray, List.getElem_cons_succ, List.getElem_cons_zero]))
      refine wpOrd_end ?_
      refine wp_stages_end 14 (by rfl) (by kernel_rfl) ?_
      simp only [List.drop_succ_cons, List.drop_zero]
      have HD := hid (HS.out.drew.pull 2 rfl)
      generalize wr.drew = wd at *
      clear S0 HS c0 c2 ck qd
      have hwr := sd_write HD.out (I : Int) z (by omega)
      rw [HZL.out] at hwr
      have hstep : layN (B - 1) img f k τ = if (τ.write (I : Int) bs).1 = 0 then layN (B - 1) img (f - 1) (k + 1) (τ.write (I : Int) bs).2 else τ.write (I : Int) bs := by
        obtain ⟨f', rfl⟩ : ∃ f', f = f' + 1 := ⟨f - 1, by omega⟩
        rw [layN_succ (by rw [HL.out]; omega), hbs.out, show ((B - 1 : Nat) : Int) + 1 + (k : Int) = (I : Int) by have := HI.out; omega]
        rfl
      have hpw := Dk.write_pend τ (I : Int) bs
      rw [hRk] at hstep
      generalize τ.write (I : Int) bs = q at *
      obtain ⟨qe, τ2⟩ := q
      simp only [] at hstep hwr hpw
      have HN := hid (And.intro hstep hpw)
      clear hstep hpw hRk
      go_wp2_with fail
      refine hwr.mono ?_
      rintro en w3 ⟨rfl, H3⟩
      have H3 := hid ((H3.pull 2 rfl).pull 2 rfl |>.pull 1 rfl)
      clear HD hwr
      by_cases h0 : qe = 0
      · subst h0
        go_wp2
        go_roundw
        case rel =>
          obtain ⟨hst, hpp⟩ := HN.out
          exact ⟨k + 1, by omega, by go_num, ⟨τ2, f - 1, H3.out.pull 1 rfl, by simpa using hst.symm, by omega, by omega⟩⟩
        case measure => first | (simp [intOf]; done) | (simp [intOf]; omega)
      · have hb0 : (qe != 0) = true := by simpa using h0
        have HN0 := hid h0
        clear h0
        go_wp2
        go_ret
        obtain ⟨hst, hpp⟩ := HN.out
        rw [if_neg HN0.out] at hst
        subst hst
        exact ⟨rfl, (H3.out.pull 1 rfl).drop⟩
    · obtain rfl : k = 8 := by omega
      have hend : ¬ ((8 : Nat) : Int) < 8 := by omega
      rw [layN_done (by rw [HL.out]; omega)] at hRk
      subst hRk
      have HS := hid hS
      clear hS
      go_wp2
      go_ret
      exact ⟨rfl, HS.out.drop⟩

end Go.Proofs.YtnffnpndnaofhaaGreatDoor

/- A database of pages (layer 10): settle and redo come to their data; conditions stand in the theorems. -/
namespace Go.Proofs.YtnffnpndnaofhaaGreatDoor
open Go.RowKit
set_option maxRecDepth 100000

/-- settle: a log with records begins anew, once all is kept. -/
def settleB (l : Lg) (σ : Dk) : Int × Lg × Dk :=
  if l.recs = [] then (0, l, σ) else if σ.flush.1 = 0 then l.reset σ.flush.2 else (σ.flush.1, l, σ.flush.2)

set_option maxHeartbeats 4000000 in
theorem pd_settle {w0 w : World} {ps : List HP} {x d b log : Nat} {m : Meta} {opn : Value} {lost : Bool} {l : Lg} {σ : Dk} (hh : HalfAt w0) (H : St w0 w (objP x (dbCells d b log m opn lost) 62 :: logP b d l :: diskP d σ :: ps)) (hroom : σ.pend.length ≤ 700000000) :
    Calls Tryz.prog 45 #[.pointer (some ⟨x, 0, none⟩)] w fun e w' => e = .returned (.int .i64 (settleB l σ).1) ∧ St w0 w' (objP x (dbCells d b log m opn lost) 62 :: logP b d (settleB l σ).2.1 :: diskP d (settleB l σ).2.2 :: ps) := by
  have c1 := (H.obj 0 rfl).cell 1
  simp only [dbCells, List.getElem?_cons_succ, List.getElem?_cons_zero] at c1
  have hrec := log_records (H.pull 1 rfl)
  obtain ⟨F, hF⟩ : ∃ F, Hid (settleB l σ = F) := ⟨_, hid rfl⟩
  rw [hF.out]
  have hF2 := hF.out
  unfold settleB at hF2
  clear hF H
  by_cases hr : l.recs = []
  · rw [if_pos hr] at hF2
    subst hF2
    have h0 : l.recs.length = 0 := by rw [hr]; rfl
    rw [h0] at hrec
    have HR := hid hr
    clear hr h0
    go_enter Tryz.func45, Tryz.ntmps45
    go_wp2_with fail
    refine hrec.mono ?_
    rintro e w2 ⟨v2, rfl, H2, -⟩
    obtain ⟨a2, k2, rfl, -, -⟩ := (H2.sl 0 rfl).shape
    have H2 := hid (H2.drop.pull 1 rfl)
    clear hrec
    go_wp2
    go_ret
    exact ⟨rfl, H2.out⟩
  · rw [if_neg hr] at hF2
    have hpos : 0 < l.recs.length := List.length_pos_iff.2 hr
    have hne : ((l.recs.length : Int) == 0) = false := by rw [beq_eq_false_iff_ne]; omega
    have hfp := Dk.flush_pend σ
    have hfl := fun W ps' (h : St w0 W (diskP d σ :: ps')) => sd_flush h
    generalize σ.flush = fl at *
    obtain ⟨fe, τ⟩ := fl
    simp only [] at hfl hF2 hfp
    have HF := hid hF2
    have HFL := hid hfl
    have HFP := hid hfp
    clear hr hF2 hfl hfp
    go_enter Tryz.func45, Tryz.ntmps45
    go_wp2_with fail
    refine hrec.mono ?_
    rintro e w2 ⟨v2, rfl, H2, -⟩
    obtain ⟨a2, k2, rfl, -, -⟩ := (H2.sl 0 rfl).shape
    have H2 := hid ((H2.drop.pull 2 rfl))
    have c0 := (H2.out.obj 2 rfl).cell 0
    simp only [dbCells, List.getElem?_cons_zero] at c0
    clear hrec c1
    go_wp2_with fail
    refine (HFL.out _ _ H2.out).mono ?_
    rintro e w3 ⟨rfl, H3⟩
    have H3 := hid (H3.pull 1 rfl)
    have c1 := (H3.out.obj 2 rfl).cell 1
    simp only [dbCells, List.getElem?_cons_succ, List.getElem?_cons_zero] at c1
    clear H2 c0
    by_cases h0 : fe = 0
    · subst h0
      have hF3 := HF.out
      rw [if_pos rfl] at hF3
      have hrs := log_reset hh H3.out (by have := HFP.out; omega)
      rw [hF3] at hrs
      clear hF3
      go_wp2_with fail
      refine hrs.mono ?_
      rintro e w4 ⟨rfl, H4⟩
      have H4 := hid (H4.pull 2 rfl)
      go_wp2
      go_ret
      exact ⟨rfl, H4.out⟩
    · have hb0 : (fe != 0) = true := by simpa using h0
      have hF3 := HF.out
      rw [if_neg h0] at hF3
      subst hF3
      clear h0 HF
      go_wp2
      go_ret
      exact ⟨rfl, H3.out.pull 2 rfl⟩

end Go.Proofs.YtnffnpndnaofhaaGreatDoor

/- A transaction (layer 10): up, of an open one over a database with power; conditions stand in the theorem. -/
namespace Go.Proofs.YtnffnpndnaofhaaGreatDoor
open Go.RowKit
set_option maxRecDepth 100000

def txCells (x : Nat) (m : Meta) (mv : Value) (marked spoilt : Bool) : List Value :=
  [.pointer (some ⟨x, 0, none⟩), .int .i64 (m.r0 : Int), .int .i64 (m.r1 : Int), .int .i64 (m.r2 : Int), .int .i64 (m.r3 : Int), .int .i64 (m.high : Int), .int .i64 (m.free : Int), .int .i64 (m.count : Int), mv, .bool marked, .bool spoilt]

theorem ptr_eqIn (W : World) (t d : Nat) : (Op.equalIn (d + 1) 40 (.pointer (some ⟨t, 0, none⟩)) (.pointer (some ⟨t, 0, none⟩))).run Tryz.prog W = .ok true W := by
  simp [Op.equalIn, run_underlying Tryz.underlying40, sameAddr]

theorem ptr_eq (W : World) (t : Nat) : (Op.equal 40 (.pointer (some ⟨t, 0, none⟩)) (.pointer (some ⟨t, 0, none⟩))).run Tryz.prog W = .ok true W := ptr_eqIn W t 9999

theorem ptr_neq (W : World) (t : Nat) : (binOp .neq 40 (.pointer (some ⟨t, 0, none⟩)) (.pointer (some ⟨t, 0, none⟩))).run Tryz.prog W = .ok (.bool false) W := by
  simp only [binOp]
  simp [ptr_eq W t]

theorem tx_up {w0 w : World} {ps : List HP} {t x d b log : Nat} {m n : Meta} {mv : Value} {marked spoilt : Bool} {σ : Dk} (H : St w0 w (objP t (txCells x n mv marked spoilt) 67 :: objP x (dbCells d b log m (.pointer (some ⟨t, 0, none⟩)) false) 62 :: diskP d σ :: ps)) (hd : σ.down = false) :
    Calls Tryz.prog 53 #[.pointer (some ⟨t, 0, none⟩)] w fun e w' => e = .returned (.int .i64 0) ∧ w = w' := by
  have hu := fun W (hW : W = w) => hW ▸ pd_up (((H.pull 2 rfl).pull 2 rfl))
  rw [hd] at hu
  have c0 := (H.obj 0 rfl).cell 0
  have c10 := (H.obj 1 rfl).cell 10
  simp only [txCells, dbCells, List.getElem?_cons_succ, List.getElem?_cons_zero] at c0 c10
  have hpp := fun W => ptr_neq W t
  clear H hd
  go_enter Tryz.func53, Tryz.ntmps53
  go_wp2_with (go_at_call 50; refine (hu _ rfl).mono ?_; rintro e w' ⟨rfl, rfl⟩)
  go_ret
  exact ⟨rfl, rfl⟩

end Go.Proofs.YtnffnpndnaofhaaGreatDoor

/- A map of int keys as a piece of memory: what it holds is a function of the keys; conditions stand in the theorems. -/
namespace Go.Proofs.YtnffnpndnaofhaaGreatDoor
open Go.RowKit
set_option maxRecDepth 100000

abbrev DU := DataW Unit
abbrev Rdr := Value → Option (DU × List MemPlace)

/-- What D holds: M, at the keys ks. -/
structure MapIs {α : Type} (dat : α → DU) (D : DU) (M : Nat → Option α) (ks : List Nat) : Prop where
  tidy : Maps.Tidy D
  nodup : ks.Nodup
  mem : ∀ k, k ∈ ks ↔ M k ≠ none
  keys : ∀ kl, Maps.has D kl = true → ∃ k ∈ ks, kl = .int .i64 (k : Int)
  there : ∀ k v, M k = some v → Maps.has D (.int .i64 (k : Int)) = true ∧ ∀ z, D.atKey (.int .i64 (k : Int)) z = dat v
  size : Maps.size D = ks.length

theorem MapIs.empty {α : Type} (dat : α → DU) : MapIs dat (.map []) (fun _ => none) [] :=
  ⟨Maps.tidy_empty, List.nodup_nil, by simp, (by intro kl h; cases h), by simp, rfl⟩

def putM {α : Type} (M : Nat → Option α) (k : Nat) (v : α) : Nat → Option α := fun j => if j = k then some v else M j
def putK (ks : List Nat) (k : Nat) : List Nat := if k ∈ ks then ks else ks ++ [k]

theorem MapIs.has_iff {α : Type} {dat : α → DU} {D : DU} {M : Nat → Option α} {ks : List Nat} (h : MapIs dat D M ks) (k : Nat) : Maps.has D (.int .i64 (k : Int)) = (M k).isSome := by
  cases hm : M k with
  | some v => simpa using (h.there k v hm).1
  | none =>
    cases hh : Maps.has D (.int .i64 (k : Int)) with
    | false => rfl
    | true =>
      obtain ⟨j, hj, e⟩ := h.keys _ hh
      have : j = k := by injection e with _ e; omega
      subst this
      exact absurd hm ((h.mem j).1 hj)

theorem isKeyLit_int (n : Int) : WideAt.IsKeyLit (.int .i64 n) := by
  first | exact ⟨⟩ | exact trivial | simp [WideAt.IsKeyLit]

theorem MapIs.put {α : Type} {dat : α → DU} {D : DU} {M : Nat → Option α} {ks : List Nat} (h : MapIs dat D M ks) (k : Nat) (v : α) :
    MapIs dat (D.put (.int .i64 (k : Int)) (dat v)) (putM M k v) (putK ks k) := by
  have hk := isKeyLit_int (k : Int)
  have hne : ∀ j : Nat, j ≠ k → (Lit.int .i64 (j : Int)) ≠ .int .i64 (k : Int) := by
    intro j hj e
    injection e with _ e
    omega
  refine ⟨h.tidy.put hk _, ?_, ?_, ?_, ?_, ?_⟩
  · unfold putK
    split
    · exact h.nodup
    · rename_i hn
      rw [List.nodup_append]
      exact ⟨h.nodup, by simp, by intro a ha b hb e; simp at hb; subst hb; subst e; exact hn ha⟩
  · intro j
    unfold putK putM
    by_cases e : j = k
    · subst e
      simp only [if_true, ne_eq, reduceCtorEq, not_false_eq_true, iff_true]
      split
      · assumption
      · simp
    · rw [if_neg e, ← h.mem j]
      split
      · exact Iff.rfl
      · simp [e]
  · intro kl hh
    by_cases e : kl = .int .i64 (k : Int)
    · refine ⟨k, ?_, e⟩
      unfold putK
      split
      · assumption
      · simp
    · rw [Maps.has_put_other e] at hh
      obtain ⟨j, hj, e'⟩ := h.keys kl hh
      refine ⟨j, ?_, e'⟩
      unfold putK
      split
      · exact hj
      · simp [hj]
  · intro j u hj
    unfold putM at hj
    by_cases e : j = k
    · subst e
      rw [if_pos rfl] at hj
      cases hj
      exact ⟨Maps.has_put_same h.tidy.isMap hk _, fun z => Maps.atKey_put_same h.tidy.isMap hk _ z⟩
    · rw [if_neg e] at hj
      obtain ⟨h1, h2⟩ := h.there j u hj
      exact ⟨by rw [Maps.has_put_other (hne j e)]; exact h1, fun z => by rw [Maps.atKey_put_other (hne j e)]; exact h2 z⟩
  · rw [Maps.size_put h.tidy, h.has_iff k, h.size]
    unfold putK
    cases hm : M k with
    | none =>
      have : k ∉ ks := fun hc => (h.mem k).1 hc hm
      simp [this]
    | some u =>
      have : k ∈ ks := (h.mem k).2 (by rw [hm]; simp)
      simp [this]

theorem ownsMap_tight {w : World} {P : Program} {k : TypeId} {R : Rdr} {b n : Nat} {D : DU} (h : w.ownsMap P k R b n D) : w.ownsMap P k R b (Maps.size D) D := by
  obtain ⟨es, clock, hb, F, hs, rfl⟩ := h
  exact ⟨es, clock, hb, F, by simp only [Maps.size]; rw [length_read]; exact Nat.le_refl _, rfl⟩

/-- A map that the call has made. -/
def mapP {α : Type} (R : Rdr) (dat : α → DU) (mb : Nat) (M : Nat → Option α) (ks : List Nat) : HP where
  at' w fp := fp = [mb] ∧ ∃ D n, w.ownsMap Tryz.prog 3 R mb n D ∧ MapIs dat D M ks
  lt := by
    rintro w fp ⟨rfl, D, n, h, -⟩ k hk
    simp at hk
    subst hk
    exact h.lt
  keep := by
    rintro w w' fp ⟨rfl, D, n, ⟨es, clock, hb, F, hs, hD⟩, hi⟩ hk
    exact ⟨rfl, D, n, ⟨es, clock, (hk mb (by simp)).trans hb, F, hs, hD⟩, hi⟩

theorem Pres.of_grown {w w' : World} {row : Option Nat} {fp : List Nat} (h : w.grownBy w' row) (hr : ∀ k, row = some k → k ∈ fp) : Pres fp w w' :=
  ⟨h.os, h.tape, h.output, h.size, fun k hk hn => h.block k hk (fun e => hn (hr k e.symm))⟩

section
variable {α : Type} {R : Rdr} {dat : α → DU} {w0 w : World} {ps : List HP} {mb : Nat} {M : Nat → Option α} {ks : List Nat}

theorem St.map (H : St w0 w ps) (i : Nat) (h : ps[i]? = some (mapP R dat mb M ks)) : ∃ D, w.ownsMap Tryz.prog 3 R mb ks.length D ∧ MapIs dat D M ks := by
  obtain ⟨f, ⟨-, D, n, h1, h2⟩, -⟩ := H.get i h
  exact ⟨D, by rw [← h2.size]; exact ownsMap_tight h1, h2⟩

theorem St.mapNew (H : St w0 w ps) (R : Rdr) (dat : α → DU) : St w0 (w.alloc (.map #[] 0)) (mapP R dat w.heap.size (fun _ => none) [] :: ps) :=
  H.fresh _ ((Pres.refl _ _).alloc _) ⟨[w.heap.size], ⟨rfl, _, _, World.ownsMap_made w Tryz.prog 3 R, MapIs.empty dat⟩, by simp⟩

theorem St.mapPut (H : St w0 w ps) (i : Nat) (h : ps[i]? = some (mapP R dat mb M ks)) {k : Nat} {v : α} {n : Nat} {D : DU} {w' : World} (hi : MapIs dat D M ks)
    (h1 : w'.ownsMap Tryz.prog 3 R mb n (D.put (.int .i64 (k : Int)) (dat v))) (hg : w.grownBy w' (some mb)) : St w0 w' (ps.set i (mapP R dat mb (putM M k v) (putK ks k))) := by
  obtain ⟨f, ⟨rfl, -⟩, -, h2⟩ := H.turn i h
  exact h2 _ _ ⟨[mb], ⟨rfl, _, _, h1, hi.put k v⟩, Pres.of_grown hg (by simp), fun k hk => .inl hk⟩
end

/-! ## A leaf's value -/

def leafV (p : Nat × List UInt8) : Value := .agg #[.int .i64 (p.1 : Int), strV p.2]
def leafD (p : Nat × List UInt8) : DU := .agg [.lit (.int .i64 (p.1 : Int)), .lit (.string p.2)]

def leafL : List Value → Option (DU × List MemPlace)
  | [.int .i64 k, .string s] => some (.agg [.lit (.int .i64 k), .lit (.string s.data.toList)], [])
  | _ => none

def leafR : Rdr
  | .agg cs => leafL cs.toList
  | _ => none

theorem leafR_mk (p : Nat × List UInt8) : leafR (leafV p) = some (leafD p, []) := by simp [leafR, leafL, leafV, leafD, strV]

theorem leafR_inv {v : Value} {z : DU × List MemPlace} (h : leafR v = some z) : ∃ (k : Int) (s : ByteArray), v = .agg #[.int .i64 k, .string s] ∧ z = (.agg [.lit (.int .i64 k), .lit (.string s.data.toList)], []) := by
  cases v with
  | agg cs =>
    have h' : leafL cs.toList = some z := h
    have hc : cs = cs.toList.toArray := by simp
    rw [hc]
    generalize cs.toList = l at *
    unfold leafL at h'
    split at h'
    · cases h'
      exact ⟨_, _, rfl, rfl⟩
    · cases h'
  | _ => cases h

theorem leafR_eq {v : Value} {p : Nat × List UInt8} {ps : List MemPlace} (h : leafR v = some (leafD p, ps)) : v = leafV p := by
  obtain ⟨k, s, rfl, e⟩ := leafR_inv h
  simp only [leafD, Prod.mk.injEq, DataW.agg.injEq, List.cons.injEq, DataW.lit.injEq, Lit.int.injEq, true_and, Lit.string.injEq, and_true] at e
  obtain ⟨⟨e1, e2⟩, -⟩ := e
  rw [leafV, e1, e2, strV]

/-- A text's value. -/
def textD (l : List UInt8) : DU := .lit (.string l)

def textR : Rdr
  | .string s => some (.lit (.string s.data.toList), [])
  | _ => none

theorem textR_mk (l : List UInt8) : textR (strV l) = some (textD l, []) := by simp [textR, strV, textD]

theorem textR_eq {v : Value} {l : List UInt8} {ps : List MemPlace} (h : textR v = some (textD l, ps)) : v = strV l := by
  unfold textR at h
  split at h
  · simp only [textD, Option.some.injEq, Prod.mk.injEq, DataW.lit.injEq, Lit.string.injEq] at h
    obtain ⟨h, -⟩ := h
    rw [strV, ← h]
  · cases h

theorem int_key : Maps.Keyed Tryz.prog 3 := Maps.int_keyed Tryz.underlying3

theorem key_of (n : Nat) (h : n < 9223372036854775808) : keyOf Tryz.prog 3 (.int .i64 (n : Int)) = some (.int .i64 (n : Int)) :=
  Maps.keyOf_int_mk Tryz.underlying3 (WalkArith.wf_i64 (by omega))

end Go.Proofs.YtnffnpndnaofhaaGreatDoor
