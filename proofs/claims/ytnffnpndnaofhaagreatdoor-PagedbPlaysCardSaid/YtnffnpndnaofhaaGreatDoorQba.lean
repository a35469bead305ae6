/- Parts of the proof: Databases and transactions that no call made, and transactions that are over: what each call answers; conditions stand in the theorems. -/
import Derived.Test.YtnffnpndnaofhaaGreatDoorQaz
import Derived.Test.YtnffnpndnaofhaaGreatDoorQac

/- Databases and transactions that no call made, and transactions that are over: what each call answers; conditions stand in the theorems. -/
namespace Go.Proofs.YtnffnpndnaofhaaGreatDoor
open Go.RowKit
set_option maxRecDepth 100000

def NoDb (w : World) (v : Value) : Prop := v = .pointer none ∨ ∃ x, v = .pointer (some ⟨x, 0, none⟩) ∧ w.cell? ⟨x, 0, none⟩ = some (.pointer none)

def NoTx (w : World) (v : Value) : Prop := v = .pointer none ∨ ∃ t, v = .pointer (some ⟨t, 0, none⟩) ∧
  (w.cell? ⟨t, 0, none⟩ = some (.pointer none) ∨ ∃ x, w.cell? ⟨t, 0, none⟩ = some (.pointer (some ⟨x, 0, none⟩)) ∧ w.cell? ⟨x, 10, none⟩ = some (.pointer none))

theorem NoTx.pres {w w' : World} {v : Value} (h : NoTx w v) (hp : Pres [] w w') : NoTx w' v := by
  rcases h with h | ⟨t, h, h2⟩
  · exact .inl h
  · refine .inr ⟨t, h, ?_⟩
    rcases h2 with h2 | ⟨x, h2, h3⟩
    · exact .inl (hp.cell h2 (by simp))
    · exact .inr ⟨x, hp.cell h2 (by simp), hp.cell h3 (by simp)⟩

theorem NoDb.pres {w w' : World} {v : Value} (h : NoDb w v) (hp : Pres [] w w') : NoDb w' v := by
  rcases h with h | ⟨x, h, h2⟩
  · exact .inl h
  · exact .inr ⟨x, h, hp.cell h2 (by simp)⟩

theorem nodb_none {w : World} {v : Value} (h : NoDb w v) : Calls Tryz.prog 61 #[v] w fun e w' => e = .returned (.bool true) ∧ w = w' := by
  rcases h with rfl | ⟨x, rfl, c0⟩
  all_goals
    go_enter Tryz.func61, Tryz.ntmps61
    go_wp2
    go_ret
    exact ⟨rfl, rfl⟩

theorem nodb_up {w : World} {v : Value} (h : NoDb w v) : Calls Tryz.prog 50 #[v] w fun e w' => e = .returned (.int .i64 1) ∧ w = w' := by
  have hn := fun W (hW : W = w) => hW ▸ nodb_none h
  clear h
  go_enter Tryz.func50, Tryz.ntmps50
  go_wp2_with (go_at_call 61; refine (hn _ rfl).mono ?_; rintro e w' ⟨rfl, rfl⟩)
  go_ret
  exact ⟨rfl, rfl⟩

theorem nodb_begin {w : World} {v : Value} (h : NoDb w v) : Calls Tryz.prog 15 #[v] w fun e w' => e = .returned (.tuple #[.pointer none, .int .i64 1]) ∧ w = w' := by
  have hn := fun W (hW : W = w) => hW ▸ nodb_up h
  clear h
  go_enter Tryz.func15, Tryz.ntmps15
  go_wp2_with (go_at_call 50; refine (hn _ rfl).mono ?_; rintro e w' ⟨rfl, rfl⟩)
  go_ret2
  exact ⟨rfl, rfl⟩

theorem nodb_checkpoint {w : World} {v : Value} (h : NoDb w v) : Calls Tryz.prog 23 #[v] w fun e w' => e = .returned (.int .i64 1) ∧ w = w' := by
  have hn := fun W (hW : W = w) => hW ▸ nodb_up h
  clear h
  go_enter Tryz.func23, Tryz.ntmps23
  go_wp2_with (go_at_call 50; refine (hn _ rfl).mono ?_; rintro e w' ⟨rfl, rfl⟩)
  go_ret
  exact ⟨rfl, rfl⟩

theorem nodb_count {w : World} {v : Value} (h : NoDb w v) : Calls Tryz.prog 24 #[v] w fun e w' => e = .returned (.int .i64 0) ∧ w = w' := by
  have hn := fun W (hW : W = w) => hW ▸ nodb_none h
  clear h
  go_enter Tryz.func24, Tryz.ntmps24
  go_wp2_with (go_at_call 61; refine (hn _ rfl).mono ?_; rintro e w' ⟨rfl, rfl⟩)
  go_ret
  exact ⟨rfl, rfl⟩

theorem nodb_high {w : World} {v : Value} (h : NoDb w v) : Calls Tryz.prog 25 #[v] w fun e w' => e = .returned (.int .i64 0) ∧ w = w' := by
  have hn := fun W (hW : W = w) => hW ▸ nodb_none h
  clear h
  go_enter Tryz.func25, Tryz.ntmps25
  go_wp2_with (go_at_call 61; refine (hn _ rfl).mono ?_; rintro e w' ⟨rfl, rfl⟩)
  go_ret
  exact ⟨rfl, rfl⟩

theorem nodb_free {w : World} {v : Value} (h : NoDb w v) : Calls Tryz.prog 26 #[v] w fun e w' => e = .returned (.int .i64 0) ∧ w = w' := by
  have hn := fun W (hW : W = w) => hW ▸ nodb_none h
  clear h
  go_enter Tryz.func26, Tryz.ntmps26
  go_wp2_with (go_at_call 61; refine (hn _ rfl).mono ?_; rintro e w' ⟨rfl, rfl⟩)
  go_ret
  exact ⟨rfl, rfl⟩

theorem ptr_nilIn (W : World) (t d : Nat) : (Op.equalIn (d + 1) 40 (.pointer none) (.pointer (some ⟨t, 0, none⟩))).run Tryz.prog W = .ok false W := by
  simp [Op.equalIn, run_underlying Tryz.underlying40]

theorem ptr_nil (W : World) (t : Nat) : (Op.equal 40 (.pointer none) (.pointer (some ⟨t, 0, none⟩))).run Tryz.prog W = .ok false W := ptr_nilIn W t 9999

theorem ptr_neq_nil (W : World) (t : Nat) : (binOp .neq 40 (.pointer none) (.pointer (some ⟨t, 0, none⟩))).run Tryz.prog W = .ok (.bool true) W := by
  simp only [binOp]
  simp [ptr_nil W t]

theorem no_up {w : World} {v : Value} (h : NoTx w v) : Calls Tryz.prog 53 #[v] w fun e w' => e = .returned (.int .i64 1) ∧ w = w' := by
  rcases h with rfl | ⟨t, rfl, c0 | ⟨x, c0, c10⟩⟩
  · go_enter Tryz.func53, Tryz.ntmps53
    go_wp2
    go_ret
    exact ⟨rfl, rfl⟩
  · go_enter Tryz.func53, Tryz.ntmps53
    go_wp2
    go_ret
    exact ⟨rfl, rfl⟩
  · have hpp := fun W => ptr_neq_nil W t
    go_enter Tryz.func53, Tryz.ntmps53
    go_wp2
    go_ret
    exact ⟨rfl, rfl⟩

theorem no_there {w : World} {v : Value} (h : NoTx w v) (k : Int) : Calls Tryz.prog 52 #[v, .int .i64 k] w fun e w' => e = .returned (.tuple #[.agg #[.int .i64 0, .string ⟨#[]⟩], .int .i64 1]) ∧ Pres [] w w' := by
  have H1 := hid ((St.start w).alloc [.int .i64 0, .string ⟨#[]⟩] 101)
  have hn := fun W (hW : W = w.alloc (.cells #[.int .i64 0, .string ⟨#[]⟩] 101)) => hW ▸ no_up (h.pres H1.out.pres)
  clear h
  go_enter Tryz.func52, Tryz.ntmps52
  go_upto_region 3 with (go_at_call 53; refine (hn _ rfl).mono ?_; rintro e w' ⟨rfl, rfl⟩)
  go_wp2
  (try simp only [Exit.inBlock, Exit.then])
  refine bodyPost_ret (results_cell_at (cs := [.int .i64 0, .string ⟨#[]⟩]) rfl rfl leaf_agg leaf_size (H1.out.obj 0 rfl)) rfl ?_
  exact ⟨rfl, H1.out.pres⟩

theorem no_read {w : World} {v : Value} (h : NoTx w v) (k : Int) : Calls Tryz.prog 18 #[v, .int .i64 k] w fun e w' => e = .returned (.tuple #[.int .i64 0, .string ⟨#[]⟩, .int .i64 1]) ∧ Pres [] w w' := by
  have hn := no_there h k
  clear h
  go_enter Tryz.func18, Tryz.ntmps18
  go_upto_region 2 with (go_at_call 52; refine hn.mono ?_; rintro e w2 ⟨rfl, P2⟩)
  have P3 := hid (P2.alloc (.cells #[.int .i64 0, .string ⟨#[]⟩] 101))
  clear hn P2
  go_wp2
  go_ret3
  exact ⟨rfl, P3.out⟩

theorem no_write {w : World} {v : Value} (h : NoTx w v) (k kd : Int) (s : Value) : Calls Tryz.prog 22 #[v, .int .i64 k, .int .i64 kd, s] w fun e w' => e = .returned (.int .i64 1) ∧ Pres [] w w' := by
  have hn := no_there h k
  clear h
  go_enter Tryz.func22, Tryz.ntmps22
  go_upto_region 2 with (go_at_call 52; refine hn.mono ?_; rintro e w2 ⟨rfl, P2⟩)
  have P3 := hid (P2.alloc (.cells #[.int .i64 0, .string ⟨#[]⟩] 101))
  clear hn P2
  go_wp2
  go_ret
  exact ⟨rfl, P3.out⟩

theorem no_free {w : World} {v : Value} (h : NoTx w v) (k : Int) : Calls Tryz.prog 28 #[v, .int .i64 k] w fun e w' => e = .returned (.int .i64 1) ∧ Pres [] w w' := by
  have hn := no_there h k
  clear h
  go_enter Tryz.func28, Tryz.ntmps28
  go_upto_region 2 with (go_at_call 52; refine hn.mono ?_; rintro e w2 ⟨rfl, P2⟩)
  have P3 := hid (P2.alloc (.cells #[.int .i64 0, .string ⟨#[]⟩] 101))
  clear hn P2
  go_wp2
  go_ret
  exact ⟨rfl, P3.out⟩

theorem no_alloc {w : World} {v : Value} (h : NoTx w v) : Calls Tryz.prog 21 #[v] w fun e w' => e = .returned (.tuple #[.int .i64 0, .int .i64 1]) ∧ w = w' := by
  have hn := fun W (hW : W = w) => hW ▸ no_up h
  clear h
  go_enter Tryz.func21, Tryz.ntmps21
  go_wp2_with (go_at_call 53; refine (hn _ rfl).mono ?_; rintro e w' ⟨rfl, rfl⟩)
  go_ret2
  exact ⟨rfl, rfl⟩

theorem no_root {w : World} {v : Value} (h : NoTx w v) (i : Int) : Calls Tryz.prog 29 #[v, .int .i64 i] w fun e w' => e = .returned (.int .i64 0) ∧ w = w' := by
  have hn := fun W (hW : W = w) => hW ▸ no_up h
  clear h
  go_enter Tryz.func29, Tryz.ntmps29
  go_wp2_with (go_at_call 53; refine (hn _ rfl).mono ?_; rintro e w' ⟨rfl, rfl⟩)
  go_ret
  exact ⟨rfl, rfl⟩

theorem no_setroot {w : World} {v : Value} (h : NoTx w v) (i n : Int) : Calls Tryz.prog 30 #[v, .int .i64 i, .int .i64 n] w fun e w' => e = .returned (.int .i64 1) ∧ w = w' := by
  have hn := fun W (hW : W = w) => hW ▸ no_up h
  clear h
  go_enter Tryz.func30, Tryz.ntmps30
  go_wp2_with (go_at_call 53; refine (hn _ rfl).mono ?_; rintro e w' ⟨rfl, rfl⟩)
  go_ret
  exact ⟨rfl, rfl⟩

theorem no_commit {w : World} {v : Value} (h : NoTx w v) : Calls Tryz.prog 20 #[v] w fun e w' => e = .returned (.int .i64 1) ∧ w = w' := by
  have hn := fun W (hW : W = w) => hW ▸ no_up h
  clear h
  go_enter Tryz.func20, Tryz.ntmps20
  go_wp2_with (go_at_call 53; refine (hn _ rfl).mono ?_; rintro e w' ⟨rfl, rfl⟩)
  go_ret
  exact ⟨rfl, rfl⟩

theorem no_changed {w : World} {v : Value} (h : NoTx w v) : Calls Tryz.prog 31 #[v] w fun e w' => e = .returned (.int .i64 0) ∧ w = w' := by
  rcases h with rfl | ⟨t, rfl, c0 | ⟨x, c0, c10⟩⟩
  · go_enter Tryz.func31, Tryz.ntmps31
    go_wp2
    go_ret
    exact ⟨rfl, rfl⟩
  · go_enter Tryz.func31, Tryz.ntmps31
    go_wp2
    go_ret
    exact ⟨rfl, rfl⟩
  · have hpp := fun W => ptr_neq_nil W t
    go_enter Tryz.func31, Tryz.ntmps31
    go_wp2
    go_ret
    exact ⟨rfl, rfl⟩

theorem ptr_eql_nil (W : World) (t : Nat) : (binOp .eql 40 (.pointer none) (.pointer (some ⟨t, 0, none⟩))).run Tryz.prog W = .ok (.bool false) W := by
  simp only [binOp]
  simp [ptr_nil W t]

theorem no_abort {w : World} {v : Value} (h : NoTx w v) : Calls Tryz.prog 17 #[v] w fun e w' => e = .returned (.tuple #[]) ∧ w = w' := by
  rcases h with rfl | ⟨t, rfl, c0 | ⟨x, c0, c10⟩⟩
  · go_enter Tryz.func17, Tryz.ntmps17
    go_wp2
    go_end0
    exact ⟨rfl, rfl⟩
  · go_enter Tryz.func17, Tryz.ntmps17
    go_wp2
    go_end0
    exact ⟨rfl, rfl⟩
  · have hpp := fun W => ptr_eql_nil W t
    go_enter Tryz.func17, Tryz.ntmps17
    go_wp2
    go_end0
    exact ⟨rfl, rfl⟩

theorem no_spoil (w : World) : Calls Tryz.prog 27 #[.pointer none] w fun e w' => e = .returned (.tuple #[]) ∧ w = w' := by
  go_enter Tryz.func27, Tryz.ntmps27
  go_wp2
  go_end0
  exact ⟨rfl, rfl⟩

end Go.Proofs.YtnffnpndnaofhaaGreatDoor

/- aquiferlaw10.state: what a database has, as a transaction tells it; conditions stand in the theorem. -/
namespace Go.Proofs.YtnffnpndnaofhaaGreatDoor
open Go.RowKit
set_option maxRecDepth 100000

def pageCells : Option Leaf → List Value
  | some p => [.int .i64 (p.1 : Int), strV p.2, .bool false]
  | none => [.int .i64 0, .string ⟨#[]⟩, .bool true]

def numV (n : Nat) : Value := .int .i64 (n : Int)

theorem pageCells_length (p : Option Leaf) : (pageCells p).length = 3 := by cases p <;> rfl

theorem pageCells_one {l : List (Option Leaf)} : ∀ u ∈ l.flatMap pageCells, u.oneCell' = true := by
  intro u hu
  obtain ⟨q, -, hq⟩ := List.mem_flatMap.1 hu
  cases q <;> simp only [pageCells, List.mem_cons, List.not_mem_nil, or_false] at hq <;> rcases hq with rfl | rfl | rfl <;> rfl

/-- A state in memory: pages, pages that came free, roots. -/
def statP (pv fv rv : Value) (S : PSt) : HP :=
  packP [slP pv 54 3 S.pages.length (S.pages.flatMap pageCells), slP fv 3 1 S.freed.length (S.freed.map numV), slP rv 3 1 4 [numV S.r0, numV S.r1, numV S.r2, numV S.r3]]

theorem page_size : (Tryz.prog.info? 54).map (·.size) = some 3 := by kernel_rfl
theorem page_zero : (Tryz.prog.info? 54).bind (·.zero) = some (.agg #[.int .i64 0, .string ⟨#[]⟩, .bool false]) := by kernel_rfl
theorem page_agg : IsAgg Tryz.prog 54 := ⟨_, Tryz.underlying54, rfl⟩
theorem state_agg : IsAgg Tryz.prog 37 := ⟨_, Tryz.underlying37, rfl⟩
theorem state_size : (Tryz.prog.info? 37).map (·.size) = some 3 := by kernel_rfl
theorem info_page : ∃ i, Tryz.prog.info? 54 = some i ∧ i.zero = some (.agg #[.int .i64 0, .string ⟨#[]⟩, .bool false]) ∧ i.size = 3 ∧ i.bytes = 32 := by
  obtain ⟨i, h1, h2, h3, h4⟩ := info_of (P := Tryz.prog) (t := 54) (n := 3) (b := 32) (zs := [.int .i64 0, .string ⟨#[]⟩, .bool false]) (by kernel_rfl)
  exact ⟨i, h1, h2, h3, h4⟩

/-- At the head of a round of the first loop: k pages are told. -/
def StateAt (w0 wr : World) (ps : List HP) (x d t N log cnt E : Nat) (arm : Bool) (S : PSt) (rv : Value) (sb rb k : Nat) : Prop :=
  ∃ pv, St w0 wr (txP x d t N log cnt E arm S S (fun _ => false) false false :: objP sb [pv, .slice none 0 0, rv] 37 :: slP pv 54 3 k ((S.pages.take k).flatMap pageCells) :: slP rv 3 1 4 [numV S.r0, numV S.r1, numV S.r2, numV S.r3] :: objP rb [.slice none 0 0, .slice none 0 0, .slice none 0 0] 37 :: ps)

theorem there_some {S : PSt} {k : Nat} {p : Leaf} (h1 : 1 ≤ k) (h : S.pages[k]? = some (some p)) : S.there (k : Int) = 0 ∧ S.page (k : Int) = p := by
  have hl := (List.getElem?_eq_some_iff.1 h).1
  unfold PSt.there PSt.page
  rw [if_neg (by omega), Int.toNat_natCast, h, if_neg (by simp)]
  exact ⟨rfl, rfl⟩

theorem there_none {S : PSt} {k : Nat} (h1 : 1 ≤ k) (h : S.pages[k]? = some none) : S.there (k : Int) = 8 := by
  have hl := (List.getElem?_eq_some_iff.1 h).1
  unfold PSt.there
  rw [if_neg (by omega), Int.toNat_natCast, if_pos h]

theorem info_intS : ∃ i, Tryz.prog.info? 3 = some i ∧ i.zero = some (.int .i64 0) ∧ i.size = 1 ∧ i.bytes = 8 := by
  obtain ⟨i, h1, h2, h3, h4⟩ := info_parts (P := Tryz.prog) (show (Tryz.prog.info? 3).map (fun i => (i.zero, i.size, i.bytes)) = some (some (.int .i64 0), 1, 8) by kernel_rfl)
  exact ⟨i, h1, h2, h3, h4⟩

theorem nums_one {l : List Nat} : ∀ u ∈ l.map numV, u.oneCell' = true := by
  intro u hu
  obtain ⟨q, -, rfl⟩ := List.mem_map.1 hu
  rfl

/-- At the head of a round of the second loop: j pages that came free are told, the newest first. -/
def StateBt (w0 wr : World) (ps : List HP) (x d t N log cnt E : Nat) (arm : Bool) (S : PSt) (pv rv : Value) (sb rb F j : Nat) : Prop :=
  ∃ fv T tk mk, T.freed = S.freed.take (F - j) ∧ St w0 wr (txP x d t N log cnt E arm S T tk mk false :: objP sb [pv, fv, rv] 37 :: slP fv 3 1 j ((S.freed.drop (F - j)).map numV) :: slP pv 54 3 S.pages.length (S.pages.flatMap pageCells) :: slP rv 3 1 4 [numV S.r0, numV S.r1, numV S.r2, numV S.r3] :: objP rb [.slice none 0 0, .slice none 0 0, .slice none 0 0] 37 :: ps)

section
variable {w0 w : World} {ps : List HP} {x d N log cnt E : Nat} {arm : Bool} {S : PSt}

set_option maxHeartbeats 8000000 in
theorem law_state (hh : HalfAt w0) (H : St w0 w (dbP x d N log cnt E arm S :: ps)) :
    Calls Tryz.prog 14 #[.pointer (some ⟨x, 0, none⟩)] w fun e w' => ∃ pv fv rv, e = .returned (.tuple #[.agg #[pv, fv, rv], .bool true]) ∧ St w0 w' (statP pv fv rv S :: dbP x d N log cnt E arm S :: ps) := by
  obtain ⟨D, ok, -⟩ := dbP_open H
  have hcf := ok.rest.sh.few
  have hV := hid ok.view.views
  have hmost := ok.view.views.most
  have H0 := (H.alloc [.slice none 0 0, .slice none 0 0, .slice none 0 0] 37).pull 1 rfl
  have hbg := db_begin H0
  clear H H0 ok
  obtain ⟨Post, hPost⟩ : ∃ Post : Ending → World → Prop, Hid (Post = fun e w' => ∃ pv fv rv, e = .returned (.tuple #[.agg #[pv, fv, rv], .bool true]) ∧ St w0 w' (statP pv fv rv S :: dbP x d N log cnt E arm S :: ps)) := ⟨_, hid rfl⟩
  rw [← hPost.out]
  go_enter Tryz.func14, Tryz.ntmps14
  go_upto_region 4 with (go_at_call 15; refine hbg.mono ?_; rintro e w1 ⟨t, rfl, H1⟩)
  have H1 := hid H1
  clear hbg
  generalize w.heap.size = rb at *
  have A2 := At.new w1 [.int .i64 0, .string ⟨#[]⟩, .bool false] 54
  have H2 := hid (H1.out.slice (v := .slice (some ⟨w1.heap.size, 0, none⟩) 1 1) (E := 54) (sz := 3) (n := 1) (xs := [.int .i64 0, .string ⟨#[]⟩, .bool false]) ⟨rfl, .inr ⟨_, 1, _, rfl, A2, Nat.le_refl _, by simp [maxLen], rfl, rfl⟩⟩ ((Pres.refl [] w1).alloc _) (by simp [fpv]))
  have hr := fun W (hW : St w0 W (txP x d t N log cnt E arm S S (fun _ => false) false false :: slP (.slice (some ⟨w1.heap.size, 0, none⟩) 1 1) 54 3 1 [.int .i64 0, .string ⟨#[]⟩, .bool false] :: objP rb [.slice none 0 0, .slice none 0 0, .slice none 0 0] 37 :: ps)) =>
    (show (Calls Tryz.prog 29 #[.pointer (some ⟨t, 0, none⟩), .int .i64 0] W fun e w' => e = .returned (.int .i64 (S.r0 : Int)) ∧ W = w') ∧ (Calls Tryz.prog 29 #[.pointer (some ⟨t, 0, none⟩), .int .i64 1] W fun e w' => e = .returned (.int .i64 (S.r1 : Int)) ∧ W = w') ∧ (Calls Tryz.prog 29 #[.pointer (some ⟨t, 0, none⟩), .int .i64 2] W fun e w' => e = .returned (.int .i64 (S.r2 : Int)) ∧ W = w') ∧ (Calls Tryz.prog 29 #[.pointer (some ⟨t, 0, none⟩), .int .i64 3] W fun e w' => e = .returned (.int .i64 (S.r3 : Int)) ∧ W = w') from
      ⟨tp_root hW 0 (by omega), tp_root hW 1 (by omega), tp_root hW 2 (by omega), tp_root hW 3 (by omega)⟩)
  have H2 := hid (H2.out.pull 1 rfl)
  have hr := hr _ H2.out
  go_wp2_with ((with_reducible refine at_slit ?_); refine wpList_plain rfl fun K hK => wp_value (run_slit_one (n := 3) (v := .agg #[.int .i64 0, .string ⟨#[]⟩, .bool false]) rfl rfl Tryz.underlying34 page_size page_zero rfl (by omega) (by omega) rfl) (hK _ _ ?_); clear hK K)
  refine hr.1.mono ?_
  rintro e wr ⟨rfl, rfl⟩
  go_wp2_with fail
  refine hr.2.1.mono ?_
  rintro e wr ⟨rfl, rfl⟩
  go_wp2_with fail
  refine hr.2.2.1.mono ?_
  rintro e wr ⟨rfl, rfl⟩
  go_wp2_with fail
  refine hr.2.2.2.mono ?_
  rintro e wr ⟨rfl, rfl⟩
  clear hr H1 A2
  generalize w1.heap.size = pb at *
  generalize (w1.alloc _) = w2 at *
  go_upto_region 5 with fail
  have H3 := hid ((((H2.out.alloc [numV S.r0, numV S.r1, numV S.r2, numV S.r3] 3).see (q := slP (.slice (some ⟨w2.heap.size, 0, none⟩) 4 4) 3 1 4 [numV S.r0, numV S.r1, numV S.r2, numV S.r3]) (by
    rintro fp ⟨rfl, hA⟩
    exact ⟨rfl, rfl, .inr ⟨_, 4, _, rfl, hA, Nat.le_refl _, by simp [maxLen], rfl, rfl⟩⟩)).alloc [.slice (some ⟨pb, 0, none⟩) 1 1, .slice none 0 0, .slice (some ⟨w2.heap.size, 0, none⟩) 4 4] 37))
  rw [show (w2.alloc (.cells [numV S.r0, numV S.r1, numV S.r2, numV S.r3].toArray 3)).heap.size = w2.heap.size + 1 by simp] at H3
  simp only [numV] at H3
  generalize w2.heap.size + 1 = sb at *
  generalize (Value.slice (some ⟨w2.heap.size, 0, none⟩) 4 4) = rv at *
  generalize ((w2.alloc _).alloc _) = w3 at *
  clear H2
  obtain ⟨L, hLd⟩ : ∃ L, Hid (S.pages.length = L) := ⟨_, hid rfl⟩
  have hL := hmost
  rw [hLd.out] at hL
  have hL1 : 1 ≤ L := by have := hV.out.pos; have := hLd.out; omega
  obtain ⟨nf, hi', hz', hs2, hb2⟩ := info_page
  have HI := hid (And.intro hi' (And.intro hz' (And.intro hs2 hb2)))
  have HM : StateAt w0 w3 ps x d t N log cnt E arm S rv sb rb 1 := by
    refine ⟨.slice (some ⟨pb, 0, none⟩) 1 1, ?_⟩
    have e : (S.pages.take 1).flatMap pageCells = [.int .i64 0, .string ⟨#[]⟩, .bool false] := by
      rw [List.take_add_one, List.take_zero, hV.out.zero]
      rfl
    rw [e]
    exact (H3.out.pull 3 rfl |>.pull 1 rfl |>.pull 3 rfl)
  have HM := hid HM
  clear H3 hmost hi' hz' hs2 hb2
  go_wp2
  go_loopw [7] (fun iv wr => ∃ k : Nat, 1 ≤ k ∧ k ≤ L ∧ iv = .int .i64 (k : Int) ∧ StateAt w0 wr ps x d t N log cnt E arm S rv sb rb k) (fun iv _ => L - (intOf iv).toNat)
  case atStart => exact ⟨1, Nat.le_refl _, hL1, rfl, HM.out⟩
  case round =>
    obtain ⟨k, hk1, hk, rfl, pv, hS⟩ := hrel
    clear HM
    have HS := hid hS
    clear hS
    have hhi := fun W (h : St w0 W _) => tp_high (w := W) (H := (show St w0 W (txP x d t N log cnt E arm S S (fun _ => false) false false :: objP sb [pv, .slice none 0 0, rv] 37 :: slP pv 54 3 k ((S.pages.take k).flatMap pageCells) :: slP rv 3 1 4 [numV S.r0, numV S.r1, numV S.r2, numV S.r3] :: objP rb [.slice none 0 0, .slice none 0 0, .slice none 0 0] 37 :: ps) from h))
    rw [hLd.out] at hhi
    by_cases hlt : k < L
    · have hlt' : (k : Int) < (L : Int) := by omega
      obtain ⟨o, ho⟩ : ∃ o, S.pages[k]? = some o := ⟨_, List.getElem?_eq_getElem (by have := hLd.out; omega)⟩
      have HO := hid ho
      cases o with
      | some p =>
        · obtain ⟨q1, q2⟩ := there_some hk1 ho
          obtain ⟨pk, pl⟩ := p
          obtain ⟨z, hz, ez, -⟩ := str_z pl
          have ecs : pageCells (some (pk, pl)) = [.int .i64 (pk : Int), .string z, .bool false] := by simp only [pageCells]; rw [ez]
          have ECS := hid ecs
          clear ecs
          have hrd := tp_read hh HS.out (k : Int) (by omega)
          rw [q1, q2] at hrd
          simp only [if_true] at hrd
          rw [ez] at hrd
          clear q1 q2 ez hz ho
          go_upto_region 9 with (first
            | (go_at_call 25; refine (hhi _ HS.out).mono ?_; rintro e w5 ⟨rfl, rfl⟩)
            | (go_at_call 18; refine hrd.mono ?_; rintro e w6 ⟨rfl, H6⟩))
          have H6 := hid H6
          clear hrd HS
          have c0 := (H6.out.obj 1 rfl).cell 0
          have f0 := (H6.out.obj 1 rfl).frozen 0
          have hlt0 := (H6.out.obj 1 rfl).lt
          simp only [List.getElem?_cons_zero] at c0
          have A7 := At.new w6 [.int .i64 (pk : Int), .string z, .bool false] 54
          have H7 := hid (H6.out.quiet ((Pres.refl [] w6).alloc (.cells [.int .i64 (pk : Int), .string z, .bool false].toArray 54)))
          have hsl := H7.out.sl 2 rfl
          go_wp2_with (first
            | ((with_reducible refine at_slit ?_); refine wpList_plain rfl fun K hK => wp_value (run_slit_one (n := 3) (v := .agg #[.int .i64 (pk : Int), .string z, .bool false]) rfl rfl Tryz.underlying34 page_size page_zero rfl (by omega) (by omega) rfl) (hK _ _ ?_); clear hK K)
            | ((with_reducible refine at_append ?_); go_must (refine wpL_app rfl (.tmp 58) (.tmp 64) 34 34 rfl 54 nf _ 3 Tryz.underlying34 HI.out.1 HI.out.2.1 HI.out.2.2.1 rfl _ k _ rfl hsl 1 [.int .i64 (pk : Int), .string z, .bool false] (Src.at Tryz.underlying34 A7 rfl (by simp [Value.oneCell'])) (by simp only [maxLen]; omega) (by rw [HI.out.2.2.2]; omega) ?_); intro v8 w8 Y1 Y2 Y3; have H8 := hid (H7.out.grow 2 rfl Y1 Y2 Y3); obtain ⟨ao8, cap8, rfl, -, -⟩ := Y1.shape; have f8 := (H8.out.obj 1 rfl).frozen 0; have c8 := (H8.out.obj 1 rfl).cell 0; have l8 := (H8.out.obj 1 rfl).lt; simp only [List.getElem?_cons_zero] at c8; clear Y1 Y2 Y3 hsl A7 f0 c0 hlt0))
          go_roundw
          case rel =>
            refine ⟨k + 1, by omega, by omega, by go_num, .slice ao8 (k + 1) cap8, ?_⟩
            rw [List.take_add_one, HO.out, Option.toList_some, List.flatMap_append, List.flatMap_cons, List.flatMap_nil, List.append_nil, ECS.out]
            exact H8.out.set 1 rfl 0 (.slice ao8 (k + 1) cap8)
          case measure => first | (simp [intOf]; done) | (simp [intOf]; omega)
      | none =>
        · have q1 := there_none hk1 ho
          have hrd := tp_read hh HS.out (k : Int) (by omega)
          rw [q1] at hrd
          simp only [show ¬ ((8 : Int) = 0) by decide, if_false] at hrd
          rw [show strV [] = .string ⟨#[]⟩ from rfl] at hrd
          clear q1 ho
          go_upto_region 9 with (first
            | (go_at_call 25; refine (hhi _ HS.out).mono ?_; rintro e w5 ⟨rfl, rfl⟩)
            | (go_at_call 18; refine hrd.mono ?_; rintro e w6 ⟨rfl, H6⟩))
          have H6 := hid H6
          clear hrd HS
          have c0 := (H6.out.obj 1 rfl).cell 0
          have f0 := (H6.out.obj 1 rfl).frozen 0
          have hlt0 := (H6.out.obj 1 rfl).lt
          simp only [List.getElem?_cons_zero] at c0
          have A7 := At.new w6 [.int .i64 0, .string ⟨#[]⟩, .bool true] 54
          have H7 := hid (H6.out.quiet ((Pres.refl [] w6).alloc (.cells [.int .i64 0, .string ⟨#[]⟩, .bool true].toArray 54)))
          have hsl := H7.out.sl 2 rfl
          go_wp2_with (first
            | ((with_reducible refine at_slit ?_); refine wpList_plain rfl fun K hK => wp_value (run_slit_one (n := 3) (v := .agg #[.int .i64 0, .string ⟨#[]⟩, .bool true]) rfl rfl Tryz.underlying34 page_size page_zero rfl (by omega) (by omega) rfl) (hK _ _ ?_); clear hK K)
            | ((with_reducible refine at_append ?_); go_must (refine wpL_app rfl (.tmp 58) (.tmp 64) 34 34 rfl 54 nf _ 3 Tryz.underlying34 HI.out.1 HI.out.2.1 HI.out.2.2.1 rfl _ k _ rfl hsl 1 [.int .i64 0, .string ⟨#[]⟩, .bool true] (Src.at Tryz.underlying34 A7 rfl (by simp [Value.oneCell'])) (by simp only [maxLen]; omega) (by rw [HI.out.2.2.2]; omega) ?_); intro v8 w8 Y1 Y2 Y3; have H8 := hid (H7.out.grow 2 rfl Y1 Y2 Y3); obtain ⟨ao8, cap8, rfl, -, -⟩ := Y1.shape; have f8 := (H8.out.obj 1 rfl).frozen 0; have c8 := (H8.out.obj 1 rfl).cell 0; have l8 := (H8.out.obj 1 rfl).lt; simp only [List.getElem?_cons_zero] at c8; clear Y1 Y2 Y3 hsl A7 f0 c0 hlt0))
          go_roundw
          case rel =>
            refine ⟨k + 1, by omega, by omega, by go_num, .slice ao8 (k + 1) cap8, ?_⟩
            rw [List.take_add_one, HO.out, Option.toList_some, List.flatMap_append, List.flatMap_cons, List.flatMap_nil, List.append_nil]
            exact H8.out.set 1 rfl 0 (.slice ao8 (k + 1) cap8)
          case measure => first | (simp [intOf]; done) | (simp [intOf]; omega)
    · obtain rfl : k = L := by omega
      have hend : ¬ (k : Int) < (k : Int) := by omega
      have hfl := hid (nodup_len _ _ hV.out.nodup (fun a ha => (hV.out.mem ha).2))
      obtain ⟨F, hFd⟩ : ∃ F, Hid (S.freed.length = F) := ⟨_, hid rfl⟩
      have hFL : F ≤ k := by rw [← hFd.out, ← hLd.out]; exact hfl.out
      have hfr := fun W (h : St w0 W _) => tp_frees (w := W) (H := (show St w0 W (txP x d t N log cnt E arm S S (fun _ => false) false false :: objP sb [pv, .slice none 0 0, rv] 37 :: slP pv 54 3 k ((S.pages.take k).flatMap pageCells) :: slP rv 3 1 4 [numV S.r0, numV S.r1, numV S.r2, numV S.r3] :: objP rb [.slice none 0 0, .slice none 0 0, .slice none 0 0] 37 :: ps) from h))
      rw [hFd.out] at hfr
      go_upto_region 13 with (first
        | (go_at_call 25; refine (hhi _ HS.out).mono ?_; rintro e w5 ⟨rfl, rfl⟩)
        | (go_at_call 26; refine (hfr _ HS.out).mono ?_; rintro e w6 ⟨rfl, rfl⟩))
      have HM : StateBt w0 wr ps x d t N log cnt E arm S pv rv sb rb F 0 := by
        refine ⟨.slice none 0 0, S, fun _ => false, false, by rw [Nat.sub_zero, ← hFd.out, List.take_length], ?_⟩
        have e1 : S.freed.drop (F - 0) = [] := List.drop_eq_nil_of_le (by rw [hFd.out]; omega)
        have h := HS.out
        rw [List.take_of_length_le (by rw [hLd.out]; exact Nat.le_refl _), ← hLd.out] at h
        rw [e1]
        exact ((h.nil 3 1).pull 2 rfl).pull 2 rfl
      have HM := hid HM
      clear HS hfr hhi HI nf
      obtain ⟨nf, hi', hz', hs2, hb2⟩ := info_intS
      have HI := hid (And.intro hi' (And.intro hz' (And.intro hs2 hb2)))
      clear hi' hz' hs2 hb2
      go_wp2
      go_loopw [69] (fun iv wr => ∃ j : Nat, j ≤ F ∧ iv = .int .i64 (j : Int) ∧ StateBt w0 wr ps x d t N log cnt E arm S pv rv sb rb F j) (fun iv _ => F - (intOf iv).toNat)
      case atStart => exact ⟨0, Nat.zero_le _, rfl, HM.out⟩
      case round =>
        obtain ⟨j, hj, rfl, fv, T, tk, mk, hTf, hS⟩ := hrel
        clear HM
        have HS := hid hS
        clear hS
        by_cases hjF : j < F
        · have hjF' : (j : Int) < (F : Int) := by omega
          obtain ⟨a, ha⟩ : ∃ a, S.freed[F - j - 1]? = some a := ⟨_, List.getElem?_eq_getElem (by rw [hFd.out]; omega)⟩
          have htk : S.freed.take (F - j) = S.freed.take (F - (j + 1)) ++ [a] := by
            rw [show F - j = F - (j + 1) + 1 by omega, List.take_add_one, show F - (j + 1) = F - j - 1 by omega, ha]
            rfl
          have hdr : S.freed.drop (F - (j + 1)) = a :: S.freed.drop (F - j) := by
            obtain ⟨h, e⟩ := List.getElem?_eq_some_iff.1 ha
            rw [show F - (j + 1) = F - j - 1 by omega, List.drop_eq_getElem_cons h, e, show F - j - 1 + 1 = F - j by omega]
          have hTa : T.freed = S.freed.take (F - (j + 1)) ++ [a] := by rw [hTf, htk]
          have hal0 : T.alloc cnt = (a, 0, T.take a) := by
            unfold PSt.alloc
            rw [if_neg (by rw [hTa]; simp), hTa]
            simp
          have hal := tp_alloc hh HS.out
          rw [hal0] at hal
          simp only [if_true] at hal
          have HT := hid (And.intro hTa hdr)
          clear hTa htk hdr hTf ha hal0
          go_upto_region 17 with (go_at_call 21; refine hal.mono ?_; rintro e w6 ⟨rfl, H6⟩)
          have H6 := hid H6
          clear hal HS
          have c1 := (H6.out.obj 1 rfl).cell 1
          have f1 := (H6.out.obj 1 rfl).frozen 1
          have hlt1 := (H6.out.obj 1 rfl).lt
          simp only [List.getElem?_cons_succ, List.getElem?_cons_zero] at c1
          have A7 := At.new w6 [.int .i64 (a : Int)] 3
          have H7 := hid (H6.out.slice (v := .slice (some ⟨w6.heap.size, 0, none⟩) 1 1) (E := 3) (sz := 1) (n := 1) (xs := [.int .i64 (a : Int)]) ⟨rfl, .inr ⟨_, 1, _, rfl, A7, Nat.le_refl _, by simp [maxLen], rfl, rfl⟩⟩ ((Pres.refl [] w6).alloc _) (by simp [fpv]))
          have hsl := H7.out.sl 0 rfl
          have hfv := H7.out.sl 3 rfl
          have hfone := hid (nums_one (l := S.freed.drop (F - j)))
          go_wp2_with ((with_reducible refine at_append ?_); go_must (refine wpL_app rfl (.tmp 80) (.tmp 82) 35 35 rfl 3 nf _ 1 Tryz.underlying35 HI.out.1 HI.out.2.1 HI.out.2.2.1 rfl _ 1 _ rfl hsl j _ (Src.sl Tryz.underlying35 hfv hfone.out) (by simp only [maxLen]; omega) (by rw [HI.out.2.2.2]; omega) ?_); intro v8 w8 Y1 Y2 Y3; have H8 := hid (H7.out.grow 0 rfl Y1 Y2 Y3); obtain ⟨ao8, cap8, rfl, -, -⟩ := Y1.shape; have f8 := (H8.out.obj 2 rfl).frozen 1; have c8 := (H8.out.obj 2 rfl).cell 1; have l8 := (H8.out.obj 2 rfl).lt; simp only [List.getElem?_cons_succ, List.getElem?_cons_zero] at c8; clear Y1 Y2 Y3 hsl hfv A7 f1 c1 hlt1)
          go_roundw
          case rel =>
            refine ⟨j + 1, by omega, by go_num, .slice ao8 (1 + j) cap8, T.take a, tchK tk a, true, ?_, ?_⟩
            · simp only [PSt.take]
              rw [HT.out.1]
              simp
            · rw [HT.out.2]
              have h := ((H8.out.set 2 rfl 1 (.slice ao8 (1 + j) cap8)).pull 3 rfl).drop
              rw [show j + 1 = 1 + j by omega]
              exact (h.pull 2 rfl).pull 2 rfl
          case measure => first | (simp [intOf]; done) | (simp [intOf]; omega)
        · obtain rfl : j = F := by omega
          have hendF : ¬ (j : Int) < (j : Int) := by omega
          have hab := tp_abort HS.out
          go_upto_region 20 with (go_at_call 17; refine hab.mono ?_; rintro e w6 ⟨rfl, H6⟩)
          have H6 := hid (H6.pull 1 rfl).drop
          clear hab HS
          obtain ⟨ap, cp, hpv, -, -⟩ := (H6.out.sl 3 rfl).shape
          obtain ⟨af, cf, hfv, -, -⟩ := (H6.out.sl 2 rfl).shape
          obtain ⟨ar, cr, hrv, -, -⟩ := (H6.out.sl 4 rfl).shape
          have hone : Hid (∀ v ∈ [pv, fv, rv], v.oneCell' = true) := hid (by
            intro v hv
            simp only [List.mem_cons, List.not_mem_nil, or_false] at hv
            rcases hv with rfl | rfl | rfl
            · rw [hpv]; rfl
            · rw [hfv]; rfl
            · rw [hrv]; rfl)
          clear hpv hfv hrv
          go_wp2_with (first
            | ((with_reducible refine at_load ?_); refine wpL_load rfl 37 (.tmp 6) rfl sb 0 3 rfl _ _ (H6.out.obj 1 rfl) state_agg state_size (by simp) ?_; simp only [List.drop_zero, List.take_succ_cons, List.take_zero])
            | ((with_reducible refine at_store ?_); refine wpL_store rfl 37 (.tmp 2) (.tmp 88) rfl rb 0 3 rfl [pv, fv, rv] rfl _ _ (H6.out.obj 5 rfl) state_size rfl (by simp) hone.out ?_; intro w8 A8 P8 S8; have H8 := hid (H6.out.put 5 rfl A8 P8)))
          (try simp only [Exit.inBlock, Exit.then])
          refine bodyPost_ret (results_cell_at (cs := [pv, fv, rv]) rfl rfl state_agg state_size (show At w8 rb [pv, fv, rv] 37 from A8)) rfl ?_
          rw [hPost.out]
          refine ⟨pv, fv, rv, rfl, ?_⟩
          have e2 : S.freed.drop (j - j) = S.freed := by rw [Nat.sub_self]; rfl
          have h9 := (H8.out.pull 5 rfl).drop
          simp only [List.set, List.eraseIdx] at h9
          rw [e2, ← hFd.out] at h9
          refine St.pack [_, _, _] ?_
          have h10 := (h9.pull 1 rfl).drop
          exact (h10.pull 3 rfl |>.pull 2 rfl |>.pull 3 rfl)
end

end Go.Proofs.YtnffnpndnaofhaaGreatDoor

/- aquiferref10.Same: are two states alike; conditions stand in the theorem. -/
namespace Go.Proofs.YtnffnpndnaofhaaGreatDoor
open Go.RowKit
set_option maxRecDepth 100000

/-- A state, as it is read. -/
structure SlSt (w : World) (pv fv rv : Value) (S : PSt) : Prop where
  pages : Sl w 54 3 pv S.pages.length (S.pages.flatMap pageCells)
  freed : Sl w 3 1 fv S.freed.length (S.freed.map numV)
  roots : Sl w 3 1 rv 4 [numV S.r0, numV S.r1, numV S.r2, numV S.r3]

theorem SlSt.pres {w w' : World} {pv fv rv : Value} {S : PSt} (h : SlSt w pv fv rv S) (hp : Pres [] w w') : SlSt w' pv fv rv S := ⟨h.pages.pres hp (by simp), h.freed.pres hp (by simp), h.roots.pres hp (by simp)⟩

theorem statP_read {w0 w : World} {ps : List HP} {pv fv rv : Value} {S : PSt} (H : St w0 w (statP pv fv rv S :: ps)) : SlSt w pv fv rv S := by
  have h := H.unpack
  exact ⟨h.sl 0 rfl, h.sl 1 rfl, h.sl 2 rfl⟩

theorem page_eqIn (W : World) (k1 k2 : Int) (z1 z2 : ByteArray) (f1 f2 : Bool) (d : Nat) : (Op.equalIn (d + 2) 54 (.agg #[.int .i64 k1, .string z1, .bool f1]) (.agg #[.int .i64 k2, .string z2, .bool f2])).run Tryz.prog W = .ok (decide (k1 = k2) && (z1 == z2) && decide (f1 = f2)) W := by
  simp [Op.equalIn, run_underlying Tryz.underlying54, run_underlying Tryz.underlying3, run_underlying Tryz.underlying9, run_underlying Tryz.underlying4, part, Tryz.isAgg3, Tryz.sizeOf3, Tryz.isAgg9, Tryz.sizeOf9, Tryz.isAgg4, Tryz.sizeOf4]
  by_cases h1 : k1 = k2
  · rw [if_pos h1]
    cases hz : z1 == z2
    · simp
    · by_cases h3 : f1 = f2 <;> simp [h1, h3]
  · rw [if_neg h1]
    simp [h1]

theorem ba_beq (z1 z2 : ByteArray) : (z1 == z2) = true ↔ z1 = z2 := by
  constructor
  · intro h
    cases z1
    cases z2
    rename_i a b
    have : (a == b) = true := h
    simpa using this
  · rintro rfl
    cases z1
    rename_i a
    have : (a == a) = true := by simp
    exact this

theorem page_eq (W : World) (k1 k2 : Int) (z1 z2 : ByteArray) (f1 f2 : Bool) : (Op.equal 54 (.agg #[.int .i64 k1, .string z1, .bool f1]) (.agg #[.int .i64 k2, .string z2, .bool f2])).run Tryz.prog W = .ok (decide (k1 = k2) && (z1 == z2) && decide (f1 = f2)) W := page_eqIn W k1 k2 z1 z2 f1 f2 9998

theorem page_neq (W : World) (k1 k2 : Int) (z1 z2 : ByteArray) (f1 f2 : Bool) (b : Bool) (hb : (decide (k1 = k2) && (z1 == z2) && decide (f1 = f2)) = b) : (binOp .neq 54 (.agg #[.int .i64 k1, .string z1, .bool f1]) (.agg #[.int .i64 k2, .string z2, .bool f2])).run Tryz.prog W = .ok (.bool !b) W := by
  simp only [binOp]
  simp [page_eq W k1 k2 z1 z2 f1 f2, hb]

/-- A page's three cells, told by kind, body and mark. -/
theorem pageCells_three (o : Option Leaf) : ∃ (k : Nat) (z : ByteArray) (f : Bool), pageCells o = [.int .i64 (k : Int), .string z, .bool f] := by
  cases o with
  | none => exact ⟨0, ⟨#[]⟩, true, rfl⟩
  | some p => exact ⟨p.1, ⟨p.2.toArray⟩, false, rfl⟩

theorem pageCells_inj {a b : Option Leaf} (h : pageCells a = pageCells b) : a = b := by
  cases a with
  | none =>
    cases b with
    | none => rfl
    | some p => simp [pageCells] at h
  | some p =>
    cases b with
    | none => simp [pageCells] at h
    | some q =>
      simp only [pageCells, strV, List.cons.injEq, Value.int.injEq, true_and, Value.string.injEq, ByteArray.mk.injEq, and_true] at h
      obtain ⟨h1, h2⟩ := h
      have e1 : p.1 = q.1 := by omega
      have e2 : p.2 = q.2 := by
        have := congrArg Array.toList h2
        simpa using this
      rw [Option.some.injEq]
      exact Prod.ext e1 e2

theorem pages_cell {w : World} {g n cap : Nat} {l : List (Option Leaf)} (h : Sl w 54 3 (.slice (some ⟨g, 0, none⟩) n cap) n (l.flatMap pageCells)) {i : Nat} {o : Option Leaf} (ho : l[i]? = some o) :
    ∀ (j : Nat) (v : Value), (pageCells o)[j]? = some v → w.cell? ⟨g, i * 3 + j, none⟩ = some v := by
  intro j v hj
  have hi := (List.getElem?_eq_some_iff.1 ho).1
  have hj3 : j < 3 := by
    have := (List.getElem?_eq_some_iff.1 hj).1
    rwa [pageCells_length] at this
  refine sl_cells h ?_
  have hp := flat_piece (f := pageCells) (sz := 3) (l := l) (i := i) (fun x _ => pageCells_length x) hi
  have e : l[i] = o := by
    rw [List.getElem?_eq_getElem hi] at ho
    exact Option.some.inj ho
  rw [e] at hp
  have : ((l.flatMap pageCells).drop (i * 3)).take 3 = pageCells o := hp
  rw [← hj, ← this, List.getElem?_take, if_pos hj3, List.getElem?_drop]

theorem run_loadc {P : Program} {w : World} {o : Oper} {a : Act} (ty : TypeId) (x : Operand) (ho : o.op = .load ty x) (b off : Nat) (hx : a.eval x = .pointer (some ⟨b, off, none⟩)) (cs : List Value)
    (ha : IsAgg P ty) (hs : (P.info? ty).map (·.size) = some cs.length) (h : ∀ j v, cs[j]? = some v → w.cell? ⟨b, off + j, none⟩ = some v) : (execOp a.eval o).run P w = .ok (.value (.agg cs.toArray)) w := by
  have := run_loadVar_cells (P := P) (w := w) (ad := ⟨b, off, none⟩) (ty := ty) ha hs (fun j v hj => by rw [addr_add]; exact h j v hj)
  unfold execOp
  simp only [ho, hx, Instr.loadAt, Instr.sureAddr, Sem.run_bind, Sem.run_pure, Result.andThen_ok, this]

end Go.Proofs.YtnffnpndnaofhaaGreatDoor
