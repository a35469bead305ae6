/- The disk's contracts on a state of pieces; all conditions stand in the theorems. -/
import Derived.Test.YtjaabhdgahljcaaDoorDiskF
import Derived.Test.YtjaabhdgahljcaaDoorSt
namespace Go.Proofs.YtjaabhdgahljcaaDoor
open Go.RowKit

def diskP (d : Nat) (σ : Dk) : HP := ⟨fun w fp => DiskAt w d fp σ, DiskAt.lt, DiskAt.keep⟩

section
variable {w0 w : World} {ps : List HP} {d : Nat} {σ : Dk}

theorem sd_ok (H : St w0 w (diskP d σ :: ps)) : σ.Ok := by
  obtain ⟨f, h, -⟩ := H.get 0 rfl
  exact DiskAt.ok h

theorem sd_new (H : St w0 w ps) (n : Int) (h1 : 1 ≤ n) (h2 : n ≤ 65536) :
    Calls Tryd.prog 27 #[.int .i64 n] w fun e w' => ∃ d, e = .returned (.tuple #[.pointer (some ⟨d, 0, none⟩), .int .i64 0]) ∧ St w0 w' (diskP d (Dk.new n.toNat) :: ps) := by
  refine (new_ok' n w h1 h2).mono ?_
  rintro e w' ⟨d, fp, rfl, h3, h4, h5⟩
  exact ⟨d, rfl, H.fresh _ h4 ⟨fp, h3, h5⟩⟩

theorem sd_size (H : St w0 w (diskP d σ :: ps)) :
    Calls Tryd.prog 35 #[.pointer (some ⟨d, 0, none⟩)] w fun e w' => e = .returned (.int .i64 (σ.kept.length : Int)) ∧ w = w' := by
  obtain ⟨f, h, -⟩ := H.get 0 rfl
  exact disk_size h

theorem sd_pending (H : St w0 w (diskP d σ :: ps)) :
    Calls Tryd.prog 33 #[.pointer (some ⟨d, 0, none⟩)] w fun e w' => e = .returned (.int .i64 (σ.pend.length : Int)) ∧ w = w' := by
  obtain ⟨f, h, -⟩ := H.get 0 rfl
  exact disk_pending h

theorem sd_down (H : St w0 w (diskP d σ :: ps)) :
    Calls Tryd.prog 26 #[.pointer (some ⟨d, 0, none⟩)] w fun e w' => e = .returned (.bool σ.down) ∧ w = w' := by
  obtain ⟨f, h, -⟩ := H.get 0 rfl
  exact disk_down h

theorem sd_done (H : St w0 w (diskP d σ :: ps)) :
    Calls Tryd.prog 32 #[.pointer (some ⟨d, 0, none⟩)] w fun e w' => e = .returned (.int .i64 σ.done) ∧ w = w' := by
  obtain ⟨f, h, -⟩ := H.get 0 rfl
  exact disk_done h

theorem sd_read (H : St w0 w (diskP d σ :: ps)) (i : Int) :
    Calls Tryd.prog 13 #[.pointer (some ⟨d, 0, none⟩), .int .i64 i] w fun e w' => e = .returned (.tuple #[.string ⟨(σ.read i).1.toArray⟩, .int .i64 (σ.read i).2]) ∧ St w0 w' (diskP d σ :: ps) ∧ Pres [] w w' := by
  obtain ⟨f, h, -⟩ := H.get 0 rfl
  exact (disk_read h i).mono fun e w' h => ⟨h.1, H.quiet h.2, h.2⟩

theorem sd_write (H : St w0 w (diskP d σ :: ps)) (i : Int) (s : ByteArray) (hroom : σ.pend.length ≤ 1000000000) :
    Calls Tryd.prog 10 #[.pointer (some ⟨d, 0, none⟩), .int .i64 i, .string s] w fun e w' => e = .returned (.int .i64 (σ.write i s.data.toList).1) ∧ St w0 w' (diskP d (σ.write i s.data.toList).2 :: ps) :=
  H.run fun _ h => disk_write h i s hroom

theorem sd_flush (H : St w0 w (diskP d σ :: ps)) :
    Calls Tryd.prog 70 #[.pointer (some ⟨d, 0, none⟩)] w fun e w' => e = .returned (.int .i64 σ.flush.1) ∧ St w0 w' (diskP d σ.flush.2 :: ps) :=
  H.run fun _ h => disk_flush h

theorem sd_arm (H : St w0 w (diskP d σ :: ps)) (n : Int) (hb : n ≤ 9223372036854775807) :
    Calls Tryd.prog 25 #[.pointer (some ⟨d, 0, none⟩), .int .i64 n] w fun e w' => e = .returned (.int .i64 (σ.arm n).1) ∧ St w0 w' (diskP d (σ.arm n).2 :: ps) :=
  H.run fun _ h => disk_arm h n hb

theorem sd_off (H : St w0 w (diskP d σ :: ps)) :
    Calls Tryd.prog 23 #[.pointer (some ⟨d, 0, none⟩)] w fun e w' => e = .returned (.int .i64 σ.off.1) ∧ St w0 w' (diskP d σ.off.2 :: ps) :=
  H.run fun _ h => disk_off h

theorem sd_on (H : St w0 w (diskP d σ :: ps)) {v : Value} {keep : List Bool} (hs : Safe w0 ps v (keep.map Value.bool)) :
    Calls Tryd.prog 24 #[.pointer (some ⟨d, 0, none⟩), v] w fun e w' => e = .returned (.int .i64 (σ.on keep).1) ∧ St w0 w' (diskP d (σ.on keep).2 :: ps) :=
  H.runS hs fun _ h hd => disk_on h (hs.reads H.drop) (fun hk => hd (by simpa using hk))
end

end Go.Proofs.YtjaabhdgahljcaaDoor
