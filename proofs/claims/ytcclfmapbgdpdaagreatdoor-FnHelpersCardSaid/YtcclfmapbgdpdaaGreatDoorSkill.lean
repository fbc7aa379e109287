/- The text of skills, of the program and of the reference. Printed by gen_skill.py. -/
import Derived.Test.YtcclfmapbgdpdaaGreatDoorMg
import Derived.Test.YtcclfmapbgdpdaaGreatDoorJoinZ
import Derived.Test.YtcclfmapbgdpdaaGreatDoorShelp
import Derived.Deep.RegionHeld3
namespace Go.Proofs.YtcclfmapbgdpdaaGreatDoor
open Go.RowKit
set_option linter.unusedVariables false

/-- The text of skills from 0 to 7. -/
def skT : Nat → ByteArray
  | 0 => ⟨#[110, 111, 110, 101]⟩
  | 1 => ⟨#[114, 111, 112, 101]⟩
  | 2 => ⟨#[102, 105, 114, 115, 116]⟩
  | 3 => ⟨#[114, 111, 112, 101, 43, 102, 105, 114, 115, 116]⟩
  | 4 => ⟨#[114, 97, 100, 105, 111]⟩
  | 5 => ⟨#[114, 111, 112, 101, 43, 114, 97, 100, 105, 111]⟩
  | 6 => ⟨#[102, 105, 114, 115, 116, 43, 114, 97, 100, 105, 111]⟩
  | _ => ⟨#[114, 111, 112, 101, 43, 102, 105, 114, 115, 116, 43, 114, 97, 100, 105, 111]⟩
theorem nat8 {s : Nat} (h : s ≤ 7) : s = 0 ∨ s = 1 ∨ s = 2 ∨ s = 3 ∨ s = 4 ∨ s = 5 ∨ s = 6 ∨ s = 7 := by omega
theorem bit0 : (bits BinOp.and IntKind.i64 0 1 == 1) = false := rfl
theorem bit1 : (bits BinOp.and IntKind.i64 1 1 == 1) = true := rfl
theorem bit2 : (bits BinOp.and IntKind.i64 2 1 == 1) = false := rfl
theorem bit3 : (bits BinOp.and IntKind.i64 3 1 == 1) = true := rfl
theorem bit4 : (bits BinOp.and IntKind.i64 4 1 == 1) = false := rfl
theorem bit5 : (bits BinOp.and IntKind.i64 5 1 == 1) = true := rfl
theorem bit6 : (bits BinOp.and IntKind.i64 6 1 == 1) = false := rfl
theorem bit7 : (bits BinOp.and IntKind.i64 7 1 == 1) = true := rfl

set_option maxRecDepth 100000 in
set_option maxHeartbeats 4000000 in
theorem skS0 (w : World) : Calls Tryz.prog 192 #[.int .i64 0] w fun e w' => e = .returned (.string (skT 0)) ∧ Below w.heap.size w w' := by
  have b0 := bit0
  obtain ⟨W, hW⟩ : ∃ W, W = w.alloc (.cells #[.string ⟨#[114, 111, 112, 101]⟩, .string ⟨#[102, 105, 114, 115, 116]⟩, .string ⟨#[114, 97, 100, 105, 111]⟩] 9) := ⟨_, rfl⟩
  have hB : Below w.heap.size w W := by rw [hW]; exact (Below.refl _ _).alloc (Nat.le_refl _) _
  have c0 : W.cell? ⟨w.heap.size, 0, none⟩ = some (.string ⟨#[114, 111, 112, 101]⟩) := by rw [hW]; simp
  have c1 : W.cell? ⟨w.heap.size, 1, none⟩ = some (.string ⟨#[102, 105, 114, 115, 116]⟩) := by rw [hW]; simp
  have c2 : W.cell? ⟨w.heap.size, 2, none⟩ = some (.string ⟨#[114, 97, 100, 105, 111]⟩) := by rw [hW]; simp
  go_enter Tryz.func192, Tryz.ntmps192
  go_wp2
  rw [← hW]
  clear hW
  go_loopw [3, 5] (fun tx i wr => ((i = .int .i64 0 ∧ tx = .string ⟨#[]⟩) ∨ (i = .int .i64 1 ∧ tx = .string ⟨#[]⟩) ∨ (i = .int .i64 2 ∧ tx = .string ⟨#[]⟩) ∨ (i = .int .i64 3 ∧ tx = .string ⟨#[]⟩)) ∧ wr = W) (fun _ i _ => 3 - (intOf i).toNat)
  case atStart => exact ⟨.inl ⟨rfl, rfl⟩, rfl⟩
  case round =>
    obtain ⟨⟨rfl, rfl⟩ | ⟨rfl, rfl⟩ | ⟨rfl, rfl⟩ | ⟨rfl, rfl⟩, rfl⟩ := hrel
    · go_wp2
      go_roundw
      case rel => exact ⟨.inr (.inl ⟨rfl, by first | rfl | decide⟩), by first | rfl | trivial⟩
      case measure => simp [intOf]
    · go_wp2
      go_roundw
      case rel => exact ⟨.inr (.inr (.inl ⟨rfl, by first | rfl | decide⟩)), by first | rfl | trivial⟩
      case measure => simp [intOf]
    · go_wp2
      go_roundw
      case rel => exact ⟨.inr (.inr (.inr ⟨rfl, by first | rfl | decide⟩)), by first | rfl | trivial⟩
      case measure => simp [intOf]
    · go_wp2
      go_ret
      exact ⟨rfl, hB⟩
set_option maxRecDepth 100000 in
set_option maxHeartbeats 4000000 in
theorem skS1 (w : World) : Calls Tryz.prog 192 #[.int .i64 1] w fun e w' => e = .returned (.string (skT 1)) ∧ Below w.heap.size w w' := by
  have b0 := bit0
  have b1 := bit1
  obtain ⟨W, hW⟩ : ∃ W, W = w.alloc (.cells #[.string ⟨#[114, 111, 112, 101]⟩, .string ⟨#[102, 105, 114, 115, 116]⟩, .string ⟨#[114, 97, 100, 105, 111]⟩] 9) := ⟨_, rfl⟩
  have hB : Below w.heap.size w W := by rw [hW]; exact (Below.refl _ _).alloc (Nat.le_refl _) _
  have c0 : W.cell? ⟨w.heap.size, 0, none⟩ = some (.string ⟨#[114, 111, 112, 101]⟩) := by rw [hW]; simp
  have c1 : W.cell? ⟨w.heap.size, 1, none⟩ = some (.string ⟨#[102, 105, 114, 115, 116]⟩) := by rw [hW]; simp
  have c2 : W.cell? ⟨w.heap.size, 2, none⟩ = some (.string ⟨#[114, 97, 100, 105, 111]⟩) := by rw [hW]; simp
  go_enter Tryz.func192, Tryz.ntmps192
  go_wp2
  rw [← hW]
  clear hW
  go_loopw [3, 5] (fun tx i wr => ((i = .int .i64 0 ∧ tx = .string ⟨#[]⟩) ∨ (i = .int .i64 1 ∧ tx = .string ⟨#[114, 111, 112, 101]⟩) ∨ (i = .int .i64 2 ∧ tx = .string ⟨#[114, 111, 112, 101]⟩) ∨ (i = .int .i64 3 ∧ tx = .string ⟨#[114, 111, 112, 101]⟩)) ∧ wr = W) (fun _ i _ => 3 - (intOf i).toNat)
  case atStart => exact ⟨.inl ⟨rfl, rfl⟩, rfl⟩
  case round =>
    obtain ⟨⟨rfl, rfl⟩ | ⟨rfl, rfl⟩ | ⟨rfl, rfl⟩ | ⟨rfl, rfl⟩, rfl⟩ := hrel
    · go_wp2
      go_roundw
      case rel => exact ⟨.inr (.inl ⟨rfl, by first | rfl | decide⟩), by first | rfl | trivial⟩
      case measure => simp [intOf]
    · go_wp2
      go_roundw
      case rel => exact ⟨.inr (.inr (.inl ⟨rfl, by first | rfl | decide⟩)), by first | rfl | trivial⟩
      case measure => simp [intOf]
    · go_wp2
      go_roundw
      case rel => exact ⟨.inr (.inr (.inr ⟨rfl, by first | rfl | decide⟩)), by first | rfl | trivial⟩
      case measure => simp [intOf]
    · go_wp2
      go_ret
      exact ⟨rfl, hB⟩
set_option maxRecDepth 100000 in
set_option maxHeartbeats 4000000 in
theorem skS2 (w : World) : Calls Tryz.prog 192 #[.int .i64 2] w fun e w' => e = .returned (.string (skT 2)) ∧ Below w.heap.size w w' := by
  have b0 := bit0
  have b1 := bit1
  have b2 := bit2
  obtain ⟨W, hW⟩ : ∃ W, W = w.alloc (.cells #[.string ⟨#[114, 111, 112, 101]⟩, .string ⟨#[102, 105, 114, 115, 116]⟩, .string ⟨#[114, 97, 100, 105, 111]⟩] 9) := ⟨_, rfl⟩
  have hB : Below w.heap.size w W := by rw [hW]; exact (Below.refl _ _).alloc (Nat.le_refl _) _
  have c0 : W.cell? ⟨w.heap.size, 0, none⟩ = some (.string ⟨#[114, 111, 112, 101]⟩) := by rw [hW]; simp
  have c1 : W.cell? ⟨w.heap.size, 1, none⟩ = some (.string ⟨#[102, 105, 114, 115, 116]⟩) := by rw [hW]; simp
  have c2 : W.cell? ⟨w.heap.size, 2, none⟩ = some (.string ⟨#[114, 97, 100, 105, 111]⟩) := by rw [hW]; simp
  go_enter Tryz.func192, Tryz.ntmps192
  go_wp2
  rw [← hW]
  clear hW
  go_loopw [3, 5] (fun tx i wr => ((i = .int .i64 0 ∧ tx = .string ⟨#[]⟩) ∨ (i = .int .i64 1 ∧ tx = .string ⟨#[]⟩) ∨ (i = .int .i64 2 ∧ tx = .string ⟨#[102, 105, 114, 115, 116]⟩) ∨ (i = .int .i64 3 ∧ tx = .string ⟨#[102, 105, 114, 115, 116]⟩)) ∧ wr = W) (fun _ i _ => 3 - (intOf i).toNat)
  case atStart => exact ⟨.inl ⟨rfl, rfl⟩, rfl⟩
  case round =>
    obtain ⟨⟨rfl, rfl⟩ | ⟨rfl, rfl⟩ | ⟨rfl, rfl⟩ | ⟨rfl, rfl⟩, rfl⟩ := hrel
    · go_wp2
      go_roundw
      case rel => exact ⟨.inr (.inl ⟨rfl, by first | rfl | decide⟩), by first | rfl | trivial⟩
      case measure => simp [intOf]
    · go_wp2
      go_roundw
      case rel => exact ⟨.inr (.inr (.inl ⟨rfl, by first | rfl | decide⟩)), by first | rfl | trivial⟩
      case measure => simp [intOf]
    · go_wp2
      go_roundw
      case rel => exact ⟨.inr (.inr (.inr ⟨rfl, by first | rfl | decide⟩)), by first | rfl | trivial⟩
      case measure => simp [intOf]
    · go_wp2
      go_ret
      exact ⟨rfl, hB⟩
set_option maxRecDepth 100000 in
set_option maxHeartbeats 4000000 in
theorem skS3 (w : World) : Calls Tryz.prog 192 #[.int .i64 3] w fun e w' => e = .returned (.string (skT 3)) ∧ Below w.heap.size w w' := by
  have b0 := bit0
  have b1 := bit1
  have b3 := bit3
  obtain ⟨W, hW⟩ : ∃ W, W = w.alloc (.cells #[.string ⟨#[114, 111, 112, 101]⟩, .string ⟨#[102, 105, 114, 115, 116]⟩, .string ⟨#[114, 97, 100, 105, 111]⟩] 9) := ⟨_, rfl⟩
  have hB : Below w.heap.size w W := by rw [hW]; exact (Below.refl _ _).alloc (Nat.le_refl _) _
  have c0 : W.cell? ⟨w.heap.size, 0, none⟩ = some (.string ⟨#[114, 111, 112, 101]⟩) := by rw [hW]; simp
  have c1 : W.cell? ⟨w.heap.size, 1, none⟩ = some (.string ⟨#[102, 105, 114, 115, 116]⟩) := by rw [hW]; simp
  have c2 : W.cell? ⟨w.heap.size, 2, none⟩ = some (.string ⟨#[114, 97, 100, 105, 111]⟩) := by rw [hW]; simp
  go_enter Tryz.func192, Tryz.ntmps192
  go_wp2
  rw [← hW]
  clear hW
  go_loopw [3, 5] (fun tx i wr => ((i = .int .i64 0 ∧ tx = .string ⟨#[]⟩) ∨ (i = .int .i64 1 ∧ tx = .string ⟨#[114, 111, 112, 101]⟩) ∨ (i = .int .i64 2 ∧ tx = .string ⟨#[114, 111, 112, 101, 43, 102, 105, 114, 115, 116]⟩) ∨ (i = .int .i64 3 ∧ tx = .string ⟨#[114, 111, 112, 101, 43, 102, 105, 114, 115, 116]⟩)) ∧ wr = W) (fun _ i _ => 3 - (intOf i).toNat)
  case atStart => exact ⟨.inl ⟨rfl, rfl⟩, rfl⟩
  case round =>
    obtain ⟨⟨rfl, rfl⟩ | ⟨rfl, rfl⟩ | ⟨rfl, rfl⟩ | ⟨rfl, rfl⟩, rfl⟩ := hrel
    · go_wp2
      go_roundw
      case rel => exact ⟨.inr (.inl ⟨rfl, by first | rfl | decide⟩), by first | rfl | trivial⟩
      case measure => simp [intOf]
    · go_wp2
      go_roundw
      case rel => exact ⟨.inr (.inr (.inl ⟨rfl, by first | rfl | decide⟩)), by first | rfl | trivial⟩
      case measure => simp [intOf]
    · go_wp2
      go_roundw
      case rel => exact ⟨.inr (.inr (.inr ⟨rfl, by first | rfl | decide⟩)), by first | rfl | trivial⟩
      case measure => simp [intOf]
    · go_wp2
      go_ret
      exact ⟨rfl, hB⟩
set_option maxRecDepth 100000 in
set_option maxHeartbeats 4000000 in
theorem skS4 (w : World) : Calls Tryz.prog 192 #[.int .i64 4] w fun e w' => e = .returned (.string (skT 4)) ∧ Below w.heap.size w w' := by
  have b1 := bit1
  have b2 := bit2
  have b4 := bit4
  obtain ⟨W, hW⟩ : ∃ W, W = w.alloc (.cells #[.string ⟨#[114, 111, 112, 101]⟩, .string ⟨#[102, 105, 114, 115, 116]⟩, .string ⟨#[114, 97, 100, 105, 111]⟩] 9) := ⟨_, rfl⟩
  have hB : Below w.heap.size w W := by rw [hW]; exact (Below.refl _ _).alloc (Nat.le_refl _) _
  have c0 : W.cell? ⟨w.heap.size, 0, none⟩ = some (.string ⟨#[114, 111, 112, 101]⟩) := by rw [hW]; simp
  have c1 : W.cell? ⟨w.heap.size, 1, none⟩ = some (.string ⟨#[102, 105, 114, 115, 116]⟩) := by rw [hW]; simp
  have c2 : W.cell? ⟨w.heap.size, 2, none⟩ = some (.string ⟨#[114, 97, 100, 105, 111]⟩) := by rw [hW]; simp
  go_enter Tryz.func192, Tryz.ntmps192
  go_wp2
  rw [← hW]
  clear hW
  go_loopw [3, 5] (fun tx i wr => ((i = .int .i64 0 ∧ tx = .string ⟨#[]⟩) ∨ (i = .int .i64 1 ∧ tx = .string ⟨#[]⟩) ∨ (i = .int .i64 2 ∧ tx = .string ⟨#[]⟩) ∨ (i = .int .i64 3 ∧ tx = .string ⟨#[114, 97, 100, 105, 111]⟩)) ∧ wr = W) (fun _ i _ => 3 - (intOf i).toNat)
  case atStart => exact ⟨.inl ⟨rfl, rfl⟩, rfl⟩
  case round =>
    obtain ⟨⟨rfl, rfl⟩ | ⟨rfl, rfl⟩ | ⟨rfl, rfl⟩ | ⟨rfl, rfl⟩, rfl⟩ := hrel
    · go_wp2
      go_roundw
      case rel => exact ⟨.inr (.inl ⟨rfl, by first | rfl | decide⟩), by first | rfl | trivial⟩
      case measure => simp [intOf]
    · go_wp2
      go_roundw
      case rel => exact ⟨.inr (.inr (.inl ⟨rfl, by first | rfl | decide⟩)), by first | rfl | trivial⟩
      case measure => simp [intOf]
    · go_wp2
      go_roundw
      case rel => exact ⟨.inr (.inr (.inr ⟨rfl, by first | rfl | decide⟩)), by first | rfl | trivial⟩
      case measure => simp [intOf]
    · go_wp2
      go_ret
      exact ⟨rfl, hB⟩
set_option maxRecDepth 100000 in
set_option maxHeartbeats 4000000 in
theorem skS5 (w : World) : Calls Tryz.prog 192 #[.int .i64 5] w fun e w' => e = .returned (.string (skT 5)) ∧ Below w.heap.size w w' := by
  have b1 := bit1
  have b2 := bit2
  have b5 := bit5
  obtain ⟨W, hW⟩ : ∃ W, W = w.alloc (.cells #[.string ⟨#[114, 111, 112, 101]⟩, .string ⟨#[102, 105, 114, 115, 116]⟩, .string ⟨#[114, 97, 100, 105, 111]⟩] 9) := ⟨_, rfl⟩
  have hB : Below w.heap.size w W := by rw [hW]; exact (Below.refl _ _).alloc (Nat.le_refl _) _
  have c0 : W.cell? ⟨w.heap.size, 0, none⟩ = some (.string ⟨#[114, 111, 112, 101]⟩) := by rw [hW]; simp
  have c1 : W.cell? ⟨w.heap.size, 1, none⟩ = some (.string ⟨#[102, 105, 114, 115, 116]⟩) := by rw [hW]; simp
  have c2 : W.cell? ⟨w.heap.size, 2, none⟩ = some (.string ⟨#[114, 97, 100, 105, 111]⟩) := by rw [hW]; simp
  go_enter Tryz.func192, Tryz.ntmps192
  go_wp2
  rw [← hW]
  clear hW
  go_loopw [3, 5] (fun tx i wr => ((i = .int .i64 0 ∧ tx = .string ⟨#[]⟩) ∨ (i = .int .i64 1 ∧ tx = .string ⟨#[114, 111, 112, 101]⟩) ∨ (i = .int .i64 2 ∧ tx = .string ⟨#[114, 111, 112, 101]⟩) ∨ (i = .int .i64 3 ∧ tx = .string ⟨#[114, 111, 112, 101, 43, 114, 97, 100, 105, 111]⟩)) ∧ wr = W) (fun _ i _ => 3 - (intOf i).toNat)
  case atStart => exact ⟨.inl ⟨rfl, rfl⟩, rfl⟩
  case round =>
    obtain ⟨⟨rfl, rfl⟩ | ⟨rfl, rfl⟩ | ⟨rfl, rfl⟩ | ⟨rfl, rfl⟩, rfl⟩ := hrel
    · go_wp2
      go_roundw
      case rel => exact ⟨.inr (.inl ⟨rfl, by first | rfl | decide⟩), by first | rfl | trivial⟩
      case measure => simp [intOf]
    · go_wp2
      go_roundw
      case rel => exact ⟨.inr (.inr (.inl ⟨rfl, by first | rfl | decide⟩)), by first | rfl | trivial⟩
      case measure => simp [intOf]
    · go_wp2
      go_roundw
      case rel => exact ⟨.inr (.inr (.inr ⟨rfl, by first | rfl | decide⟩)), by first | rfl | trivial⟩
      case measure => simp [intOf]
    · go_wp2
      go_ret
      exact ⟨rfl, hB⟩
set_option maxRecDepth 100000 in
set_option maxHeartbeats 4000000 in
theorem skS6 (w : World) : Calls Tryz.prog 192 #[.int .i64 6] w fun e w' => e = .returned (.string (skT 6)) ∧ Below w.heap.size w w' := by
  have b1 := bit1
  have b3 := bit3
  have b6 := bit6
  obtain ⟨W, hW⟩ : ∃ W, W = w.alloc (.cells #[.string ⟨#[114, 111, 112, 101]⟩, .string ⟨#[102, 105, 114, 115, 116]⟩, .string ⟨#[114, 97, 100, 105, 111]⟩] 9) := ⟨_, rfl⟩
  have hB : Below w.heap.size w W := by rw [hW]; exact (Below.refl _ _).alloc (Nat.le_refl _) _
  have c0 : W.cell? ⟨w.heap.size, 0, none⟩ = some (.string ⟨#[114, 111, 112, 101]⟩) := by rw [hW]; simp
  have c1 : W.cell? ⟨w.heap.size, 1, none⟩ = some (.string ⟨#[102, 105, 114, 115, 116]⟩) := by rw [hW]; simp
  have c2 : W.cell? ⟨w.heap.size, 2, none⟩ = some (.string ⟨#[114, 97, 100, 105, 111]⟩) := by rw [hW]; simp
  go_enter Tryz.func192, Tryz.ntmps192
  go_wp2
  rw [← hW]
  clear hW
  go_loopw [3, 5] (fun tx i wr => ((i = .int .i64 0 ∧ tx = .string ⟨#[]⟩) ∨ (i = .int .i64 1 ∧ tx = .string ⟨#[]⟩) ∨ (i = .int .i64 2 ∧ tx = .string ⟨#[102, 105, 114, 115, 116]⟩) ∨ (i = .int .i64 3 ∧ tx = .string ⟨#[102, 105, 114, 115, 116, 43, 114, 97, 100, 105, 111]⟩)) ∧ wr = W) (fun _ i _ => 3 - (intOf i).toNat)
  case atStart => exact ⟨.inl ⟨rfl, rfl⟩, rfl⟩
  case round =>
    obtain ⟨⟨rfl, rfl⟩ | ⟨rfl, rfl⟩ | ⟨rfl, rfl⟩ | ⟨rfl, rfl⟩, rfl⟩ := hrel
    · go_wp2
      go_roundw
      case rel => exact ⟨.inr (.inl ⟨rfl, by first | rfl | decide⟩), by first | rfl | trivial⟩
      case measure => simp [intOf]
    · go_wp2
      go_roundw
      case rel => exact ⟨.inr (.inr (.inl ⟨rfl, by first | rfl | decide⟩)), by first | rfl | trivial⟩
      case measure => simp [intOf]
    · go_wp2
      go_roundw
      case rel => exact ⟨.inr (.inr (.inr ⟨rfl, by first | rfl | decide⟩)), by first | rfl | trivial⟩
      case measure => simp [intOf]
    · go_wp2
      go_ret
      exact ⟨rfl, hB⟩
set_option maxRecDepth 100000 in
set_option maxHeartbeats 4000000 in
theorem skS7 (w : World) : Calls Tryz.prog 192 #[.int .i64 7] w fun e w' => e = .returned (.string (skT 7)) ∧ Below w.heap.size w w' := by
  have b1 := bit1
  have b3 := bit3
  have b7 := bit7
  obtain ⟨W, hW⟩ : ∃ W, W = w.alloc (.cells #[.string ⟨#[114, 111, 112, 101]⟩, .string ⟨#[102, 105, 114, 115, 116]⟩, .string ⟨#[114, 97, 100, 105, 111]⟩] 9) := ⟨_, rfl⟩
  have hB : Below w.heap.size w W := by rw [hW]; exact (Below.refl _ _).alloc (Nat.le_refl _) _
  have c0 : W.cell? ⟨w.heap.size, 0, none⟩ = some (.string ⟨#[114, 111, 112, 101]⟩) := by rw [hW]; simp
  have c1 : W.cell? ⟨w.heap.size, 1, none⟩ = some (.string ⟨#[102, 105, 114, 115, 116]⟩) := by rw [hW]; simp
  have c2 : W.cell? ⟨w.heap.size, 2, none⟩ = some (.string ⟨#[114, 97, 100, 105, 111]⟩) := by rw [hW]; simp
  go_enter Tryz.func192, Tryz.ntmps192
  go_wp2
  rw [← hW]
  clear hW
  go_loopw [3, 5] (fun tx i wr => ((i = .int .i64 0 ∧ tx = .string ⟨#[]⟩) ∨ (i = .int .i64 1 ∧ tx = .string ⟨#[114, 111, 112, 101]⟩) ∨ (i = .int .i64 2 ∧ tx = .string ⟨#[114, 111, 112, 101, 43, 102, 105, 114, 115, 116]⟩) ∨ (i = .int .i64 3 ∧ tx = .string ⟨#[114, 111, 112, 101, 43, 102, 105, 114, 115, 116, 43, 114, 97, 100, 105, 111]⟩)) ∧ wr = W) (fun _ i _ => 3 - (intOf i).toNat)
  case atStart => exact ⟨.inl ⟨rfl, rfl⟩, rfl⟩
  case round =>
    obtain ⟨⟨rfl, rfl⟩ | ⟨rfl, rfl⟩ | ⟨rfl, rfl⟩ | ⟨rfl, rfl⟩, rfl⟩ := hrel
    · go_wp2
      go_roundw
      case rel => exact ⟨.inr (.inl ⟨rfl, by first | rfl | decide⟩), by first | rfl | trivial⟩
      case measure => simp [intOf]
    · go_wp2
      go_roundw
      case rel => exact ⟨.inr (.inr (.inl ⟨rfl, by first | rfl | decide⟩)), by first | rfl | trivial⟩
      case measure => simp [intOf]
    · go_wp2
      go_roundw
      case rel => exact ⟨.inr (.inr (.inr ⟨rfl, by first | rfl | decide⟩)), by first | rfl | trivial⟩
      case measure => simp [intOf]
    · go_wp2
      go_ret
      exact ⟨rfl, hB⟩
theorem l24SkillText_calls (s : Nat) (w : World) (hs : s ≤ 7) :
    Calls Tryz.prog 192 #[.int .i64 s] w fun e w' => e = .returned (.string (skT s)) ∧ Below w.heap.size w w' := by
  rcases nat8 hs with rfl | rfl | rfl | rfl | rfl | rfl | rfl | rfl
  · exact skS0 w
  · exact skS1 w
  · exact skS2 w
  · exact skS3 w
  · exact skS4 w
  · exact skS5 w
  · exact skS6 w
  · exact skS7 w

theorem isSkills_calls (n : Int) (w : World) : Calls Tryz.prog 128 #[.int .i64 n] w fun e w' => e = .returned (.bool (withinB n 0 7)) ∧ w = w' := by
  go_enter Tryz.func128, Tryz.ntmps128
  go_wp2_with (go_at_call 75; refine (within_calls _ _ _ _).mono ?_; rintro e w' ⟨rfl, rfl⟩)
  go_ret
  exact ⟨rfl, rfl⟩
/-- Join of few short strings of the call's own, with a plus sign. -/
theorem joinPlus_calls (v : Value) (n base : Nat) (xs : List ByteArray) (t : ByteArray) (w : World) (hown : w.ownsRow base 9 1 v n (cK kB xs)) (h1 : 1 ≤ n) (h3 : n ≤ 3) (hs : ∀ x ∈ xs, x.size ≤ 5) (hl : xs.length = n) (ht : Lib.join (xs.map bs) [43] = bs t) :
    Calls Tryz.prog 80 #[v, .string ⟨#[43]⟩] w fun e w' => e = .returned (.string t) ∧ Below w.heap.size w w' := by
  obtain ⟨A6, c6, rfl⟩ := own_slice hown
  obtain ⟨g, rfl, hgb⟩ := own_addrB hown (by omega)
  have hcap := own_cap hown
  have hR : RdK kB w (some ⟨g, 0, none⟩) n xs := RdK.of_own (K := kB) hown hl (fun x hx => by have := hs x hx; show x.size ≤ 9223372036854775807; omega)
  have hgs : g < w.heap.size := by
    obtain ⟨b, off, x, hA, hb, _⟩ := hR.atB (show 0 < n by omega)
    injection hA with hA
    injection hA with h1 _
    omega
  have := Tryz.strings_Join g 0 c6 xs ⟨#[43]⟩ w (by
    intro j x hx
    have hj := (List.getElem?_eq_some_iff.1 hx).1
    rw [hl] at hj
    obtain ⟨b, off, y, hA, hb, hy, hc, _⟩ := hR.atB hj
    injection hA with hA
    injection hA with h1 h2
    subst h1
    subst h2
    rw [hy.out] at hx
    rw [← Option.some.inj hx]
    exact hc) hgs (by rw [hl]; omega) (by rw [hl]; omega) (by
    have := join_len 43 5 (xs.map (·.data.toList)) (by
      intro x hx
      obtain ⟨y, hy, rfl⟩ := List.mem_map.1 hx
      exact hs y hy)
    rw [List.length_map, hl] at this
    exact Nat.le_trans this (by omega))
  rw [hl] at this
  refine this.mono ?_
  rintro e w' ⟨rfl, hb⟩
  refine ⟨ret_str (bs_inj ?_), hb⟩
  rw [← ht]
  rfl
set_option maxHeartbeats 1000000 in
theorem skI0 (w : World) : Calls Tryz.prog 51 #[.int .i64 0] w fun e w' => e = .returned (.string (skT 0)) ∧ Below w.heap.size w w' := by
  have hw : withinB 0 0 7 = true := rfl
  go_enter Tryz.func51, Tryz.ntmps51
  go_wp2_with (go_at_call 128; refine (isSkills_calls _ _).mono ?_; rintro e w' ⟨rfl, rfl⟩)
  go_ret
  exact ⟨rfl, Below.refl _ _⟩
set_option maxRecDepth 100000 in
set_option maxHeartbeats 4000000 in
theorem skI1 (w : World) : Calls Tryz.prog 51 #[.int .i64 1] w fun e w' => e = .returned (.string (skT 1)) ∧ Below w.heap.size w w' := by
  have hw : withinB 1 0 7 = true := rfl
  have b0 := bit0
  have b1 := bit1
  obtain ⟨W, hW⟩ : ∃ W, W = w.alloc (.cells #[.string ⟨#[114, 111, 112, 101]⟩, .string ⟨#[102, 105, 114, 115, 116]⟩, .string ⟨#[114, 97, 100, 105, 111]⟩] 9) := ⟨_, rfl⟩
  have hB : Below w.heap.size w W := by rw [hW]; exact (Below.refl _ _).alloc (Nat.le_refl _) _
  have hz : w.heap.size < W.heap.size := by rw [hW]; simp
  have k0 : W.cell? ⟨w.heap.size, 0, none⟩ = some (.string ⟨#[114, 111, 112, 101]⟩) := by rw [hW]; simp
  have k1 : W.cell? ⟨w.heap.size, 1, none⟩ = some (.string ⟨#[102, 105, 114, 115, 116]⟩) := by rw [hW]; simp
  have k2 : W.cell? ⟨w.heap.size, 2, none⟩ = some (.string ⟨#[114, 97, 100, 105, 111]⟩) := by rw [hW]; simp
  have hown0 := World.ownsRow_nil W W.heap.size 9 1
  go_enter Tryz.func51, Tryz.ntmps51
  go_wp2_with (go_at_call 128; refine (isSkills_calls _ _).mono ?_; rintro e w' ⟨rfl, rfl⟩)
  rw [← hW]
  clear hW
  go_loopw [3, 4, 5, 13] (fun v p q i wr => ((i = .int .i64 0 ∧ wr.ownsRow W.heap.size 9 1 v 0 (cK kB [])) ∨ (i = .int .i64 1 ∧ wr.ownsRow W.heap.size 9 1 v 1 (cK kB [⟨#[114, 111, 112, 101]⟩])) ∨ (i = .int .i64 2 ∧ wr.ownsRow W.heap.size 9 1 v 1 (cK kB [⟨#[114, 111, 112, 101]⟩])) ∨ (i = .int .i64 3 ∧ wr.ownsRow W.heap.size 9 1 v 1 (cK kB [⟨#[114, 111, 112, 101]⟩]))) ∧ Below W.heap.size W wr) (fun _ _ _ i _ => 3 - (intOf i).toNat)
  case atStart => exact ⟨.inl ⟨rfl, by simpa [cK] using hown0⟩, Below.refl _ _⟩
  case round =>
    clear hown0
    obtain ⟨⟨rfl, hown⟩ | ⟨rfl, hown⟩ | ⟨rfl, hown⟩ | ⟨rfl, hown⟩, hb⟩ := hrel
    · have HO := hide hown
      have c0 := (hb.cell (p := ⟨w.heap.size, 0, none⟩) hz).trans k0
      have hsz := hb.size
      clear hown
      go_wp2_with (at_builtin; refine appB rfl _ _ rfl W.heap.size u3 0 _ _ rfl HO.out (by first | rfl | (simp; rfl)) (by omega) (by omega) ?_; intro v4 w4 hown4 hb4 hz4)
      go_roundw
      case rel => exact ⟨.inr (.inl ⟨rfl, hown4⟩), hb.trans hb4⟩
      case measure => simp [intOf]
    · have HO := hide hown
      have c0 := (hb.cell (p := ⟨w.heap.size, 1, none⟩) hz).trans k1
      clear hown
      go_wp2
      go_roundw
      case rel => exact ⟨.inr (.inr (.inl ⟨rfl, HO.out⟩)), hb⟩
      case measure => simp [intOf]
    · have HO := hide hown
      have c0 := (hb.cell (p := ⟨w.heap.size, 2, none⟩) hz).trans k2
      clear hown
      go_wp2
      go_roundw
      case rel => exact ⟨.inr (.inr (.inr ⟨rfl, HO.out⟩)), hb⟩
      case measure => simp [intOf]
    · have HJ := hide (joinPlus_calls _ 1 W.heap.size [⟨#[114, 111, 112, 101]⟩] (skT 1) wr hown (by decide) (by decide) (by decide) rfl (by decide))
      clear hown
      go_wp2_with fail
      refine HJ.out.mono ?_
      rintro e w3 ⟨rfl, hb3⟩
      go_wp2
      go_ret
      exact ⟨rfl, hB.trans ((hb.trans (hb3.mono hb.size)).mono hB.size)⟩
set_option maxRecDepth 100000 in
set_option maxHeartbeats 4000000 in
theorem skI2 (w : World) : Calls Tryz.prog 51 #[.int .i64 2] w fun e w' => e = .returned (.string (skT 2)) ∧ Below w.heap.size w w' := by
  have hw : withinB 2 0 7 = true := rfl
  have b0 := bit0
  have b1 := bit1
  have b2 := bit2
  obtain ⟨W, hW⟩ : ∃ W, W = w.alloc (.cells #[.string ⟨#[114, 111, 112, 101]⟩, .string ⟨#[102, 105, 114, 115, 116]⟩, .string ⟨#[114, 97, 100, 105, 111]⟩] 9) := ⟨_, rfl⟩
  have hB : Below w.heap.size w W := by rw [hW]; exact (Below.refl _ _).alloc (Nat.le_refl _) _
  have hz : w.heap.size < W.heap.size := by rw [hW]; simp
  have k0 : W.cell? ⟨w.heap.size, 0, none⟩ = some (.string ⟨#[114, 111, 112, 101]⟩) := by rw [hW]; simp
  have k1 : W.cell? ⟨w.heap.size, 1, none⟩ = some (.string ⟨#[102, 105, 114, 115, 116]⟩) := by rw [hW]; simp
  have k2 : W.cell? ⟨w.heap.size, 2, none⟩ = some (.string ⟨#[114, 97, 100, 105, 111]⟩) := by rw [hW]; simp
  have hown0 := World.ownsRow_nil W W.heap.size 9 1
  go_enter Tryz.func51, Tryz.ntmps51
  go_wp2_with (go_at_call 128; refine (isSkills_calls _ _).mono ?_; rintro e w' ⟨rfl, rfl⟩)
  rw [← hW]
  clear hW
  go_loopw [3, 4, 5, 13] (fun v p q i wr => ((i = .int .i64 0 ∧ wr.ownsRow W.heap.size 9 1 v 0 (cK kB [])) ∨ (i = .int .i64 1 ∧ wr.ownsRow W.heap.size 9 1 v 0 (cK kB [])) ∨ (i = .int .i64 2 ∧ wr.ownsRow W.heap.size 9 1 v 1 (cK kB [⟨#[102, 105, 114, 115, 116]⟩])) ∨ (i = .int .i64 3 ∧ wr.ownsRow W.heap.size 9 1 v 1 (cK kB [⟨#[102, 105, 114, 115, 116]⟩]))) ∧ Below W.heap.size W wr) (fun _ _ _ i _ => 3 - (intOf i).toNat)
  case atStart => exact ⟨.inl ⟨rfl, by simpa [cK] using hown0⟩, Below.refl _ _⟩
  case round =>
    clear hown0
    obtain ⟨⟨rfl, hown⟩ | ⟨rfl, hown⟩ | ⟨rfl, hown⟩ | ⟨rfl, hown⟩, hb⟩ := hrel
    · have HO := hide hown
      have c0 := (hb.cell (p := ⟨w.heap.size, 0, none⟩) hz).trans k0
      clear hown
      go_wp2
      go_roundw
      case rel => exact ⟨.inr (.inl ⟨rfl, HO.out⟩), hb⟩
      case measure => simp [intOf]
    · have HO := hide hown
      have c0 := (hb.cell (p := ⟨w.heap.size, 1, none⟩) hz).trans k1
      have hsz := hb.size
      clear hown
      go_wp2_with (at_builtin; refine appB rfl _ _ rfl W.heap.size u3 0 _ _ rfl HO.out (by first | rfl | (simp; rfl)) (by omega) (by omega) ?_; intro v4 w4 hown4 hb4 hz4)
      go_roundw
      case rel => exact ⟨.inr (.inr (.inl ⟨rfl, hown4⟩)), hb.trans hb4⟩
      case measure => simp [intOf]
    · have HO := hide hown
      have c0 := (hb.cell (p := ⟨w.heap.size, 2, none⟩) hz).trans k2
      clear hown
      go_wp2
      go_roundw
      case rel => exact ⟨.inr (.inr (.inr ⟨rfl, HO.out⟩)), hb⟩
      case measure => simp [intOf]
    · have HJ := hide (joinPlus_calls _ 1 W.heap.size [⟨#[102, 105, 114, 115, 116]⟩] (skT 2) wr hown (by decide) (by decide) (by decide) rfl (by decide))
      clear hown
      go_wp2_with fail
      refine HJ.out.mono ?_
      rintro e w3 ⟨rfl, hb3⟩
      go_wp2
      go_ret
      exact ⟨rfl, hB.trans ((hb.trans (hb3.mono hb.size)).mono hB.size)⟩
set_option maxRecDepth 100000 in
set_option maxHeartbeats 4000000 in
theorem skI3 (w : World) : Calls Tryz.prog 51 #[.int .i64 3] w fun e w' => e = .returned (.string (skT 3)) ∧ Below w.heap.size w w' := by
  have hw : withinB 3 0 7 = true := rfl
  have b0 := bit0
  have b1 := bit1
  have b3 := bit3
  obtain ⟨W, hW⟩ : ∃ W, W = w.alloc (.cells #[.string ⟨#[114, 111, 112, 101]⟩, .string ⟨#[102, 105, 114, 115, 116]⟩, .string ⟨#[114, 97, 100, 105, 111]⟩] 9) := ⟨_, rfl⟩
  have hB : Below w.heap.size w W := by rw [hW]; exact (Below.refl _ _).alloc (Nat.le_refl _) _
  have hz : w.heap.size < W.heap.size := by rw [hW]; simp
  have k0 : W.cell? ⟨w.heap.size, 0, none⟩ = some (.string ⟨#[114, 111, 112, 101]⟩) := by rw [hW]; simp
  have k1 : W.cell? ⟨w.heap.size, 1, none⟩ = some (.string ⟨#[102, 105, 114, 115, 116]⟩) := by rw [hW]; simp
  have k2 : W.cell? ⟨w.heap.size, 2, none⟩ = some (.string ⟨#[114, 97, 100, 105, 111]⟩) := by rw [hW]; simp
  have hown0 := World.ownsRow_nil W W.heap.size 9 1
  go_enter Tryz.func51, Tryz.ntmps51
  go_wp2_with (go_at_call 128; refine (isSkills_calls _ _).mono ?_; rintro e w' ⟨rfl, rfl⟩)
  rw [← hW]
  clear hW
  go_loopw [3, 4, 5, 13] (fun v p q i wr => ((i = .int .i64 0 ∧ wr.ownsRow W.heap.size 9 1 v 0 (cK kB [])) ∨ (i = .int .i64 1 ∧ wr.ownsRow W.heap.size 9 1 v 1 (cK kB [⟨#[114, 111, 112, 101]⟩])) ∨ (i = .int .i64 2 ∧ wr.ownsRow W.heap.size 9 1 v 2 (cK kB [⟨#[114, 111, 112, 101]⟩, ⟨#[102, 105, 114, 115, 116]⟩])) ∨ (i = .int .i64 3 ∧ wr.ownsRow W.heap.size 9 1 v 2 (cK kB [⟨#[114, 111, 112, 101]⟩, ⟨#[102, 105, 114, 115, 116]⟩]))) ∧ Below W.heap.size W wr) (fun _ _ _ i _ => 3 - (intOf i).toNat)
  case atStart => exact ⟨.inl ⟨rfl, by simpa [cK] using hown0⟩, Below.refl _ _⟩
  case round =>
    clear hown0
    obtain ⟨⟨rfl, hown⟩ | ⟨rfl, hown⟩ | ⟨rfl, hown⟩ | ⟨rfl, hown⟩, hb⟩ := hrel
    · have HO := hide hown
      have c0 := (hb.cell (p := ⟨w.heap.size, 0, none⟩) hz).trans k0
      have hsz := hb.size
      clear hown
      go_wp2_with (at_builtin; refine appB rfl _ _ rfl W.heap.size u3 0 _ _ rfl HO.out (by first | rfl | (simp; rfl)) (by omega) (by omega) ?_; intro v4 w4 hown4 hb4 hz4)
      go_roundw
      case rel => exact ⟨.inr (.inl ⟨rfl, hown4⟩), hb.trans hb4⟩
      case measure => simp [intOf]
    · have HO := hide hown
      have c0 := (hb.cell (p := ⟨w.heap.size, 1, none⟩) hz).trans k1
      have hsz := hb.size
      clear hown
      go_wp2_with (at_builtin; refine appB rfl _ _ rfl W.heap.size u3 1 _ _ rfl HO.out (by first | rfl | (simp; rfl)) (by omega) (by omega) ?_; intro v4 w4 hown4 hb4 hz4)
      go_roundw
      case rel => exact ⟨.inr (.inr (.inl ⟨rfl, hown4⟩)), hb.trans hb4⟩
      case measure => simp [intOf]
    · have HO := hide hown
      have c0 := (hb.cell (p := ⟨w.heap.size, 2, none⟩) hz).trans k2
      clear hown
      go_wp2
      go_roundw
      case rel => exact ⟨.inr (.inr (.inr ⟨rfl, HO.out⟩)), hb⟩
      case measure => simp [intOf]
    · have HJ := hide (joinPlus_calls _ 2 W.heap.size [⟨#[114, 111, 112, 101]⟩, ⟨#[102, 105, 114, 115, 116]⟩] (skT 3) wr hown (by decide) (by decide) (by decide) rfl (by decide))
      clear hown
      go_wp2_with fail
      refine HJ.out.mono ?_
      rintro e w3 ⟨rfl, hb3⟩
      go_wp2
      go_ret
      exact ⟨rfl, hB.trans ((hb.trans (hb3.mono hb.size)).mono hB.size)⟩
set_option maxRecDepth 100000 in
set_option maxHeartbeats 4000000 in
theorem skI4 (w : World) : Calls Tryz.prog 51 #[.int .i64 4] w fun e w' => e = .returned (.string (skT 4)) ∧ Below w.heap.size w w' := by
  have hw : withinB 4 0 7 = true := rfl
  have b1 := bit1
  have b2 := bit2
  have b4 := bit4
  obtain ⟨W, hW⟩ : ∃ W, W = w.alloc (.cells #[.string ⟨#[114, 111, 112, 101]⟩, .string ⟨#[102, 105, 114, 115, 116]⟩, .string ⟨#[114, 97, 100, 105, 111]⟩] 9) := ⟨_, rfl⟩
  have hB : Below w.heap.size w W := by rw [hW]; exact (Below.refl _ _).alloc (Nat.le_refl _) _
  have hz : w.heap.size < W.heap.size := by rw [hW]; simp
  have k0 : W.cell? ⟨w.heap.size, 0, none⟩ = some (.string ⟨#[114, 111, 112, 101]⟩) := by rw [hW]; simp
  have k1 : W.cell? ⟨w.heap.size, 1, none⟩ = some (.string ⟨#[102, 105, 114, 115, 116]⟩) := by rw [hW]; simp
  have k2 : W.cell? ⟨w.heap.size, 2, none⟩ = some (.string ⟨#[114, 97, 100, 105, 111]⟩) := by rw [hW]; simp
  have hown0 := World.ownsRow_nil W W.heap.size 9 1
  go_enter Tryz.func51, Tryz.ntmps51
  go_wp2_with (go_at_call 128; refine (isSkills_calls _ _).mono ?_; rintro e w' ⟨rfl, rfl⟩)
  rw [← hW]
  clear hW
  go_loopw [3, 4, 5, 13] (fun v p q i wr => ((i = .int .i64 0 ∧ wr.ownsRow W.heap.size 9 1 v 0 (cK kB [])) ∨ (i = .int .i64 1 ∧ wr.ownsRow W.heap.size 9 1 v 0 (cK kB [])) ∨ (i = .int .i64 2 ∧ wr.ownsRow W.heap.size 9 1 v 0 (cK kB [])) ∨ (i = .int .i64 3 ∧ wr.ownsRow W.heap.size 9 1 v 1 (cK kB [⟨#[114, 97, 100, 105, 111]⟩]))) ∧ Below W.heap.size W wr) (fun _ _ _ i _ => 3 - (intOf i).toNat)
  case atStart => exact ⟨.inl ⟨rfl, by simpa [cK] using hown0⟩, Below.refl _ _⟩
  case round =>
    clear hown0
    obtain ⟨⟨rfl, hown⟩ | ⟨rfl, hown⟩ | ⟨rfl, hown⟩ | ⟨rfl, hown⟩, hb⟩ := hrel
    · have HO := hide hown
      have c0 := (hb.cell (p := ⟨w.heap.size, 0, none⟩) hz).trans k0
      clear hown
      go_wp2
      go_roundw
      case rel => exact ⟨.inr (.inl ⟨rfl, HO.out⟩), hb⟩
      case measure => simp [intOf]
    · have HO := hide hown
      have c0 := (hb.cell (p := ⟨w.heap.size, 1, none⟩) hz).trans k1
      clear hown
      go_wp2
      go_roundw
      case rel => exact ⟨.inr (.inr (.inl ⟨rfl, HO.out⟩)), hb⟩
      case measure => simp [intOf]
    · have HO := hide hown
      have c0 := (hb.cell (p := ⟨w.heap.size, 2, none⟩) hz).trans k2
      have hsz := hb.size
      clear hown
      go_wp2_with (at_builtin; refine appB rfl _ _ rfl W.heap.size u3 0 _ _ rfl HO.out (by first | rfl | (simp; rfl)) (by omega) (by omega) ?_; intro v4 w4 hown4 hb4 hz4)
      go_roundw
      case rel => exact ⟨.inr (.inr (.inr ⟨rfl, hown4⟩)), hb.trans hb4⟩
      case measure => simp [intOf]
    · have HJ := hide (joinPlus_calls _ 1 W.heap.size [⟨#[114, 97, 100, 105, 111]⟩] (skT 4) wr hown (by decide) (by decide) (by decide) rfl (by decide))
      clear hown
      go_wp2_with fail
      refine HJ.out.mono ?_
      rintro e w3 ⟨rfl, hb3⟩
      go_wp2
      go_ret
      exact ⟨rfl, hB.trans ((hb.trans (hb3.mono hb.size)).mono hB.size)⟩
set_option maxRecDepth 100000 in
set_option maxHeartbeats 4000000 in
theorem skI5 (w : World) : Calls Tryz.prog 51 #[.int .i64 5] w fun e w' => e = .returned (.string (skT 5)) ∧ Below w.heap.size w w' := by
  have hw : withinB 5 0 7 = true := rfl
  have b1 := bit1
  have b2 := bit2
  have b5 := bit5
  obtain ⟨W, hW⟩ : ∃ W, W = w.alloc (.cells #[.string ⟨#[114, 111, 112, 101]⟩, .string ⟨#[102, 105, 114, 115, 116]⟩, .string ⟨#[114, 97, 100, 105, 111]⟩] 9) := ⟨_, rfl⟩
  have hB : Below w.heap.size w W := by rw [hW]; exact (Below.refl _ _).alloc (Nat.le_refl _) _
  have hz : w.heap.size < W.heap.size := by rw [hW]; simp
  have k0 : W.cell? ⟨w.heap.size, 0, none⟩ = some (.string ⟨#[114, 111, 112, 101]⟩) := by rw [hW]; simp
  have k1 : W.cell? ⟨w.heap.size, 1, none⟩ = some (.string ⟨#[102, 105, 114, 115, 116]⟩) := by rw [hW]; simp
  have k2 : W.cell? ⟨w.heap.size, 2, none⟩ = some (.string ⟨#[114, 97, 100, 105, 111]⟩) := by rw [hW]; simp
  have hown0 := World.ownsRow_nil W W.heap.size 9 1
  go_enter Tryz.func51, Tryz.ntmps51
  go_wp2_with (go_at_call 128; refine (isSkills_calls _ _).mono ?_; rintro e w' ⟨rfl, rfl⟩)
  rw [← hW]
  clear hW
  go_loopw [3, 4, 5, 13] (fun v p q i wr => ((i = .int .i64 0 ∧ wr.ownsRow W.heap.size 9 1 v 0 (cK kB [])) ∨ (i = .int .i64 1 ∧ wr.ownsRow W.heap.size 9 1 v 1 (cK kB [⟨#[114, 111, 112, 101]⟩])) ∨ (i = .int .i64 2 ∧ wr.ownsRow W.heap.size 9 1 v 1 (cK kB [⟨#[114, 111, 112, 101]⟩])) ∨ (i = .int .i64 3 ∧ wr.ownsRow W.heap.size 9 1 v 2 (cK kB [⟨#[114, 111, 112, 101]⟩, ⟨#[114, 97, 100, 105, 111]⟩]))) ∧ Below W.heap.size W wr) (fun _ _ _ i _ => 3 - (intOf i).toNat)
  case atStart => exact ⟨.inl ⟨rfl, by simpa [cK] using hown0⟩, Below.refl _ _⟩
  case round =>
    clear hown0
    obtain ⟨⟨rfl, hown⟩ | ⟨rfl, hown⟩ | ⟨rfl, hown⟩ | ⟨rfl, hown⟩, hb⟩ := hrel
    · have HO := hide hown
      have c0 := (hb.cell (p := ⟨w.heap.size, 0, none⟩) hz).trans k0
      have hsz := hb.size
      clear hown
      go_wp2_with (at_builtin; refine appB rfl _ _ rfl W.heap.size u3 0 _ _ rfl HO.out (by first | rfl | (simp; rfl)) (by omega) (by omega) ?_; intro v4 w4 hown4 hb4 hz4)
      go_roundw
      case rel => exact ⟨.inr (.inl ⟨rfl, hown4⟩), hb.trans hb4⟩
      case measure => simp [intOf]
    · have HO := hide hown
      have c0 := (hb.cell (p := ⟨w.heap.size, 1, none⟩) hz).trans k1
      clear hown
      go_wp2
      go_roundw
      case rel => exact ⟨.inr (.inr (.inl ⟨rfl, HO.out⟩)), hb⟩
      case measure => simp [intOf]
    · have HO := hide hown
      have c0 := (hb.cell (p := ⟨w.heap.size, 2, none⟩) hz).trans k2
      have hsz := hb.size
      clear hown
      go_wp2_with (at_builtin; refine appB rfl _ _ rfl W.heap.size u3 1 _ _ rfl HO.out (by first | rfl | (simp; rfl)) (by omega) (by omega) ?_; intro v4 w4 hown4 hb4 hz4)
      go_roundw
      case rel => exact ⟨.inr (.inr (.inr ⟨rfl, hown4⟩)), hb.trans hb4⟩
      case measure => simp [intOf]
    · have HJ := hide (joinPlus_calls _ 2 W.heap.size [⟨#[114, 111, 112, 101]⟩, ⟨#[114, 97, 100, 105, 111]⟩] (skT 5) wr hown (by decide) (by decide) (by decide) rfl (by decide))
      clear hown
      go_wp2_with fail
      refine HJ.out.mono ?_
      rintro e w3 ⟨rfl, hb3⟩
      go_wp2
      go_ret
      exact ⟨rfl, hB.trans ((hb.trans (hb3.mono hb.size)).mono hB.size)⟩
set_option maxRecDepth 100000 in
set_option maxHeartbeats 4000000 in
theorem skI6 (w : World) : Calls Tryz.prog 51 #[.int .i64 6] w fun e w' => e = .returned (.string (skT 6)) ∧ Below w.heap.size w w' := by
  have hw : withinB 6 0 7 = true := rfl
  have b1 := bit1
  have b3 := bit3
  have b6 := bit6
  obtain ⟨W, hW⟩ : ∃ W, W = w.alloc (.cells #[.string ⟨#[114, 111, 112, 101]⟩, .string ⟨#[102, 105, 114, 115, 116]⟩, .string ⟨#[114, 97, 100, 105, 111]⟩] 9) := ⟨_, rfl⟩
  have hB : Below w.heap.size w W := by rw [hW]; exact (Below.refl _ _).alloc (Nat.le_refl _) _
  have hz : w.heap.size < W.heap.size := by rw [hW]; simp
  have k0 : W.cell? ⟨w.heap.size, 0, none⟩ = some (.string ⟨#[114, 111, 112, 101]⟩) := by rw [hW]; simp
  have k1 : W.cell? ⟨w.heap.size, 1, none⟩ = some (.string ⟨#[102, 105, 114, 115, 116]⟩) := by rw [hW]; simp
  have k2 : W.cell? ⟨w.heap.size, 2, none⟩ = some (.string ⟨#[114, 97, 100, 105, 111]⟩) := by rw [hW]; simp
  have hown0 := World.ownsRow_nil W W.heap.size 9 1
  go_enter Tryz.func51, Tryz.ntmps51
  go_wp2_with (go_at_call 128; refine (isSkills_calls _ _).mono ?_; rintro e w' ⟨rfl, rfl⟩)
  rw [← hW]
  clear hW
  go_loopw [3, 4, 5, 13] (fun v p q i wr => ((i = .int .i64 0 ∧ wr.ownsRow W.heap.size 9 1 v 0 (cK kB [])) ∨ (i = .int .i64 1 ∧ wr.ownsRow W.heap.size 9 1 v 0 (cK kB [])) ∨ (i = .int .i64 2 ∧ wr.ownsRow W.heap.size 9 1 v 1 (cK kB [⟨#[102, 105, 114, 115, 116]⟩])) ∨ (i = .int .i64 3 ∧ wr.ownsRow W.heap.size 9 1 v 2 (cK kB [⟨#[102, 105, 114, 115, 116]⟩, ⟨#[114, 97, 100, 105, 111]⟩]))) ∧ Below W.heap.size W wr) (fun _ _ _ i _ => 3 - (intOf i).toNat)
  case atStart => exact ⟨.inl ⟨rfl, by simpa [cK] using hown0⟩, Below.refl _ _⟩
  case round =>
    clear hown0
    obtain ⟨⟨rfl, hown⟩ | ⟨rfl, hown⟩ | ⟨rfl, hown⟩ | ⟨rfl, hown⟩, hb⟩ := hrel
    · have HO := hide hown
      have c0 := (hb.cell (p := ⟨w.heap.size, 0, none⟩) hz).trans k0
      clear hown
      go_wp2
      go_roundw
      case rel => exact ⟨.inr (.inl ⟨rfl, HO.out⟩), hb⟩
      case measure => simp [intOf]
    · have HO := hide hown
      have c0 := (hb.cell (p := ⟨w.heap.size, 1, none⟩) hz).trans k1
      have hsz := hb.size
      clear hown
      go_wp2_with (at_builtin; refine appB rfl _ _ rfl W.heap.size u3 0 _ _ rfl HO.out (by first | rfl | (simp; rfl)) (by omega) (by omega) ?_; intro v4 w4 hown4 hb4 hz4)
      go_roundw
      case rel => exact ⟨.inr (.inr (.inl ⟨rfl, hown4⟩)), hb.trans hb4⟩
      case measure => simp [intOf]
    · have HO := hide hown
      have c0 := (hb.cell (p := ⟨w.heap.size, 2, none⟩) hz).trans k2
      have hsz := hb.size
      clear hown
      go_wp2_with (at_builtin; refine appB rfl _ _ rfl W.heap.size u3 1 _ _ rfl HO.out (by first | rfl | (simp; rfl)) (by omega) (by omega) ?_; intro v4 w4 hown4 hb4 hz4)
      go_roundw
      case rel => exact ⟨.inr (.inr (.inr ⟨rfl, hown4⟩)), hb.trans hb4⟩
      case measure => simp [intOf]
    · have HJ := hide (joinPlus_calls _ 2 W.heap.size [⟨#[102, 105, 114, 115, 116]⟩, ⟨#[114, 97, 100, 105, 111]⟩] (skT 6) wr hown (by decide) (by decide) (by decide) rfl (by decide))
      clear hown
      go_wp2_with fail
      refine HJ.out.mono ?_
      rintro e w3 ⟨rfl, hb3⟩
      go_wp2
      go_ret
      exact ⟨rfl, hB.trans ((hb.trans (hb3.mono hb.size)).mono hB.size)⟩
set_option maxRecDepth 100000 in
set_option maxHeartbeats 4000000 in
theorem skI7 (w : World) : Calls Tryz.prog 51 #[.int .i64 7] w fun e w' => e = .returned (.string (skT 7)) ∧ Below w.heap.size w w' := by
  have hw : withinB 7 0 7 = true := rfl
  have b1 := bit1
  have b3 := bit3
  have b7 := bit7
  obtain ⟨W, hW⟩ : ∃ W, W = w.alloc (.cells #[.string ⟨#[114, 111, 112, 101]⟩, .string ⟨#[102, 105, 114, 115, 116]⟩, .string ⟨#[114, 97, 100, 105, 111]⟩] 9) := ⟨_, rfl⟩
  have hB : Below w.heap.size w W := by rw [hW]; exact (Below.refl _ _).alloc (Nat.le_refl _) _
  have hz : w.heap.size < W.heap.size := by rw [hW]; simp
  have k0 : W.cell? ⟨w.heap.size, 0, none⟩ = some (.string ⟨#[114, 111, 112, 101]⟩) := by rw [hW]; simp
  have k1 : W.cell? ⟨w.heap.size, 1, none⟩ = some (.string ⟨#[102, 105, 114, 115, 116]⟩) := by rw [hW]; simp
  have k2 : W.cell? ⟨w.heap.size, 2, none⟩ = some (.string ⟨#[114, 97, 100, 105, 111]⟩) := by rw [hW]; simp
  have hown0 := World.ownsRow_nil W W.heap.size 9 1
  go_enter Tryz.func51, Tryz.ntmps51
  go_wp2_with (go_at_call 128; refine (isSkills_calls _ _).mono ?_; rintro e w' ⟨rfl, rfl⟩)
  rw [← hW]
  clear hW
  go_loopw [3, 4, 5, 13] (fun v p q i wr => ((i = .int .i64 0 ∧ wr.ownsRow W.heap.size 9 1 v 0 (cK kB [])) ∨ (i = .int .i64 1 ∧ wr.ownsRow W.heap.size 9 1 v 1 (cK kB [⟨#[114, 111, 112, 101]⟩])) ∨ (i = .int .i64 2 ∧ wr.ownsRow W.heap.size 9 1 v 2 (cK kB [⟨#[114, 111, 112, 101]⟩, ⟨#[102, 105, 114, 115, 116]⟩])) ∨ (i = .int .i64 3 ∧ wr.ownsRow W.heap.size 9 1 v 3 (cK kB [⟨#[114, 111, 112, 101]⟩, ⟨#[102, 105, 114, 115, 116]⟩, ⟨#[114, 97, 100, 105, 111]⟩]))) ∧ Below W.heap.size W wr) (fun _ _ _ i _ => 3 - (intOf i).toNat)
  case atStart => exact ⟨.inl ⟨rfl, by simpa [cK] using hown0⟩, Below.refl _ _⟩
  case round =>
    clear hown0
    obtain ⟨⟨rfl, hown⟩ | ⟨rfl, hown⟩ | ⟨rfl, hown⟩ | ⟨rfl, hown⟩, hb⟩ := hrel
    · have HO := hide hown
      have c0 := (hb.cell (p := ⟨w.heap.size, 0, none⟩) hz).trans k0
      have hsz := hb.size
      clear hown
      go_wp2_with (at_builtin; refine appB rfl _ _ rfl W.heap.size u3 0 _ _ rfl HO.out (by first | rfl | (simp; rfl)) (by omega) (by omega) ?_; intro v4 w4 hown4 hb4 hz4)
      go_roundw
      case rel => exact ⟨.inr (.inl ⟨rfl, hown4⟩), hb.trans hb4⟩
      case measure => simp [intOf]
    · have HO := hide hown
      have c0 := (hb.cell (p := ⟨w.heap.size, 1, none⟩) hz).trans k1
      have hsz := hb.size
      clear hown
      go_wp2_with (at_builtin; refine appB rfl _ _ rfl W.heap.size u3 1 _ _ rfl HO.out (by first | rfl | (simp; rfl)) (by omega) (by omega) ?_; intro v4 w4 hown4 hb4 hz4)
      go_roundw
      case rel => exact ⟨.inr (.inr (.inl ⟨rfl, hown4⟩)), hb.trans hb4⟩
      case measure => simp [intOf]
    · have HO := hide hown
      have c0 := (hb.cell (p := ⟨w.heap.size, 2, none⟩) hz).trans k2
      have hsz := hb.size
      clear hown
      go_wp2_with (at_builtin; refine appB rfl _ _ rfl W.heap.size u3 2 _ _ rfl HO.out (by first | rfl | (simp; rfl)) (by omega) (by omega) ?_; intro v4 w4 hown4 hb4 hz4)
      go_roundw
      case rel => exact ⟨.inr (.inr (.inr ⟨rfl, hown4⟩)), hb.trans hb4⟩
      case measure => simp [intOf]
    · have HJ := hide (joinPlus_calls _ 3 W.heap.size [⟨#[114, 111, 112, 101]⟩, ⟨#[102, 105, 114, 115, 116]⟩, ⟨#[114, 97, 100, 105, 111]⟩] (skT 7) wr hown (by decide) (by decide) (by decide) rfl (by decide))
      clear hown
      go_wp2_with fail
      refine HJ.out.mono ?_
      rintro e w3 ⟨rfl, hb3⟩
      go_wp2
      go_ret
      exact ⟨rfl, hB.trans ((hb.trans (hb3.mono hb.size)).mono hB.size)⟩
theorem skillText_calls (s : Nat) (w : World) (hs : s ≤ 7) :
    Calls Tryz.prog 51 #[.int .i64 s] w fun e w' => e = .returned (.string (skT s)) ∧ Below w.heap.size w w' := by
  rcases nat8 hs with rfl | rfl | rfl | rfl | rfl | rfl | rfl | rfl
  · exact skI0 w
  · exact skI1 w
  · exact skI2 w
  · exact skI3 w
  · exact skI4 w
  · exact skI5 w
  · exact skI6 w
  · exact skI7 w

end Go.Proofs.YtcclfmapbgdpdaaGreatDoor
