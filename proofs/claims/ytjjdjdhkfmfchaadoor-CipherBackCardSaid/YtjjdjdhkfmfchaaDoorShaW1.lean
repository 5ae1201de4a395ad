/- The walks of sha.right and of the reference's turn, at the ten numbers of bits that SHA-256 uses. -/
import Derived.Test.YtjjdjdhkfmfchaaDoorProg
import Derived.Test.YtjjdjdhkfmfchaaDoorShaPlain
import Derived.WalkKit
import Derived.WalkSpells
import Derived.WalkLawsBesides
import Derived.Lib.Hide
import Derived.KernelRfl
namespace Go.Proofs.YtjjdjdhkfmfchaaDoor
set_option linter.unusedVariables false
set_option linter.unusedSimpArgs false
open Go.RowKit Sha
attribute [local go_sem] u_or u_xor u_and u_add

theorem right_2 (x : UInt32) (w : World) :
    Calls Tryd.prog 40 #[.int .u32 (u x), .int .i64 2] w fun e w' => e = .returned (.int .u32 (u (rotr x 2))) ∧ w = w' := by
  have k1 : bits .and .u64 (IntKind.u64.wrap (-2)) 31 = 30 := by decide +kernel
  have e1 : u x / (4 : Int) = u (x >>> 2) := u_shr x 2 (by omega)
  have e2 : IntKind.u32.wrap (u x * 1073741824) = u (x <<< 30) := u_shl x 30 (by omega)
  have HR := Lib.hid (show rotr x 2 = (x <<< 30) ||| (x >>> 2) by unfold rotr; rw [UInt32.or_comm]; rfl)
  go_enter Tryd.func40, Tryd.ntmps40
  go_wp2
  go_ret
  exact ⟨by rw [HR.out]; rfl, rfl⟩

theorem turn_2 (x : UInt32) (w : World) :
    Calls Tryd.prog 43 #[.int .u32 (u x), .int .u64 2] w fun e w' => e = .returned (.int .u32 (u (rotr x 2))) ∧ w = w' := by
  have e1 : u x / (4 : Int) = u (x >>> 2) := u_shr x 2 (by omega)
  have e2 : IntKind.u32.wrap (u x * 1073741824) = u (x <<< 30) := u_shl x 30 (by omega)
  have HR := Lib.hid (show rotr x 2 = (x >>> 2) ||| (x <<< 30) from rfl)
  go_enter Tryd.func43, Tryd.ntmps43
  go_wp2
  go_ret
  exact ⟨by rw [HR.out]; rfl, rfl⟩

theorem right_6 (x : UInt32) (w : World) :
    Calls Tryd.prog 40 #[.int .u32 (u x), .int .i64 6] w fun e w' => e = .returned (.int .u32 (u (rotr x 6))) ∧ w = w' := by
  have k1 : bits .and .u64 (IntKind.u64.wrap (-6)) 31 = 26 := by decide +kernel
  have e1 : u x / (64 : Int) = u (x >>> 6) := u_shr x 6 (by omega)
  have e2 : IntKind.u32.wrap (u x * 67108864) = u (x <<< 26) := u_shl x 26 (by omega)
  have HR := Lib.hid (show rotr x 6 = (x <<< 26) ||| (x >>> 6) by unfold rotr; rw [UInt32.or_comm]; rfl)
  go_enter Tryd.func40, Tryd.ntmps40
  go_wp2
  go_ret
  exact ⟨by rw [HR.out]; rfl, rfl⟩

theorem turn_6 (x : UInt32) (w : World) :
    Calls Tryd.prog 43 #[.int .u32 (u x), .int .u64 6] w fun e w' => e = .returned (.int .u32 (u (rotr x 6))) ∧ w = w' := by
  have e1 : u x / (64 : Int) = u (x >>> 6) := u_shr x 6 (by omega)
  have e2 : IntKind.u32.wrap (u x * 67108864) = u (x <<< 26) := u_shl x 26 (by omega)
  have HR := Lib.hid (show rotr x 6 = (x >>> 6) ||| (x <<< 26) from rfl)
  go_enter Tryd.func43, Tryd.ntmps43
  go_wp2
  go_ret
  exact ⟨by rw [HR.out]; rfl, rfl⟩

theorem right_7 (x : UInt32) (w : World) :
    Calls Tryd.prog 40 #[.int .u32 (u x), .int .i64 7] w fun e w' => e = .returned (.int .u32 (u (rotr x 7))) ∧ w = w' := by
  have k1 : bits .and .u64 (IntKind.u64.wrap (-7)) 31 = 25 := by decide +kernel
  have e1 : u x / (128 : Int) = u (x >>> 7) := u_shr x 7 (by omega)
  have e2 : IntKind.u32.wrap (u x * 33554432) = u (x <<< 25) := u_shl x 25 (by omega)
  have HR := Lib.hid (show rotr x 7 = (x <<< 25) ||| (x >>> 7) by unfold rotr; rw [UInt32.or_comm]; rfl)
  go_enter Tryd.func40, Tryd.ntmps40
  go_wp2
  go_ret
  exact ⟨by rw [HR.out]; rfl, rfl⟩

theorem turn_7 (x : UInt32) (w : World) :
    Calls Tryd.prog 43 #[.int .u32 (u x), .int .u64 7] w fun e w' => e = .returned (.int .u32 (u (rotr x 7))) ∧ w = w' := by
  have e1 : u x / (128 : Int) = u (x >>> 7) := u_shr x 7 (by omega)
  have e2 : IntKind.u32.wrap (u x * 33554432) = u (x <<< 25) := u_shl x 25 (by omega)
  have HR := Lib.hid (show rotr x 7 = (x >>> 7) ||| (x <<< 25) from rfl)
  go_enter Tryd.func43, Tryd.ntmps43
  go_wp2
  go_ret
  exact ⟨by rw [HR.out]; rfl, rfl⟩

theorem right_11 (x : UInt32) (w : World) :
    Calls Tryd.prog 40 #[.int .u32 (u x), .int .i64 11] w fun e w' => e = .returned (.int .u32 (u (rotr x 11))) ∧ w = w' := by
  have k1 : bits .and .u64 (IntKind.u64.wrap (-11)) 31 = 21 := by decide +kernel
  have e1 : u x / (2048 : Int) = u (x >>> 11) := u_shr x 11 (by omega)
  have e2 : IntKind.u32.wrap (u x * 2097152) = u (x <<< 21) := u_shl x 21 (by omega)
  have HR := Lib.hid (show rotr x 11 = (x <<< 21) ||| (x >>> 11) by unfold rotr; rw [UInt32.or_comm]; rfl)
  go_enter Tryd.func40, Tryd.ntmps40
  go_wp2
  go_ret
  exact ⟨by rw [HR.out]; rfl, rfl⟩

theorem turn_11 (x : UInt32) (w : World) :
    Calls Tryd.prog 43 #[.int .u32 (u x), .int .u64 11] w fun e w' => e = .returned (.int .u32 (u (rotr x 11))) ∧ w = w' := by
  have e1 : u x / (2048 : Int) = u (x >>> 11) := u_shr x 11 (by omega)
  have e2 : IntKind.u32.wrap (u x * 2097152) = u (x <<< 21) := u_shl x 21 (by omega)
  have HR := Lib.hid (show rotr x 11 = (x >>> 11) ||| (x <<< 21) from rfl)
  go_enter Tryd.func43, Tryd.ntmps43
  go_wp2
  go_ret
  exact ⟨by rw [HR.out]; rfl, rfl⟩

theorem right_13 (x : UInt32) (w : World) :
    Calls Tryd.prog 40 #[.int .u32 (u x), .int .i64 13] w fun e w' => e = .returned (.int .u32 (u (rotr x 13))) ∧ w = w' := by
  have k1 : bits .and .u64 (IntKind.u64.wrap (-13)) 31 = 19 := by decide +kernel
  have e1 : u x / (8192 : Int) = u (x >>> 13) := u_shr x 13 (by omega)
  have e2 : IntKind.u32.wrap (u x * 524288) = u (x <<< 19) := u_shl x 19 (by omega)
  have HR := Lib.hid (show rotr x 13 = (x <<< 19) ||| (x >>> 13) by unfold rotr; rw [UInt32.or_comm]; rfl)
  go_enter Tryd.func40, Tryd.ntmps40
  go_wp2
  go_ret
  exact ⟨by rw [HR.out]; rfl, rfl⟩

theorem turn_13 (x : UInt32) (w : World) :
    Calls Tryd.prog 43 #[.int .u32 (u x), .int .u64 13] w fun e w' => e = .returned (.int .u32 (u (rotr x 13))) ∧ w = w' := by
  have e1 : u x / (8192 : Int) = u (x >>> 13) := u_shr x 13 (by omega)
  have e2 : IntKind.u32.wrap (u x * 524288) = u (x <<< 19) := u_shl x 19 (by omega)
  have HR := Lib.hid (show rotr x 13 = (x >>> 13) ||| (x <<< 19) from rfl)
  go_enter Tryd.func43, Tryd.ntmps43
  go_wp2
  go_ret
  exact ⟨by rw [HR.out]; rfl, rfl⟩

theorem right_17 (x : UInt32) (w : World) :
    Calls Tryd.prog 40 #[.int .u32 (u x), .int .i64 17] w fun e w' => e = .returned (.int .u32 (u (rotr x 17))) ∧ w = w' := by
  have k1 : bits .and .u64 (IntKind.u64.wrap (-17)) 31 = 15 := by decide +kernel
  have e1 : u x / (131072 : Int) = u (x >>> 17) := u_shr x 17 (by omega)
  have e2 : IntKind.u32.wrap (u x * 32768) = u (x <<< 15) := u_shl x 15 (by omega)
  have HR := Lib.hid (show rotr x 17 = (x <<< 15) ||| (x >>> 17) by unfold rotr; rw [UInt32.or_comm]; rfl)
  go_enter Tryd.func40, Tryd.ntmps40
  go_wp2
  go_ret
  exact ⟨by rw [HR.out]; rfl, rfl⟩

theorem turn_17 (x : UInt32) (w : World) :
    Calls Tryd.prog 43 #[.int .u32 (u x), .int .u64 17] w fun e w' => e = .returned (.int .u32 (u (rotr x 17))) ∧ w = w' := by
  have e1 : u x / (131072 : Int) = u (x >>> 17) := u_shr x 17 (by omega)
  have e2 : IntKind.u32.wrap (u x * 32768) = u (x <<< 15) := u_shl x 15 (by omega)
  have HR := Lib.hid (show rotr x 17 = (x >>> 17) ||| (x <<< 15) from rfl)
  go_enter Tryd.func43, Tryd.ntmps43
  go_wp2
  go_ret
  exact ⟨by rw [HR.out]; rfl, rfl⟩

theorem right_18 (x : UInt32) (w : World) :
    Calls Tryd.prog 40 #[.int .u32 (u x), .int .i64 18] w fun e w' => e = .returned (.int .u32 (u (rotr x 18))) ∧ w = w' := by
  have k1 : bits .and .u64 (IntKind.u64.wrap (-18)) 31 = 14 := by decide +kernel
  have e1 : u x / (262144 : Int) = u (x >>> 18) := u_shr x 18 (by omega)
  have e2 : IntKind.u32.wrap (u x * 16384) = u (x <<< 14) := u_shl x 14 (by omega)
  have HR := Lib.hid (show rotr x 18 = (x <<< 14) ||| (x >>> 18) by unfold rotr; rw [UInt32.or_comm]; rfl)
  go_enter Tryd.func40, Tryd.ntmps40
  go_wp2
  go_ret
  exact ⟨by rw [HR.out]; rfl, rfl⟩

theorem turn_18 (x : UInt32) (w : World) :
    Calls Tryd.prog 43 #[.int .u32 (u x), .int .u64 18] w fun e w' => e = .returned (.int .u32 (u (rotr x 18))) ∧ w = w' := by
  have e1 : u x / (262144 : Int) = u (x >>> 18) := u_shr x 18 (by omega)
  have e2 : IntKind.u32.wrap (u x * 16384) = u (x <<< 14) := u_shl x 14 (by omega)
  have HR := Lib.hid (show rotr x 18 = (x >>> 18) ||| (x <<< 14) from rfl)
  go_enter Tryd.func43, Tryd.ntmps43
  go_wp2
  go_ret
  exact ⟨by rw [HR.out]; rfl, rfl⟩

theorem right_19 (x : UInt32) (w : World) :
    Calls Tryd.prog 40 #[.int .u32 (u x), .int .i64 19] w fun e w' => e = .returned (.int .u32 (u (rotr x 19))) ∧ w = w' := by
  have k1 : bits .and .u64 (IntKind.u64.wrap (-19)) 31 = 13 := by decide +kernel
  have e1 : u x / (524288 : Int) = u (x >>> 19) := u_shr x 19 (by omega)
  have e2 : IntKind.u32.wrap (u x * 8192) = u (x <<< 13) := u_shl x 13 (by omega)
  have HR := Lib.hid (show rotr x 19 = (x <<< 13) ||| (x >>> 19) by unfold rotr; rw [UInt32.or_comm]; rfl)
  go_enter Tryd.func40, Tryd.ntmps40
  go_wp2
  go_ret
  exact ⟨by rw [HR.out]; rfl, rfl⟩

theorem turn_19 (x : UInt32) (w : World) :
    Calls Tryd.prog 43 #[.int .u32 (u x), .int .u64 19] w fun e w' => e = .returned (.int .u32 (u (rotr x 19))) ∧ w = w' := by
  have e1 : u x / (524288 : Int) = u (x >>> 19) := u_shr x 19 (by omega)
  have e2 : IntKind.u32.wrap (u x * 8192) = u (x <<< 13) := u_shl x 13 (by omega)
  have HR := Lib.hid (show rotr x 19 = (x >>> 19) ||| (x <<< 13) from rfl)
  go_enter Tryd.func43, Tryd.ntmps43
  go_wp2
  go_ret
  exact ⟨by rw [HR.out]; rfl, rfl⟩

theorem right_22 (x : UInt32) (w : World) :
    Calls Tryd.prog 40 #[.int .u32 (u x), .int .i64 22] w fun e w' => e = .returned (.int .u32 (u (rotr x 22))) ∧ w = w' := by
  have k1 : bits .and .u64 (IntKind.u64.wrap (-22)) 31 = 10 := by decide +kernel
  have e1 : u x / (4194304 : Int) = u (x >>> 22) := u_shr x 22 (by omega)
  have e2 : IntKind.u32.wrap (u x * 1024) = u (x <<< 10) := u_shl x 10 (by omega)
  have HR := Lib.hid (show rotr x 22 = (x <<< 10) ||| (x >>> 22) by unfold rotr; rw [UInt32.or_comm]; rfl)
  go_enter Tryd.func40, Tryd.ntmps40
  go_wp2
  go_ret
  exact ⟨by rw [HR.out]; rfl, rfl⟩

theorem turn_22 (x : UInt32) (w : World) :
    Calls Tryd.prog 43 #[.int .u32 (u x), .int .u64 22] w fun e w' => e = .returned (.int .u32 (u (rotr x 22))) ∧ w = w' := by
  have e1 : u x / (4194304 : Int) = u (x >>> 22) := u_shr x 22 (by omega)
  have e2 : IntKind.u32.wrap (u x * 1024) = u (x <<< 10) := u_shl x 10 (by omega)
  have HR := Lib.hid (show rotr x 22 = (x >>> 22) ||| (x <<< 10) from rfl)
  go_enter Tryd.func43, Tryd.ntmps43
  go_wp2
  go_ret
  exact ⟨by rw [HR.out]; rfl, rfl⟩

theorem right_25 (x : UInt32) (w : World) :
    Calls Tryd.prog 40 #[.int .u32 (u x), .int .i64 25] w fun e w' => e = .returned (.int .u32 (u (rotr x 25))) ∧ w = w' := by
  have k1 : bits .and .u64 (IntKind.u64.wrap (-25)) 31 = 7 := by decide +kernel
  have e1 : u x / (33554432 : Int) = u (x >>> 25) := u_shr x 25 (by omega)
  have e2 : IntKind.u32.wrap (u x * 128) = u (x <<< 7) := u_shl x 7 (by omega)
  have HR := Lib.hid (show rotr x 25 = (x <<< 7) ||| (x >>> 25) by unfold rotr; rw [UInt32.or_comm]; rfl)
  go_enter Tryd.func40, Tryd.ntmps40
  go_wp2
  go_ret
  exact ⟨by rw [HR.out]; rfl, rfl⟩

theorem turn_25 (x : UInt32) (w : World) :
    Calls Tryd.prog 43 #[.int .u32 (u x), .int .u64 25] w fun e w' => e = .returned (.int .u32 (u (rotr x 25))) ∧ w = w' := by
  have e1 : u x / (33554432 : Int) = u (x >>> 25) := u_shr x 25 (by omega)
  have e2 : IntKind.u32.wrap (u x * 128) = u (x <<< 7) := u_shl x 7 (by omega)
  have HR := Lib.hid (show rotr x 25 = (x >>> 25) ||| (x <<< 7) from rfl)
  go_enter Tryd.func43, Tryd.ntmps43
  go_wp2
  go_ret
  exact ⟨by rw [HR.out]; rfl, rfl⟩

/-- the ten numbers of bits. -/
def ten (n : Int) : Bool := [2, 6, 7, 11, 13, 17, 18, 19, 22, 25].contains n
/-- a word turned right by one of the ten. -/
def rot (x : UInt32) (n : Int) : UInt32 := rotr x (UInt32.ofNat n.toNat)
theorem ten_cases {n : Int} (h : ten n = true) : n = 2 ∨ n = 6 ∨ n = 7 ∨ n = 11 ∨ n = 13 ∨ n = 17 ∨ n = 18 ∨ n = 19 ∨ n = 22 ∨ n = 25 := by
  simp [ten] at h
  omega
theorem right_any (x : UInt32) (n : Int) (w : World) (h : ten n = true) :
    Calls Tryd.prog 40 #[.int .u32 (u x), .int .i64 n] w fun e w' => e = .returned (.int .u32 (u (rot x n))) ∧ w = w' := by
  rcases ten_cases h with rfl | rfl | rfl | rfl | rfl | rfl | rfl | rfl | rfl | rfl
  · exact right_2 x w
  · exact right_6 x w
  · exact right_7 x w
  · exact right_11 x w
  · exact right_13 x w
  · exact right_17 x w
  · exact right_18 x w
  · exact right_19 x w
  · exact right_22 x w
  · exact right_25 x w
theorem turn_any (x : UInt32) (n : Int) (w : World) (h : ten n = true) :
    Calls Tryd.prog 43 #[.int .u32 (u x), .int .u64 n] w fun e w' => e = .returned (.int .u32 (u (rot x n))) ∧ w = w' := by
  rcases ten_cases h with rfl | rfl | rfl | rfl | rfl | rfl | rfl | rfl | rfl | rfl
  · exact turn_2 x w
  · exact turn_6 x w
  · exact turn_7 x w
  · exact turn_11 x w
  · exact turn_13 x w
  · exact turn_17 x w
  · exact turn_18 x w
  · exact turn_19 x w
  · exact turn_22 x w
  · exact turn_25 x w
end Go.Proofs.YtjjdjdhkfmfchaaDoor
