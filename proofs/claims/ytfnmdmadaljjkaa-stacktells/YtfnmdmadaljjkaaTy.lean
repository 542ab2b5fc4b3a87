/- What the machine asks of each type of the dump: closed facts. -/
import Derived.Test.YtfnmdmadaljjkaaProg
import Derived.Test.YtfnmdmadaljjkaaScope
import Derived.KernelRfl
namespace Go.Proofs.Ytfnmdmadaljjkaa
open Go.Ab
theorem ty2 : tyOf Try.prog 2 = some { kd := .int .i64, size := 1, bytes := 8, zero := some [.lit (.int .i64 0)] } := by kernel_rfl
theorem ty3 : tyOf Try.prog 3 = some { kd := .int .i64, size := 1, bytes := 8, zero := some [.lit (.int .i64 0)] } := by kernel_rfl
theorem ty4 : tyOf Try.prog 4 = some { kd := .bool, size := 1, bytes := 1, zero := some [.lit (.bool false)] } := by kernel_rfl
theorem ty5 : tyOf Try.prog 5 = some { kd := .int .u8, size := 1, bytes := 1, zero := some [.lit (.int .u8 0)] } := by kernel_rfl
theorem ty6 : tyOf Try.prog 6 = some { kd := .int .u8, size := 1, bytes := 1, zero := some [.lit (.int .u8 0)] } := by kernel_rfl
theorem ty7 : tyOf Try.prog 7 = some { kd := .st [(0, 2), (1, 3), (2, 4), (3, 6)], size := 4, bytes := 24, zero := some [.lit (.int .i64 0), .lit (.int .i64 0), .lit (.bool false), .lit (.int .u8 0)] } := by kernel_rfl
theorem ty8 : tyOf Try.prog 8 = some { kd := .st [(0, 2), (1, 3), (2, 4), (3, 6)], size := 4, bytes := 24, zero := some [.lit (.int .i64 0), .lit (.int .i64 0), .lit (.bool false), .lit (.int .u8 0)] } := by kernel_rfl
theorem ty9 : tyOf Try.prog 9 = some { kd := .str, size := 1, bytes := 16, zero := some [.lit (.string ⟨#[]⟩)] } := by kernel_rfl
theorem ty10 : tyOf Try.prog 10 = some { kd := .str, size := 1, bytes := 16, zero := some [.lit (.string ⟨#[]⟩)] } := by kernel_rfl
theorem ty11 : tyOf Try.prog 11 = some { kd := .str, size := 1, bytes := 16, zero := some [.lit (.string ⟨#[]⟩)] } := by kernel_rfl
theorem ty12 : tyOf Try.prog 12 = some { kd := .int .u64, size := 1, bytes := 8, zero := some [.lit (.int .u64 0)] } := by kernel_rfl
theorem ty13 : tyOf Try.prog 13 = some { kd := .st [(0, 9), (1, 12)], size := 2, bytes := 24, zero := some [.lit (.string ⟨#[]⟩), .lit (.int .u64 0)] } := by kernel_rfl
theorem ty14 : tyOf Try.prog 14 = some { kd := .st [(0, 9), (1, 12)], size := 2, bytes := 24, zero := some [.lit (.string ⟨#[]⟩), .lit (.int .u64 0)] } := by kernel_rfl
theorem ty15 : tyOf Try.prog 15 = some { kd := .oth, size := 1, bytes := 8, zero := some [.lit (.pointer none)] } := by kernel_rfl
theorem pt15 : isPtr Try.prog 15 = true := by kernel_rfl
theorem ty16 : tyOf Try.prog 16 = some { kd := .oth, size := 1, bytes := 8, zero := some [.lit (.pointer none)] } := by kernel_rfl
theorem pt16 : isPtr Try.prog 16 = true := by kernel_rfl
theorem ty17 : tyOf Try.prog 17 = some { kd := .oth, size := 1, bytes := 8, zero := some [.lit (.pointer none)] } := by kernel_rfl
theorem pt17 : isPtr Try.prog 17 = true := by kernel_rfl
theorem ty18 : tyOf Try.prog 18 = some { kd := .st [(0, 17)], size := 1, bytes := 8, zero := some [.lit (.pointer none)] } := by kernel_rfl
theorem ty19 : tyOf Try.prog 19 = some { kd := .st [(0, 17)], size := 1, bytes := 8, zero := some [.lit (.pointer none)] } := by kernel_rfl
theorem ty21 : tyOf Try.prog 21 = some { kd := .int .i32, size := 1, bytes := 4, zero := some [.lit (.int .i32 0)] } := by kernel_rfl
theorem ty22 : tyOf Try.prog 22 = some { kd := .sl 57, size := 1, bytes := 24, zero := some [.vec [] true] } := by kernel_rfl
theorem ty23 : tyOf Try.prog 23 = some { kd := .sl 47, size := 1, bytes := 24, zero := some [.vec [] true] } := by kernel_rfl
theorem ty24 : tyOf Try.prog 24 = some { kd := .sl 33, size := 1, bytes := 24, zero := some [.vec [] true] } := by kernel_rfl
theorem ty26 : tyOf Try.prog 26 = some { kd := .oth, size := 1, bytes := 8, zero := some [.lit (.pointer none)] } := by kernel_rfl
theorem pt26 : isPtr Try.prog 26 = true := by kernel_rfl
theorem ty27 : tyOf Try.prog 27 = some { kd := .st [(0, 26)], size := 1, bytes := 8, zero := some [.lit (.pointer none)] } := by kernel_rfl
theorem ty28 : tyOf Try.prog 28 = some { kd := .st [(0, 26)], size := 1, bytes := 8, zero := some [.lit (.pointer none)] } := by kernel_rfl
theorem ty29 : tyOf Try.prog 29 = some { kd := .sl 23, size := 1, bytes := 24, zero := some [.vec [] true] } := by kernel_rfl
theorem ty30 : tyOf Try.prog 30 = some { kd := .st [(0, 29)], size := 1, bytes := 24, zero := some [.vec [] true] } := by kernel_rfl
theorem ty31 : tyOf Try.prog 31 = some { kd := .st [(0, 29)], size := 1, bytes := 24, zero := some [.vec [] true] } := by kernel_rfl
theorem ty32 : tyOf Try.prog 32 = some { kd := .st [(0, 28), (1, 31)], size := 2, bytes := 32, zero := some [.lit (.pointer none), .vec [] true] } := by kernel_rfl
theorem ty33 : tyOf Try.prog 33 = some { kd := .st [(0, 28), (1, 31)], size := 2, bytes := 32, zero := some [.lit (.pointer none), .vec [] true] } := by kernel_rfl
theorem ty34 : tyOf Try.prog 34 = some { kd := .int .i64, size := 1, bytes := 8, zero := some [.lit (.int .i64 0)] } := by kernel_rfl
theorem ty46 : tyOf Try.prog 46 = some { kd := .st [(0, 3), (1, 3)], size := 2, bytes := 16, zero := some [.lit (.int .i64 0), .lit (.int .i64 0)] } := by kernel_rfl
theorem ty47 : tyOf Try.prog 47 = some { kd := .st [(0, 3), (1, 3)], size := 2, bytes := 16, zero := some [.lit (.int .i64 0), .lit (.int .i64 0)] } := by kernel_rfl
theorem nmOk47 : namesOk Try.prog 47 = true := by kernel_rfl
theorem ty53 : tyOf Try.prog 53 = some { kd := .int .u64, size := 1, bytes := 8, zero := some [.lit (.int .u64 0)] } := by kernel_rfl
theorem ty56 : tyOf Try.prog 56 = some { kd := .st [(0, 3), (1, 3), (2, 3), (3, 47), (5, 23)], size := 6, bytes := 64, zero := some [.lit (.int .i64 0), .lit (.int .i64 0), .lit (.int .i64 0), .lit (.int .i64 0), .lit (.int .i64 0), .vec [] true] } := by kernel_rfl
theorem ty57 : tyOf Try.prog 57 = some { kd := .st [(0, 3), (1, 3), (2, 3), (3, 47), (5, 23)], size := 6, bytes := 64, zero := some [.lit (.int .i64 0), .lit (.int .i64 0), .lit (.int .i64 0), .lit (.int .i64 0), .lit (.int .i64 0), .vec [] true] } := by kernel_rfl
theorem ty63 : tyOf Try.prog 63 = some { kd := .sl 69, size := 1, bytes := 24, zero := some [.vec [] true] } := by kernel_rfl
theorem ty64 : tyOf Try.prog 64 = some { kd := .st [(0, 4), (1, 63)], size := 2, bytes := 32, zero := some [.lit (.bool false), .vec [] true] } := by kernel_rfl
theorem ty65 : tyOf Try.prog 65 = some { kd := .st [(0, 4), (1, 63)], size := 2, bytes := 32, zero := some [.lit (.bool false), .vec [] true] } := by kernel_rfl
theorem ty68 : tyOf Try.prog 68 = some { kd := .st [(0, 47), (2, 26)], size := 3, bytes := 24, zero := some [.lit (.int .i64 0), .lit (.int .i64 0), .lit (.pointer none)] } := by kernel_rfl
theorem ty69 : tyOf Try.prog 69 = some { kd := .st [(0, 47), (2, 26)], size := 3, bytes := 24, zero := some [.lit (.int .i64 0), .lit (.int .i64 0), .lit (.pointer none)] } := by kernel_rfl
theorem ty75 : tyOf Try.prog 75 = some { kd := .map 26 3, size := 1, bytes := 8, zero := some [.lit (.map none)] } := by kernel_rfl
theorem ty81 : tyOf Try.prog 81 = some { kd := .map 91 4, size := 1, bytes := 8, zero := some [.lit (.map none)] } := by kernel_rfl
theorem ty83 : tyOf Try.prog 83 = some { kd := .map 91 26, size := 1, bytes := 8, zero := some [.lit (.map none)] } := by kernel_rfl
theorem ty88 : tyOf Try.prog 88 = some { kd := .sl 3, size := 1, bytes := 24, zero := some [.vec [] true] } := by kernel_rfl
theorem ty90 : tyOf Try.prog 90 = some { kd := .st [(0, 26), (1, 26)], size := 2, bytes := 16, zero := some [.lit (.pointer none), .lit (.pointer none)] } := by kernel_rfl
theorem ty91 : tyOf Try.prog 91 = some { kd := .st [(0, 26), (1, 26)], size := 2, bytes := 16, zero := some [.lit (.pointer none), .lit (.pointer none)] } := by kernel_rfl
theorem ty93 : tyOf Try.prog 93 = some { kd := .int .i64, size := 1, bytes := 8, zero := some [.lit (.int .i64 0)] } := by kernel_rfl
theorem ty100 : tyOf Try.prog 100 = some { kd := .int .u32, size := 1, bytes := 4, zero := some [.lit (.int .u32 0)] } := by kernel_rfl
theorem ty102 : tyOf Try.prog 102 = some { kd := .int .u64, size := 1, bytes := 8, zero := some [.lit (.int .u64 0)] } := by kernel_rfl
theorem ty103 : tyOf Try.prog 103 = some { kd := .int .u64, size := 1, bytes := 8, zero := some [.lit (.int .u64 0)] } := by kernel_rfl
theorem ty107 : tyOf Try.prog 107 = some { kd := .oth, size := 1, bytes := 8, zero := some [.lit (.pointer none)] } := by kernel_rfl
theorem pt107 : isPtr Try.prog 107 = true := by kernel_rfl
theorem ty109 : tyOf Try.prog 109 = some { kd := .oth, size := 1, bytes := 8, zero := some [.lit (.pointer none)] } := by kernel_rfl
theorem pt109 : isPtr Try.prog 109 = true := by kernel_rfl
theorem ty113 : tyOf Try.prog 113 = some { kd := .st [(0, 17), (1, 17), (2, 17), (3, 9)], size := 4, bytes := 40, zero := some [.lit (.pointer none), .lit (.pointer none), .lit (.pointer none), .lit (.string ⟨#[]⟩)] } := by kernel_rfl
theorem ty114 : tyOf Try.prog 114 = some { kd := .st [(0, 17), (1, 17), (2, 17), (3, 9)], size := 4, bytes := 40, zero := some [.lit (.pointer none), .lit (.pointer none), .lit (.pointer none), .lit (.string ⟨#[]⟩)] } := by kernel_rfl
theorem ty115 : tyOf Try.prog 115 = some { kd := .arr 0 16, size := 0, bytes := 0, zero := some [] } := by kernel_rfl
theorem ty116 : tyOf Try.prog 116 = some { kd := .st [(0, 115)], size := 0, bytes := 0, zero := some [] } := by kernel_rfl
theorem ty117 : tyOf Try.prog 117 = some { kd := .st [(0, 115)], size := 0, bytes := 0, zero := some [] } := by kernel_rfl
theorem ty118 : tyOf Try.prog 118 = some { kd := .int .u8, size := 1, bytes := 1, zero := some [.lit (.int .u8 0)] } := by kernel_rfl
theorem ty119 : tyOf Try.prog 119 = some { kd := .int .u8, size := 1, bytes := 1, zero := some [.lit (.int .u8 0)] } := by kernel_rfl
theorem ty121 : tyOf Try.prog 121 = some { kd := .oth, size := 1, bytes := 8, zero := some [.lit (.pointer none)] } := by kernel_rfl
theorem pt121 : isPtr Try.prog 121 = true := by kernel_rfl
theorem ty122 : tyOf Try.prog 122 = some { kd := .int .i32, size := 1, bytes := 4, zero := some [.lit (.int .i32 0)] } := by kernel_rfl
theorem ty123 : tyOf Try.prog 123 = some { kd := .int .i32, size := 1, bytes := 4, zero := some [.lit (.int .i32 0)] } := by kernel_rfl
theorem ty124 : tyOf Try.prog 124 = some { kd := .st [(0, 12), (1, 12), (2, 100), (3, 118), (4, 5), (5, 5), (6, 119), (7, 120), (8, 121), (9, 122), (10, 123)], size := 11, bytes := 48, zero := some [.lit (.int .u64 0), .lit (.int .u64 0), .lit (.int .u32 0), .lit (.int .u8 0), .lit (.int .u8 0), .lit (.int .u8 0), .lit (.int .u8 0), .lit .nilFunc, .lit (.pointer none), .lit (.int .i32 0), .lit (.int .i32 0)] } := by kernel_rfl
theorem ty125 : tyOf Try.prog 125 = some { kd := .st [(0, 12), (1, 12), (2, 100), (3, 118), (4, 5), (5, 5), (6, 119), (7, 120), (8, 121), (9, 122), (10, 123)], size := 11, bytes := 48, zero := some [.lit (.int .u64 0), .lit (.int .u64 0), .lit (.int .u32 0), .lit (.int .u8 0), .lit (.int .u8 0), .lit (.int .u8 0), .lit (.int .u8 0), .lit .nilFunc, .lit (.pointer none), .lit (.int .i32 0), .lit (.int .i32 0)] } := by kernel_rfl
theorem tyW : (tyOf Try.prog 2 = some { kd := .int .i64, size := 1, bytes := 8, zero := some [.lit (.int .i64 0)] }) ∧ (tyOf Try.prog 3 = some { kd := .int .i64, size := 1, bytes := 8, zero := some [.lit (.int .i64 0)] }) ∧ (tyOf Try.prog 4 = some { kd := .bool, size := 1, bytes := 1, zero := some [.lit (.bool false)] }) ∧ (tyOf Try.prog 5 = some { kd := .int .u8, size := 1, bytes := 1, zero := some [.lit (.int .u8 0)] }) ∧ (tyOf Try.prog 6 = some { kd := .int .u8, size := 1, bytes := 1, zero := some [.lit (.int .u8 0)] }) ∧ (tyOf Try.prog 7 = some { kd := .st [(0, 2), (1, 3), (2, 4), (3, 6)], size := 4, bytes := 24, zero := some [.lit (.int .i64 0), .lit (.int .i64 0), .lit (.bool false), .lit (.int .u8 0)] }) ∧ (tyOf Try.prog 8 = some { kd := .st [(0, 2), (1, 3), (2, 4), (3, 6)], size := 4, bytes := 24, zero := some [.lit (.int .i64 0), .lit (.int .i64 0), .lit (.bool false), .lit (.int .u8 0)] }) ∧ (tyOf Try.prog 9 = some { kd := .str, size := 1, bytes := 16, zero := some [.lit (.string ⟨#[]⟩)] }) ∧ (tyOf Try.prog 10 = some { kd := .str, size := 1, bytes := 16, zero := some [.lit (.string ⟨#[]⟩)] }) ∧ (tyOf Try.prog 11 = some { kd := .str, size := 1, bytes := 16, zero := some [.lit (.string ⟨#[]⟩)] }) ∧ (tyOf Try.prog 12 = some { kd := .int .u64, size := 1, bytes := 8, zero := some [.lit (.int .u64 0)] }) ∧ (tyOf Try.prog 13 = some { kd := .st [(0, 9), (1, 12)], size := 2, bytes := 24, zero := some [.lit (.string ⟨#[]⟩), .lit (.int .u64 0)] }) ∧ (tyOf Try.prog 14 = some { kd := .st [(0, 9), (1, 12)], size := 2, bytes := 24, zero := some [.lit (.string ⟨#[]⟩), .lit (.int .u64 0)] }) ∧ (tyOf Try.prog 15 = some { kd := .oth, size := 1, bytes := 8, zero := some [.lit (.pointer none)] }) ∧ (isPtr Try.prog 15 = true) ∧ (tyOf Try.prog 16 = some { kd := .oth, size := 1, bytes := 8, zero := some [.lit (.pointer none)] }) ∧ (isPtr Try.prog 16 = true) ∧ (tyOf Try.prog 17 = some { kd := .oth, size := 1, bytes := 8, zero := some [.lit (.pointer none)] }) ∧ (isPtr Try.prog 17 = true) ∧ (tyOf Try.prog 18 = some { kd := .st [(0, 17)], size := 1, bytes := 8, zero := some [.lit (.pointer none)] }) ∧ (tyOf Try.prog 19 = some { kd := .st [(0, 17)], size := 1, bytes := 8, zero := some [.lit (.pointer none)] }) ∧ (tyOf Try.prog 21 = some { kd := .int .i32, size := 1, bytes := 4, zero := some [.lit (.int .i32 0)] }) ∧ (tyOf Try.prog 22 = some { kd := .sl 57, size := 1, bytes := 24, zero := some [.vec [] true] }) ∧ (tyOf Try.prog 23 = some { kd := .sl 47, size := 1, bytes := 24, zero := some [.vec [] true] }) ∧ (tyOf Try.prog 24 = some { kd := .sl 33, size := 1, bytes := 24, zero := some [.vec [] true] }) ∧ (tyOf Try.prog 26 = some { kd := .oth, size := 1, bytes := 8, zero := some [.lit (.pointer none)] }) ∧ (isPtr Try.prog 26 = true) ∧ (tyOf Try.prog 27 = some { kd := .st [(0, 26)], size := 1, bytes := 8, zero := some [.lit (.pointer none)] }) ∧ (tyOf Try.prog 28 = some { kd := .st [(0, 26)], size := 1, bytes := 8, zero := some [.lit (.pointer none)] }) ∧ (tyOf Try.prog 29 = some { kd := .sl 23, size := 1, bytes := 24, zero := some [.vec [] true] }) ∧ (tyOf Try.prog 30 = some { kd := .st [(0, 29)], size := 1, bytes := 24, zero := some [.vec [] true] }) ∧ (tyOf Try.prog 31 = some { kd := .st [(0, 29)], size := 1, bytes := 24, zero := some [.vec [] true] }) ∧ (tyOf Try.prog 32 = some { kd := .st [(0, 28), (1, 31)], size := 2, bytes := 32, zero := some [.lit (.pointer none), .vec [] true] }) ∧ (tyOf Try.prog 33 = some { kd := .st [(0, 28), (1, 31)], size := 2, bytes := 32, zero := some [.lit (.pointer none), .vec [] true] }) ∧ (tyOf Try.prog 34 = some { kd := .int .i64, size := 1, bytes := 8, zero := some [.lit (.int .i64 0)] }) ∧ (tyOf Try.prog 46 = some { kd := .st [(0, 3), (1, 3)], size := 2, bytes := 16, zero := some [.lit (.int .i64 0), .lit (.int .i64 0)] }) ∧ (tyOf Try.prog 47 = some { kd := .st [(0, 3), (1, 3)], size := 2, bytes := 16, zero := some [.lit (.int .i64 0), .lit (.int .i64 0)] }) ∧ (namesOk Try.prog 47 = true) ∧ (tyOf Try.prog 53 = some { kd := .int .u64, size := 1, bytes := 8, zero := some [.lit (.int .u64 0)] }) ∧ (tyOf Try.prog 56 = some { kd := .st [(0, 3), (1, 3), (2, 3), (3, 47), (5, 23)], size := 6, bytes := 64, zero := some [.lit (.int .i64 0), .lit (.int .i64 0), .lit (.int .i64 0), .lit (.int .i64 0), .lit (.int .i64 0), .vec [] true] }) ∧ (tyOf Try.prog 57 = some { kd := .st [(0, 3), (1, 3), (2, 3), (3, 47), (5, 23)], size := 6, bytes := 64, zero := some [.lit (.int .i64 0), .lit (.int .i64 0), .lit (.int .i64 0), .lit (.int .i64 0), .lit (.int .i64 0), .vec [] true] }) ∧ (tyOf Try.prog 63 = some { kd := .sl 69, size := 1, bytes := 24, zero := some [.vec [] true] }) ∧ (tyOf Try.prog 64 = some { kd := .st [(0, 4), (1, 63)], size := 2, bytes := 32, zero := some [.lit (.bool false), .vec [] true] }) ∧ (tyOf Try.prog 65 = some { kd := .st [(0, 4), (1, 63)], size := 2, bytes := 32, zero := some [.lit (.bool false), .vec [] true] }) ∧ (tyOf Try.prog 68 = some { kd := .st [(0, 47), (2, 26)], size := 3, bytes := 24, zero := some [.lit (.int .i64 0), .lit (.int .i64 0), .lit (.pointer none)] }) ∧ (tyOf Try.prog 69 = some { kd := .st [(0, 47), (2, 26)], size := 3, bytes := 24, zero := some [.lit (.int .i64 0), .lit (.int .i64 0), .lit (.pointer none)] }) ∧ (tyOf Try.prog 75 = some { kd := .map 26 3, size := 1, bytes := 8, zero := some [.lit (.map none)] }) ∧ (tyOf Try.prog 81 = some { kd := .map 91 4, size := 1, bytes := 8, zero := some [.lit (.map none)] }) ∧ (tyOf Try.prog 83 = some { kd := .map 91 26, size := 1, bytes := 8, zero := some [.lit (.map none)] }) ∧ (tyOf Try.prog 88 = some { kd := .sl 3, size := 1, bytes := 24, zero := some [.vec [] true] }) ∧ (tyOf Try.prog 90 = some { kd := .st [(0, 26), (1, 26)], size := 2, bytes := 16, zero := some [.lit (.pointer none), .lit (.pointer none)] }) ∧ (tyOf Try.prog 91 = some { kd := .st [(0, 26), (1, 26)], size := 2, bytes := 16, zero := some [.lit (.pointer none), .lit (.pointer none)] }) ∧ (tyOf Try.prog 93 = some { kd := .int .i64, size := 1, bytes := 8, zero := some [.lit (.int .i64 0)] }) ∧ (tyOf Try.prog 100 = some { kd := .int .u32, size := 1, bytes := 4, zero := some [.lit (.int .u32 0)] }) ∧ (tyOf Try.prog 102 = some { kd := .int .u64, size := 1, bytes := 8, zero := some [.lit (.int .u64 0)] }) ∧ (tyOf Try.prog 103 = some { kd := .int .u64, size := 1, bytes := 8, zero := some [.lit (.int .u64 0)] }) ∧ (tyOf Try.prog 107 = some { kd := .oth, size := 1, bytes := 8, zero := some [.lit (.pointer none)] }) ∧ (isPtr Try.prog 107 = true) ∧ (tyOf Try.prog 109 = some { kd := .oth, size := 1, bytes := 8, zero := some [.lit (.pointer none)] }) ∧ (isPtr Try.prog 109 = true) ∧ (tyOf Try.prog 113 = some { kd := .st [(0, 17), (1, 17), (2, 17), (3, 9)], size := 4, bytes := 40, zero := some [.lit (.pointer none), .lit (.pointer none), .lit (.pointer none), .lit (.string ⟨#[]⟩)] }) ∧ (tyOf Try.prog 114 = some { kd := .st [(0, 17), (1, 17), (2, 17), (3, 9)], size := 4, bytes := 40, zero := some [.lit (.pointer none), .lit (.pointer none), .lit (.pointer none), .lit (.string ⟨#[]⟩)] }) ∧ (tyOf Try.prog 115 = some { kd := .arr 0 16, size := 0, bytes := 0, zero := some [] }) ∧ (tyOf Try.prog 116 = some { kd := .st [(0, 115)], size := 0, bytes := 0, zero := some [] }) ∧ (tyOf Try.prog 117 = some { kd := .st [(0, 115)], size := 0, bytes := 0, zero := some [] }) ∧ (tyOf Try.prog 118 = some { kd := .int .u8, size := 1, bytes := 1, zero := some [.lit (.int .u8 0)] }) ∧ (tyOf Try.prog 119 = some { kd := .int .u8, size := 1, bytes := 1, zero := some [.lit (.int .u8 0)] }) ∧ (tyOf Try.prog 121 = some { kd := .oth, size := 1, bytes := 8, zero := some [.lit (.pointer none)] }) ∧ (isPtr Try.prog 121 = true) ∧ (tyOf Try.prog 122 = some { kd := .int .i32, size := 1, bytes := 4, zero := some [.lit (.int .i32 0)] }) ∧ (tyOf Try.prog 123 = some { kd := .int .i32, size := 1, bytes := 4, zero := some [.lit (.int .i32 0)] }) ∧ (tyOf Try.prog 124 = some { kd := .st [(0, 12), (1, 12), (2, 100), (3, 118), (4, 5), (5, 5), (6, 119), (7, 120), (8, 121), (9, 122), (10, 123)], size := 11, bytes := 48, zero := some [.lit (.int .u64 0), .lit (.int .u64 0), .lit (.int .u32 0), .lit (.int .u8 0), .lit (.int .u8 0), .lit (.int .u8 0), .lit (.int .u8 0), .lit .nilFunc, .lit (.pointer none), .lit (.int .i32 0), .lit (.int .i32 0)] }) ∧ (tyOf Try.prog 125 = some { kd := .st [(0, 12), (1, 12), (2, 100), (3, 118), (4, 5), (5, 5), (6, 119), (7, 120), (8, 121), (9, 122), (10, 123)], size := 11, bytes := 48, zero := some [.lit (.int .u64 0), .lit (.int .u64 0), .lit (.int .u32 0), .lit (.int .u8 0), .lit (.int .u8 0), .lit (.int .u8 0), .lit (.int .u8 0), .lit .nilFunc, .lit (.pointer none), .lit (.int .i32 0), .lit (.int .i32 0)] }) := ⟨ty2, ty3, ty4, ty5, ty6, ty7, ty8, ty9, ty10, ty11, ty12, ty13, ty14, ty15, pt15, ty16, pt16, ty17, pt17, ty18, ty19, ty21, ty22, ty23, ty24, ty26, pt26, ty27, ty28, ty29, ty30, ty31, ty32, ty33, ty34, ty46, ty47, nmOk47, ty53, ty56, ty57, ty63, ty64, ty65, ty68, ty69, ty75, ty81, ty83, ty88, ty90, ty91, ty93, ty100, ty102, ty103, ty107, pt107, ty109, pt109, ty113, ty114, ty115, ty116, ty117, ty118, ty119, ty121, pt121, ty122, ty123, ty124, ty125⟩
theorem call3 : Callable Try.prog 3 := ⟨_, Try.func3, rfl, by decide⟩
theorem call4 : Callable Try.prog 4 := ⟨_, Try.func4, rfl, by decide⟩
theorem call5 : Callable Try.prog 5 := ⟨_, Try.func5, rfl, by decide⟩
theorem call6 : Callable Try.prog 6 := ⟨_, Try.func6, rfl, by decide⟩
theorem call7 : Callable Try.prog 7 := ⟨_, Try.func7, rfl, by decide⟩
theorem call8 : Callable Try.prog 8 := ⟨_, Try.func8, rfl, by decide⟩
theorem call9 : Callable Try.prog 9 := ⟨_, Try.func9, rfl, by decide⟩
theorem call10 : Callable Try.prog 10 := ⟨_, Try.func10, rfl, by decide⟩
theorem call11 : Callable Try.prog 11 := ⟨_, Try.func11, rfl, by decide⟩
theorem call12 : Callable Try.prog 12 := ⟨_, Try.func12, rfl, by decide⟩
theorem call13 : Callable Try.prog 13 := ⟨_, Try.func13, rfl, by decide⟩
theorem call14 : Callable Try.prog 14 := ⟨_, Try.func14, rfl, by decide⟩
theorem call15 : Callable Try.prog 15 := ⟨_, Try.func15, rfl, by decide⟩
theorem call16 : Callable Try.prog 16 := ⟨_, Try.func16, rfl, by decide⟩
theorem call17 : Callable Try.prog 17 := ⟨_, Try.func17, rfl, by decide⟩
theorem call18 : Callable Try.prog 18 := ⟨_, Try.func18, rfl, by decide⟩
theorem call19 : Callable Try.prog 19 := ⟨_, Try.func19, rfl, by decide⟩
theorem call20 : Callable Try.prog 20 := ⟨_, Try.func20, rfl, by decide⟩
theorem call21 : Callable Try.prog 21 := ⟨_, Try.func21, rfl, by decide⟩
theorem call22 : Callable Try.prog 22 := ⟨_, Try.func22, rfl, by decide⟩
theorem call23 : Callable Try.prog 23 := ⟨_, Try.func23, rfl, by decide⟩
theorem call24 : Callable Try.prog 24 := ⟨_, Try.func24, rfl, by decide⟩
theorem call25 : Callable Try.prog 25 := ⟨_, Try.func25, rfl, by decide⟩
theorem call26 : Callable Try.prog 26 := ⟨_, Try.func26, rfl, by decide⟩
theorem call27 : Callable Try.prog 27 := ⟨_, Try.func27, rfl, by decide⟩
theorem call28 : Callable Try.prog 28 := ⟨_, Try.func28, rfl, by decide⟩
theorem call29 : Callable Try.prog 29 := ⟨_, Try.func29, rfl, by decide⟩
theorem call30 : Callable Try.prog 30 := ⟨_, Try.func30, rfl, by decide⟩
theorem call31 : Callable Try.prog 31 := ⟨_, Try.func31, rfl, by decide⟩
theorem call32 : Callable Try.prog 32 := ⟨_, Try.func32, rfl, by decide⟩
theorem call33 : Callable Try.prog 33 := ⟨_, Try.func33, rfl, by decide⟩
theorem call34 : Callable Try.prog 34 := ⟨_, Try.func34, rfl, by decide⟩
theorem call35 : Callable Try.prog 35 := ⟨_, Try.func35, rfl, by decide⟩
theorem call36 : Callable Try.prog 36 := ⟨_, Try.func36, rfl, by decide⟩
theorem call37 : Callable Try.prog 37 := ⟨_, Try.func37, rfl, by decide⟩
theorem call38 : Callable Try.prog 38 := ⟨_, Try.func38, rfl, by decide⟩
theorem call39 : Callable Try.prog 39 := ⟨_, Try.func39, rfl, by decide⟩
theorem call40 : Callable Try.prog 40 := ⟨_, Try.func40, rfl, by decide⟩
theorem call41 : Callable Try.prog 41 := ⟨_, Try.func41, rfl, by decide⟩
theorem call42 : Callable Try.prog 42 := ⟨_, Try.func42, rfl, by decide⟩
theorem call43 : Callable Try.prog 43 := ⟨_, Try.func43, rfl, by decide⟩
theorem call44 : Callable Try.prog 44 := ⟨_, Try.func44, rfl, by decide⟩
theorem call45 : Callable Try.prog 45 := ⟨_, Try.func45, rfl, by decide⟩
theorem call46 : Callable Try.prog 46 := ⟨_, Try.func46, rfl, by decide⟩
theorem call47 : Callable Try.prog 47 := ⟨_, Try.func47, rfl, by decide⟩
theorem call48 : Callable Try.prog 48 := ⟨_, Try.func48, rfl, by decide⟩
theorem call49 : Callable Try.prog 49 := ⟨_, Try.func49, rfl, by decide⟩
theorem call50 : Callable Try.prog 50 := ⟨_, Try.func50, rfl, by decide⟩
theorem call51 : Callable Try.prog 51 := ⟨_, Try.func51, rfl, by decide⟩
theorem call52 : Callable Try.prog 52 := ⟨_, Try.func52, rfl, by decide⟩
theorem call53 : Callable Try.prog 53 := ⟨_, Try.func53, rfl, by decide⟩
theorem call54 : Callable Try.prog 54 := ⟨_, Try.func54, rfl, by decide⟩
theorem call55 : Callable Try.prog 55 := ⟨_, Try.func55, rfl, by decide⟩
theorem call56 : Callable Try.prog 56 := ⟨_, Try.func56, rfl, by decide⟩
theorem call57 : Callable Try.prog 57 := ⟨_, Try.func57, rfl, by decide⟩
theorem call58 : Callable Try.prog 58 := ⟨_, Try.func58, rfl, by decide⟩
theorem call59 : Callable Try.prog 59 := ⟨_, Try.func59, rfl, by decide⟩
theorem call60 : Callable Try.prog 60 := ⟨_, Try.func60, rfl, by decide⟩
theorem call61 : Callable Try.prog 61 := ⟨_, Try.func61, rfl, by decide⟩
theorem call62 : Callable Try.prog 62 := ⟨_, Try.func62, rfl, by decide⟩
theorem call63 : Callable Try.prog 63 := ⟨_, Try.func63, rfl, by decide⟩
theorem call64 : Callable Try.prog 64 := ⟨_, Try.func64, rfl, by decide⟩
theorem call65 : Callable Try.prog 65 := ⟨_, Try.func65, rfl, by decide⟩
theorem call66 : Callable Try.prog 66 := ⟨_, Try.func66, rfl, by decide⟩
theorem call67 : Callable Try.prog 67 := ⟨_, Try.func67, rfl, by decide⟩
theorem call68 : Callable Try.prog 68 := ⟨_, Try.func68, rfl, by decide⟩
end Go.Proofs.Ytfnmdmadaljjkaa
