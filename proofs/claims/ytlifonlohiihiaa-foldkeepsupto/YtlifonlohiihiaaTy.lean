/- What the machine asks of each type of the dump: closed facts. -/
import Derived.Test.YtlifonlohiihiaaProg
import Derived.Test.YtlifonlohiihiaaScope
import Derived.KernelRfl
namespace Go.Proofs.Ytlifonlohiihiaa
open Go.Ab
theorem ty2 : tyOf Try.prog 2 = some { kd := .int .i64, size := 1, bytes := 8, zero := some [.lit (.int .i64 0)] } := by kernel_rfl
theorem ty3 : tyOf Try.prog 3 = some { kd := .int .i64, size := 1, bytes := 8, zero := some [.lit (.int .i64 0)] } := by kernel_rfl
theorem ty4 : tyOf Try.prog 4 = some { kd := .bool, size := 1, bytes := 1, zero := some [.lit (.bool false)] } := by kernel_rfl
theorem ty5 : tyOf Try.prog 5 = some { kd := .int .u8, size := 1, bytes := 1, zero := some [.lit (.int .u8 0)] } := by kernel_rfl
theorem ty6 : tyOf Try.prog 6 = some { kd := .int .u8, size := 1, bytes := 1, zero := some [.lit (.int .u8 0)] } := by kernel_rfl
theorem ty7 : tyOf Try.prog 7 = some { kd := .st [(0, 2), (1, 3), (2, 4), (3, 6)], size := 4, bytes := 24, zero := some [.lit (.int .i64 0), .lit (.int .i64 0), .lit (.bool false), .lit (.int .u8 0)] } := by kernel_rfl
theorem ty8 : tyOf Try.prog 8 = some { kd := .st [(0, 2), (1, 3), (2, 4), (3, 6)], size := 4, bytes := 24, zero := some [.lit (.int .i64 0), .lit (.int .i64 0), .lit (.bool false), .lit (.int .u8 0)] } := by kernel_rfl
theorem ty9 : tyOf Try.prog 9 = some { kd := .str, size := 1, bytes := 16, zero := some [.lit (.string ⟨#[]⟩)] } := by kernel_rfl
theorem ty10 : tyOf Try.prog 10 = some { kd := .str, size := 1, bytes := 16, zero := some [.lit (.string ⟨#[]⟩)] } := by kernel_rfl
theorem ty11 : tyOf Try.prog 11 = some { kd := .str, size := 1, bytes := 16, zero := some [.lit (.string ⟨#[]⟩)] } := by kernel_rfl
theorem ty12 : tyOf Try.prog 12 = some { kd := .int .u64, size := 1, bytes := 8, zero := some [.lit (.int .u64 0)] } := by kernel_rfl
theorem ty13 : tyOf Try.prog 13 = some { kd := .st [(0, 9), (1, 12)], size := 2, bytes := 24, zero := some [.lit (.string ⟨#[]⟩), .lit (.int .u64 0)] } := by kernel_rfl
theorem ty14 : tyOf Try.prog 14 = some { kd := .st [(0, 9), (1, 12)], size := 2, bytes := 24, zero := some [.lit (.string ⟨#[]⟩), .lit (.int .u64 0)] } := by kernel_rfl
theorem ty15 : tyOf Try.prog 15 = some { kd := .oth, size := 1, bytes := 8, zero := some [.lit (.pointer none)] } := by kernel_rfl
theorem ty16 : tyOf Try.prog 16 = some { kd := .oth, size := 1, bytes := 8, zero := some [.lit (.pointer none)] } := by kernel_rfl
theorem ty17 : tyOf Try.prog 17 = some { kd := .oth, size := 1, bytes := 8, zero := some [.lit (.pointer none)] } := by kernel_rfl
theorem ty18 : tyOf Try.prog 18 = some { kd := .st [(0, 17)], size := 1, bytes := 8, zero := some [.lit (.pointer none)] } := by kernel_rfl
theorem ty19 : tyOf Try.prog 19 = some { kd := .st [(0, 17)], size := 1, bytes := 8, zero := some [.lit (.pointer none)] } := by kernel_rfl
theorem ty21 : tyOf Try.prog 21 = some { kd := .int .i32, size := 1, bytes := 4, zero := some [.lit (.int .i32 0)] } := by kernel_rfl
theorem ty22 : tyOf Try.prog 22 = some { kd := .int .i8, size := 1, bytes := 1, zero := some [.lit (.int .i8 0)] } := by kernel_rfl
theorem ty23 : tyOf Try.prog 23 = some { kd := .sl 25, size := 1, bytes := 24, zero := some [.vec [] true] } := by kernel_rfl
theorem ty24 : tyOf Try.prog 24 = some { kd := .st [(0, 22), (1, 3), (2, 3), (3, 3), (4, 3), (5, 4), (6, 23)], size := 7, bytes := 72, zero := some [.lit (.int .i8 0), .lit (.int .i64 0), .lit (.int .i64 0), .lit (.int .i64 0), .lit (.int .i64 0), .lit (.bool false), .vec [] true] } := by kernel_rfl
theorem ty25 : tyOf Try.prog 25 = some { kd := .st [(0, 22), (1, 3), (2, 3), (3, 3), (4, 3), (5, 4), (6, 23)], size := 7, bytes := 72, zero := some [.lit (.int .i8 0), .lit (.int .i64 0), .lit (.int .i64 0), .lit (.int .i64 0), .lit (.int .i64 0), .lit (.bool false), .vec [] true] } := by kernel_rfl
theorem ty38 : tyOf Try.prog 38 = some { kd := .st [(0, 22), (1, 22), (2, 3), (3, 3), (4, 3), (5, 3), (6, 4)], size := 7, bytes := 48, zero := some [.lit (.int .i8 0), .lit (.int .i8 0), .lit (.int .i64 0), .lit (.int .i64 0), .lit (.int .i64 0), .lit (.int .i64 0), .lit (.bool false)] } := by kernel_rfl
theorem ty39 : tyOf Try.prog 39 = some { kd := .st [(0, 22), (1, 22), (2, 3), (3, 3), (4, 3), (5, 3), (6, 4)], size := 7, bytes := 48, zero := some [.lit (.int .i8 0), .lit (.int .i8 0), .lit (.int .i64 0), .lit (.int .i64 0), .lit (.int .i64 0), .lit (.int .i64 0), .lit (.bool false)] } := by kernel_rfl
theorem nmOk39 : namesOk Try.prog 39 = true := by kernel_rfl
theorem ty44 : tyOf Try.prog 44 = some { kd := .st [(0, 17), (1, 17), (2, 17), (3, 9)], size := 4, bytes := 40, zero := some [.lit (.pointer none), .lit (.pointer none), .lit (.pointer none), .lit (.string ⟨#[]⟩)] } := by kernel_rfl
theorem ty45 : tyOf Try.prog 45 = some { kd := .st [(0, 17), (1, 17), (2, 17), (3, 9)], size := 4, bytes := 40, zero := some [.lit (.pointer none), .lit (.pointer none), .lit (.pointer none), .lit (.string ⟨#[]⟩)] } := by kernel_rfl
theorem ty46 : tyOf Try.prog 46 = some { kd := .arr 0 16, size := 0, bytes := 0, zero := some [] } := by kernel_rfl
theorem ty47 : tyOf Try.prog 47 = some { kd := .st [(0, 46)], size := 0, bytes := 0, zero := some [] } := by kernel_rfl
theorem ty48 : tyOf Try.prog 48 = some { kd := .st [(0, 46)], size := 0, bytes := 0, zero := some [] } := by kernel_rfl
theorem ty50 : tyOf Try.prog 50 = some { kd := .int .u32, size := 1, bytes := 4, zero := some [.lit (.int .u32 0)] } := by kernel_rfl
theorem ty51 : tyOf Try.prog 51 = some { kd := .int .u8, size := 1, bytes := 1, zero := some [.lit (.int .u8 0)] } := by kernel_rfl
theorem ty52 : tyOf Try.prog 52 = some { kd := .int .u8, size := 1, bytes := 1, zero := some [.lit (.int .u8 0)] } := by kernel_rfl
theorem ty54 : tyOf Try.prog 54 = some { kd := .oth, size := 1, bytes := 8, zero := some [.lit (.pointer none)] } := by kernel_rfl
theorem ty55 : tyOf Try.prog 55 = some { kd := .int .i32, size := 1, bytes := 4, zero := some [.lit (.int .i32 0)] } := by kernel_rfl
theorem ty56 : tyOf Try.prog 56 = some { kd := .int .i32, size := 1, bytes := 4, zero := some [.lit (.int .i32 0)] } := by kernel_rfl
theorem ty57 : tyOf Try.prog 57 = some { kd := .st [(0, 12), (1, 12), (2, 50), (3, 51), (4, 5), (5, 5), (6, 52), (7, 53), (8, 54), (9, 55), (10, 56)], size := 11, bytes := 48, zero := some [.lit (.int .u64 0), .lit (.int .u64 0), .lit (.int .u32 0), .lit (.int .u8 0), .lit (.int .u8 0), .lit (.int .u8 0), .lit (.int .u8 0), .lit .nilFunc, .lit (.pointer none), .lit (.int .i32 0), .lit (.int .i32 0)] } := by kernel_rfl
theorem ty58 : tyOf Try.prog 58 = some { kd := .st [(0, 12), (1, 12), (2, 50), (3, 51), (4, 5), (5, 5), (6, 52), (7, 53), (8, 54), (9, 55), (10, 56)], size := 11, bytes := 48, zero := some [.lit (.int .u64 0), .lit (.int .u64 0), .lit (.int .u32 0), .lit (.int .u8 0), .lit (.int .u8 0), .lit (.int .u8 0), .lit (.int .u8 0), .lit .nilFunc, .lit (.pointer none), .lit (.int .i32 0), .lit (.int .i32 0)] } := by kernel_rfl
theorem call3 : Callable Try.prog 3 := ⟨_, Try.func3, rfl, by decide⟩
theorem call4 : Callable Try.prog 4 := ⟨_, Try.func4, rfl, by decide⟩
theorem call5 : Callable Try.prog 5 := ⟨_, Try.func5, rfl, by decide⟩
theorem call6 : Callable Try.prog 6 := ⟨_, Try.func6, rfl, by decide⟩
theorem call7 : Callable Try.prog 7 := ⟨_, Try.func7, rfl, by decide⟩
theorem call8 : Callable Try.prog 8 := ⟨_, Try.func8, rfl, by decide⟩
theorem call9 : Callable Try.prog 9 := ⟨_, Try.func9, rfl, by decide⟩
theorem call10 : Callable Try.prog 10 := ⟨_, Try.func10, rfl, by decide⟩
theorem call11 : Callable Try.prog 11 := ⟨_, Try.func11, rfl, by decide⟩
theorem call12 : Callable Try.prog 12 := ⟨_, Try.func12, rfl, by decide⟩
theorem call13 : Callable Try.prog 13 := ⟨_, Try.func13, rfl, by decide⟩
theorem call14 : Callable Try.prog 14 := ⟨_, Try.func14, rfl, by decide⟩
theorem call15 : Callable Try.prog 15 := ⟨_, Try.func15, rfl, by decide⟩
theorem call16 : Callable Try.prog 16 := ⟨_, Try.func16, rfl, by decide⟩
theorem call17 : Callable Try.prog 17 := ⟨_, Try.func17, rfl, by decide⟩
theorem call18 : Callable Try.prog 18 := ⟨_, Try.func18, rfl, by decide⟩
theorem call19 : Callable Try.prog 19 := ⟨_, Try.func19, rfl, by decide⟩
theorem call20 : Callable Try.prog 20 := ⟨_, Try.func20, rfl, by decide⟩
theorem call21 : Callable Try.prog 21 := ⟨_, Try.func21, rfl, by decide⟩
end Go.Proofs.Ytlifonlohiihiaa
