import Derived.Test.YtgepfjlecmmokaaEngD
import Derived.Test.YtgepfjlecmmokaaChecked
/-! What this seat's types are, as the engine's equations. By a program (wip/eng/genfacts.py). -/
namespace Go.Proofs.Ytgepfjlecmmokaa
open Go Go.Eng
section
variable {w : World} {KV : Value → Prop}
theorem sz1 : Try.prog.szo 1 = some 1 := by kernel_rfl
theorem sz2 : Try.prog.szo 2 = some 1 := by kernel_rfl
theorem ld2 (a : Addr) : vLoad Try.prog 2 (.pointer (some a)) w KV = ∃ v, w.cell? a = some v ∧ KV v := ld_int 2 a .i64 Try.underlying2
theorem cv2_2 (k : IntKind) (n : Int) : vConv Try.prog 2 2 (.int k n) w KV = vWrap .i64 n KV := cv_int 2 2 _ .i64 k n Try.underlying2 Try.underlying2
theorem cp2_2 : convPure Try.prog 2 2 = true := by kernel_rfl
theorem cv2_3 (k : IntKind) (n : Int) : vConv Try.prog 2 3 (.int k n) w KV = vWrap .i64 n KV := cv_int 2 3 _ .i64 k n Try.underlying2 Try.underlying3
theorem cp2_3 : convPure Try.prog 2 3 = true := by kernel_rfl
theorem cv2_5 (k : IntKind) (n : Int) : vConv Try.prog 2 5 (.int k n) w KV = vWrap .u8 n KV := cv_int 2 5 _ .u8 k n Try.underlying2 Try.underlying5
theorem cp2_5 : convPure Try.prog 2 5 = true := by kernel_rfl
theorem cv2_12 (k : IntKind) (n : Int) : vConv Try.prog 2 12 (.int k n) w KV = vWrap .u64 n KV := cv_int 2 12 _ .u64 k n Try.underlying2 Try.underlying12
theorem cp2_12 : convPure Try.prog 2 12 = true := by kernel_rfl
theorem cv2_21 (k : IntKind) (n : Int) : vConv Try.prog 2 21 (.int k n) w KV = vWrap .i32 n KV := cv_int 2 21 _ .i32 k n Try.underlying2 Try.underlying21
theorem cp2_21 : convPure Try.prog 2 21 = true := by kernel_rfl
theorem cv2_25 (k : IntKind) (n : Int) : vConv Try.prog 2 25 (.int k n) w KV = vWrap .i64 n KV := cv_int 2 25 _ .i64 k n Try.underlying2 Try.underlying25
theorem cp2_25 : convPure Try.prog 2 25 = true := by kernel_rfl
theorem cv2_48 (k : IntKind) (n : Int) : vConv Try.prog 2 48 (.int k n) w KV = vWrap .u64 n KV := cv_int 2 48 _ .u64 k n Try.underlying2 Try.underlying48
theorem cp2_48 : convPure Try.prog 2 48 = true := by kernel_rfl
theorem cv2_61 (k : IntKind) (n : Int) : vConv Try.prog 2 61 (.int k n) w KV = vWrap .u32 n KV := cv_int 2 61 _ .u32 k n Try.underlying2 Try.underlying61
theorem cp2_61 : convPure Try.prog 2 61 = true := by kernel_rfl
theorem sz3 : Try.prog.szo 3 = some 1 := by kernel_rfl
theorem ld3 (a : Addr) : vLoad Try.prog 3 (.pointer (some a)) w KV = ∃ v, w.cell? a = some v ∧ KV v := ld_int 3 a .i64 Try.underlying3
theorem cv3_2 (k : IntKind) (n : Int) : vConv Try.prog 3 2 (.int k n) w KV = vWrap .i64 n KV := cv_int 3 2 _ .i64 k n Try.underlying3 Try.underlying2
theorem cp3_2 : convPure Try.prog 3 2 = true := by kernel_rfl
theorem cv3_3 (k : IntKind) (n : Int) : vConv Try.prog 3 3 (.int k n) w KV = vWrap .i64 n KV := cv_int 3 3 _ .i64 k n Try.underlying3 Try.underlying3
theorem cp3_3 : convPure Try.prog 3 3 = true := by kernel_rfl
theorem cv3_5 (k : IntKind) (n : Int) : vConv Try.prog 3 5 (.int k n) w KV = vWrap .u8 n KV := cv_int 3 5 _ .u8 k n Try.underlying3 Try.underlying5
theorem cp3_5 : convPure Try.prog 3 5 = true := by kernel_rfl
theorem cv3_12 (k : IntKind) (n : Int) : vConv Try.prog 3 12 (.int k n) w KV = vWrap .u64 n KV := cv_int 3 12 _ .u64 k n Try.underlying3 Try.underlying12
theorem cp3_12 : convPure Try.prog 3 12 = true := by kernel_rfl
theorem cv3_21 (k : IntKind) (n : Int) : vConv Try.prog 3 21 (.int k n) w KV = vWrap .i32 n KV := cv_int 3 21 _ .i32 k n Try.underlying3 Try.underlying21
theorem cp3_21 : convPure Try.prog 3 21 = true := by kernel_rfl
theorem cv3_25 (k : IntKind) (n : Int) : vConv Try.prog 3 25 (.int k n) w KV = vWrap .i64 n KV := cv_int 3 25 _ .i64 k n Try.underlying3 Try.underlying25
theorem cp3_25 : convPure Try.prog 3 25 = true := by kernel_rfl
theorem cv3_48 (k : IntKind) (n : Int) : vConv Try.prog 3 48 (.int k n) w KV = vWrap .u64 n KV := cv_int 3 48 _ .u64 k n Try.underlying3 Try.underlying48
theorem cp3_48 : convPure Try.prog 3 48 = true := by kernel_rfl
theorem cv3_61 (k : IntKind) (n : Int) : vConv Try.prog 3 61 (.int k n) w KV = vWrap .u32 n KV := cv_int 3 61 _ .u32 k n Try.underlying3 Try.underlying61
theorem cp3_61 : convPure Try.prog 3 61 = true := by kernel_rfl
theorem sz4 : Try.prog.szo 4 = some 1 := by kernel_rfl
theorem ld4 (a : Addr) : vLoad Try.prog 4 (.pointer (some a)) w KV = ∃ v, w.cell? a = some v ∧ KV v := ld_bool 4 a Try.underlying4
theorem beql4 (x y : Operand) (a b : Bool) : vBinO Try.prog .eql 4 x y (.bool a) (.bool b) w KV = KV (.bool (decide (a = b))) := bb_eql 4 x y a b Try.underlying4
theorem bneq4 (x y : Operand) (a b : Bool) : vBinO Try.prog .neq 4 x y (.bool a) (.bool b) w KV = KV (.bool (decide (¬ a = b))) := bb_neq 4 x y a b Try.underlying4
theorem sz5 : Try.prog.szo 5 = some 1 := by kernel_rfl
theorem ld5 (a : Addr) : vLoad Try.prog 5 (.pointer (some a)) w KV = ∃ v, w.cell? a = some v ∧ KV v := ld_int 5 a .u8 Try.underlying5
theorem cv5_2 (k : IntKind) (n : Int) : vConv Try.prog 5 2 (.int k n) w KV = vWrap .i64 n KV := cv_int 5 2 _ .i64 k n Try.underlying5 Try.underlying2
theorem cp5_2 : convPure Try.prog 5 2 = true := by kernel_rfl
theorem cv5_3 (k : IntKind) (n : Int) : vConv Try.prog 5 3 (.int k n) w KV = vWrap .i64 n KV := cv_int 5 3 _ .i64 k n Try.underlying5 Try.underlying3
theorem cp5_3 : convPure Try.prog 5 3 = true := by kernel_rfl
theorem cv5_5 (k : IntKind) (n : Int) : vConv Try.prog 5 5 (.int k n) w KV = vWrap .u8 n KV := cv_int 5 5 _ .u8 k n Try.underlying5 Try.underlying5
theorem cp5_5 : convPure Try.prog 5 5 = true := by kernel_rfl
theorem cv5_12 (k : IntKind) (n : Int) : vConv Try.prog 5 12 (.int k n) w KV = vWrap .u64 n KV := cv_int 5 12 _ .u64 k n Try.underlying5 Try.underlying12
theorem cp5_12 : convPure Try.prog 5 12 = true := by kernel_rfl
theorem cv5_21 (k : IntKind) (n : Int) : vConv Try.prog 5 21 (.int k n) w KV = vWrap .i32 n KV := cv_int 5 21 _ .i32 k n Try.underlying5 Try.underlying21
theorem cp5_21 : convPure Try.prog 5 21 = true := by kernel_rfl
theorem cv5_25 (k : IntKind) (n : Int) : vConv Try.prog 5 25 (.int k n) w KV = vWrap .i64 n KV := cv_int 5 25 _ .i64 k n Try.underlying5 Try.underlying25
theorem cp5_25 : convPure Try.prog 5 25 = true := by kernel_rfl
theorem cv5_48 (k : IntKind) (n : Int) : vConv Try.prog 5 48 (.int k n) w KV = vWrap .u64 n KV := cv_int 5 48 _ .u64 k n Try.underlying5 Try.underlying48
theorem cp5_48 : convPure Try.prog 5 48 = true := by kernel_rfl
theorem cv5_61 (k : IntKind) (n : Int) : vConv Try.prog 5 61 (.int k n) w KV = vWrap .u32 n KV := cv_int 5 61 _ .u32 k n Try.underlying5 Try.underlying61
theorem cp5_61 : convPure Try.prog 5 61 = true := by kernel_rfl
theorem sz6 : Try.prog.szo 6 = some 1 := by kernel_rfl
theorem sz9 : Try.prog.szo 9 = some 1 := by kernel_rfl
theorem ln9 (s : ByteArray) : vLen Try.prog 9 (.string s) KV = KV (.int .i64 (toL s).length) := ln_str 9 s Try.underlying9
theorem ix9 (s : ByteArray) (k : IntKind) (n : Int) : vIndex Try.prog 9 (.string s) (.int k n) KV = ((0 ≤ n ∧ n < (toL s).length) ∧ KV (.int .u8 ((toL s).getD n.toNat 0).toNat)) := ix_str 9 s k n Try.underlying9
theorem snn9 (s : ByteArray) : vSlice Try.prog 9 (.string s) none none KV = KV (.string s) := ss_nn 9 s Try.underlying9
theorem sln9 (s : ByteArray) (k : IntKind) (l : Int) : vSlice Try.prog 9 (.string s) (some (.int k l)) none KV = ((0 ≤ l ∧ l ≤ (toL s).length) ∧ KV (Str ((toL s).drop l.toNat))) := ss_ln 9 s k l Try.underlying9
theorem snh9 (s : ByteArray) (k : IntKind) (l : Int) : vSlice Try.prog 9 (.string s) none (some (.int k l)) KV = ((0 ≤ l ∧ l ≤ (toL s).length) ∧ KV (Str ((toL s).take l.toNat))) := ss_nh 9 s k l Try.underlying9
theorem slh9 (s : ByteArray) (k k' : IntKind) (l m : Int) : vSlice Try.prog 9 (.string s) (some (.int k l)) (some (.int k' m)) KV = ((0 ≤ l ∧ l ≤ m ∧ m ≤ (toL s).length) ∧ KV (Str (((toL s).drop l.toNat).take (m.toNat - l.toNat)))) := ss_lh 9 s k k' l m Try.underlying9
theorem ld9 (a : Addr) : vLoad Try.prog 9 (.pointer (some a)) w KV = ∃ v, w.cell? a = some v ∧ KV v := ld_str 9 a Try.underlying9
theorem sz12 : Try.prog.szo 12 = some 1 := by kernel_rfl
theorem ld12 (a : Addr) : vLoad Try.prog 12 (.pointer (some a)) w KV = ∃ v, w.cell? a = some v ∧ KV v := ld_int 12 a .u64 Try.underlying12
theorem cv12_2 (k : IntKind) (n : Int) : vConv Try.prog 12 2 (.int k n) w KV = vWrap .i64 n KV := cv_int 12 2 _ .i64 k n Try.underlying12 Try.underlying2
theorem cp12_2 : convPure Try.prog 12 2 = true := by kernel_rfl
theorem cv12_3 (k : IntKind) (n : Int) : vConv Try.prog 12 3 (.int k n) w KV = vWrap .i64 n KV := cv_int 12 3 _ .i64 k n Try.underlying12 Try.underlying3
theorem cp12_3 : convPure Try.prog 12 3 = true := by kernel_rfl
theorem cv12_5 (k : IntKind) (n : Int) : vConv Try.prog 12 5 (.int k n) w KV = vWrap .u8 n KV := cv_int 12 5 _ .u8 k n Try.underlying12 Try.underlying5
theorem cp12_5 : convPure Try.prog 12 5 = true := by kernel_rfl
theorem cv12_12 (k : IntKind) (n : Int) : vConv Try.prog 12 12 (.int k n) w KV = vWrap .u64 n KV := cv_int 12 12 _ .u64 k n Try.underlying12 Try.underlying12
theorem cp12_12 : convPure Try.prog 12 12 = true := by kernel_rfl
theorem cv12_21 (k : IntKind) (n : Int) : vConv Try.prog 12 21 (.int k n) w KV = vWrap .i32 n KV := cv_int 12 21 _ .i32 k n Try.underlying12 Try.underlying21
theorem cp12_21 : convPure Try.prog 12 21 = true := by kernel_rfl
theorem cv12_25 (k : IntKind) (n : Int) : vConv Try.prog 12 25 (.int k n) w KV = vWrap .i64 n KV := cv_int 12 25 _ .i64 k n Try.underlying12 Try.underlying25
theorem cp12_25 : convPure Try.prog 12 25 = true := by kernel_rfl
theorem cv12_48 (k : IntKind) (n : Int) : vConv Try.prog 12 48 (.int k n) w KV = vWrap .u64 n KV := cv_int 12 48 _ .u64 k n Try.underlying12 Try.underlying48
theorem cp12_48 : convPure Try.prog 12 48 = true := by kernel_rfl
theorem cv12_61 (k : IntKind) (n : Int) : vConv Try.prog 12 61 (.int k n) w KV = vWrap .u32 n KV := cv_int 12 61 _ .u32 k n Try.underlying12 Try.underlying61
theorem cp12_61 : convPure Try.prog 12 61 = true := by kernel_rfl
theorem sz20 : Try.prog.szo 20 = some 1 := by kernel_rfl
theorem sz21 : Try.prog.szo 21 = some 1 := by kernel_rfl
theorem ld21 (a : Addr) : vLoad Try.prog 21 (.pointer (some a)) w KV = ∃ v, w.cell? a = some v ∧ KV v := ld_int 21 a .i32 Try.underlying21
theorem cv21_2 (k : IntKind) (n : Int) : vConv Try.prog 21 2 (.int k n) w KV = vWrap .i64 n KV := cv_int 21 2 _ .i64 k n Try.underlying21 Try.underlying2
theorem cp21_2 : convPure Try.prog 21 2 = true := by kernel_rfl
theorem cv21_3 (k : IntKind) (n : Int) : vConv Try.prog 21 3 (.int k n) w KV = vWrap .i64 n KV := cv_int 21 3 _ .i64 k n Try.underlying21 Try.underlying3
theorem cp21_3 : convPure Try.prog 21 3 = true := by kernel_rfl
theorem cv21_5 (k : IntKind) (n : Int) : vConv Try.prog 21 5 (.int k n) w KV = vWrap .u8 n KV := cv_int 21 5 _ .u8 k n Try.underlying21 Try.underlying5
theorem cp21_5 : convPure Try.prog 21 5 = true := by kernel_rfl
theorem cv21_12 (k : IntKind) (n : Int) : vConv Try.prog 21 12 (.int k n) w KV = vWrap .u64 n KV := cv_int 21 12 _ .u64 k n Try.underlying21 Try.underlying12
theorem cp21_12 : convPure Try.prog 21 12 = true := by kernel_rfl
theorem cv21_21 (k : IntKind) (n : Int) : vConv Try.prog 21 21 (.int k n) w KV = vWrap .i32 n KV := cv_int 21 21 _ .i32 k n Try.underlying21 Try.underlying21
theorem cp21_21 : convPure Try.prog 21 21 = true := by kernel_rfl
theorem cv21_25 (k : IntKind) (n : Int) : vConv Try.prog 21 25 (.int k n) w KV = vWrap .i64 n KV := cv_int 21 25 _ .i64 k n Try.underlying21 Try.underlying25
theorem cp21_25 : convPure Try.prog 21 25 = true := by kernel_rfl
theorem cv21_48 (k : IntKind) (n : Int) : vConv Try.prog 21 48 (.int k n) w KV = vWrap .u64 n KV := cv_int 21 48 _ .u64 k n Try.underlying21 Try.underlying48
theorem cp21_48 : convPure Try.prog 21 48 = true := by kernel_rfl
theorem cv21_61 (k : IntKind) (n : Int) : vConv Try.prog 21 61 (.int k n) w KV = vWrap .u32 n KV := cv_int 21 61 _ .u32 k n Try.underlying21 Try.underlying61
theorem cp21_61 : convPure Try.prog 21 61 = true := by kernel_rfl
theorem sz22 : Try.prog.szo 22 = some 1 := by kernel_rfl
theorem sz23 : Try.prog.szo 23 = some 1 := by kernel_rfl
theorem sz24 : Try.prog.szo 24 = some 1 := by kernel_rfl
theorem sz25 : Try.prog.szo 25 = some 1 := by kernel_rfl
theorem ld25 (a : Addr) : vLoad Try.prog 25 (.pointer (some a)) w KV = ∃ v, w.cell? a = some v ∧ KV v := ld_int 25 a .i64 Try.underlying25
theorem cv25_2 (k : IntKind) (n : Int) : vConv Try.prog 25 2 (.int k n) w KV = vWrap .i64 n KV := cv_int 25 2 _ .i64 k n Try.underlying25 Try.underlying2
theorem cp25_2 : convPure Try.prog 25 2 = true := by kernel_rfl
theorem cv25_3 (k : IntKind) (n : Int) : vConv Try.prog 25 3 (.int k n) w KV = vWrap .i64 n KV := cv_int 25 3 _ .i64 k n Try.underlying25 Try.underlying3
theorem cp25_3 : convPure Try.prog 25 3 = true := by kernel_rfl
theorem cv25_5 (k : IntKind) (n : Int) : vConv Try.prog 25 5 (.int k n) w KV = vWrap .u8 n KV := cv_int 25 5 _ .u8 k n Try.underlying25 Try.underlying5
theorem cp25_5 : convPure Try.prog 25 5 = true := by kernel_rfl
theorem cv25_12 (k : IntKind) (n : Int) : vConv Try.prog 25 12 (.int k n) w KV = vWrap .u64 n KV := cv_int 25 12 _ .u64 k n Try.underlying25 Try.underlying12
theorem cp25_12 : convPure Try.prog 25 12 = true := by kernel_rfl
theorem cv25_21 (k : IntKind) (n : Int) : vConv Try.prog 25 21 (.int k n) w KV = vWrap .i32 n KV := cv_int 25 21 _ .i32 k n Try.underlying25 Try.underlying21
theorem cp25_21 : convPure Try.prog 25 21 = true := by kernel_rfl
theorem cv25_25 (k : IntKind) (n : Int) : vConv Try.prog 25 25 (.int k n) w KV = vWrap .i64 n KV := cv_int 25 25 _ .i64 k n Try.underlying25 Try.underlying25
theorem cp25_25 : convPure Try.prog 25 25 = true := by kernel_rfl
theorem cv25_48 (k : IntKind) (n : Int) : vConv Try.prog 25 48 (.int k n) w KV = vWrap .u64 n KV := cv_int 25 48 _ .u64 k n Try.underlying25 Try.underlying48
theorem cp25_48 : convPure Try.prog 25 48 = true := by kernel_rfl
theorem cv25_61 (k : IntKind) (n : Int) : vConv Try.prog 25 61 (.int k n) w KV = vWrap .u32 n KV := cv_int 25 61 _ .u32 k n Try.underlying25 Try.underlying61
theorem cp25_61 : convPure Try.prog 25 61 = true := by kernel_rfl
theorem sz27 : Try.prog.szo 27 = some 1 := by kernel_rfl
theorem sz29 : Try.prog.szo 29 = some 1 := by kernel_rfl
theorem sz30 : Try.prog.szo 30 = some 1 := by kernel_rfl
theorem sz31 : Try.prog.szo 31 = some 1 := by kernel_rfl
theorem sz32 : Try.prog.szo 32 = some 1 := by kernel_rfl
theorem ln32 (a : Option Addr) (n c : Nat) : vLen Try.prog 32 (.slice a n c) KV = KV (.int .i64 n) := ln_sl 32 5 a n c Try.underlying32
theorem snn32 (a : Option Addr) (n c : Nat) : vSlice Try.prog 32 (.slice a n c) none none KV = (n ≤ c ∧ KV (.slice a n c)) := sl_nn 32 5 a n c 1 Try.underlying32 (by kernel_rfl)
theorem sln32 (a : Option Addr) (n c : Nat) (k : IntKind) (l : Int) : vSlice Try.prog 32 (.slice a n c) (some (.int k l)) none KV = ((0 ≤ l ∧ l ≤ n ∧ n ≤ c) ∧ KV (.slice (if c = l.toNat then a else a.map (·.add (l.toNat * 1))) (n - l.toNat) (c - l.toNat))) := sl_ln 32 5 a n c 1 k l Try.underlying32 (by kernel_rfl)
theorem snh32 (a : Option Addr) (n c : Nat) (k : IntKind) (l : Int) : vSlice Try.prog 32 (.slice a n c) none (some (.int k l)) KV = ((0 ≤ l ∧ l ≤ c) ∧ KV (.slice a l.toNat c)) := sl_nh 32 5 a n c 1 k l Try.underlying32 (by kernel_rfl)
theorem slh32 (a : Option Addr) (n c : Nat) (k k' : IntKind) (l m : Int) : vSlice Try.prog 32 (.slice a n c) (some (.int k l)) (some (.int k' m)) KV = ((0 ≤ l ∧ l ≤ m ∧ m ≤ c) ∧ KV (.slice (if c = l.toNat then a else a.map (·.add (l.toNat * 1))) (m.toNat - l.toNat) (c - l.toNat))) := sl_lh 32 5 a n c 1 k k' l m Try.underlying32 (by kernel_rfl)
theorem ia32 (a : Addr) (n c : Nat) (k : IntKind) (i : Int) : vIndexAddr Try.prog 32 (.slice (some a) n c) (.int k i) KV = ((0 ≤ i ∧ i < n) ∧ KV (.pointer (some (a.add (i.toNat * 1))))) := ia_sl 32 5 a n c 1 k i Try.underlying32 (by kernel_rfl)
theorem ld32 (a : Addr) : vLoad Try.prog 32 (.pointer (some a)) w KV = ∃ v, w.cell? a = some v ∧ KV v := ld_sl 32 5 a Try.underlying32
theorem cv32_9 (a : Option Addr) (n c : Nat) : vConv Try.prog 32 9 (.slice a n c) w KV = ∃ l, ReadsBytes w a n l ∧ KV (Str l) := cv_str 32 9 5 a n c Try.underlying32 Try.underlying9 Try.underlying5
theorem cp32_9 : convPure Try.prog 32 9 = true := by kernel_rfl
theorem cp9_32 : convPure Try.prog 9 32 = false := by kernel_rfl
theorem sz33 : Try.prog.szo 33 = some 1 := by kernel_rfl
theorem sz34 : Try.prog.szo 34 = some 1 := by kernel_rfl
theorem ln34 (a : Option Addr) (n c : Nat) : vLen Try.prog 34 (.slice a n c) KV = KV (.int .i64 n) := ln_sl 34 3 a n c Try.underlying34
theorem snn34 (a : Option Addr) (n c : Nat) : vSlice Try.prog 34 (.slice a n c) none none KV = (n ≤ c ∧ KV (.slice a n c)) := sl_nn 34 3 a n c 1 Try.underlying34 (by kernel_rfl)
theorem sln34 (a : Option Addr) (n c : Nat) (k : IntKind) (l : Int) : vSlice Try.prog 34 (.slice a n c) (some (.int k l)) none KV = ((0 ≤ l ∧ l ≤ n ∧ n ≤ c) ∧ KV (.slice (if c = l.toNat then a else a.map (·.add (l.toNat * 1))) (n - l.toNat) (c - l.toNat))) := sl_ln 34 3 a n c 1 k l Try.underlying34 (by kernel_rfl)
theorem snh34 (a : Option Addr) (n c : Nat) (k : IntKind) (l : Int) : vSlice Try.prog 34 (.slice a n c) none (some (.int k l)) KV = ((0 ≤ l ∧ l ≤ c) ∧ KV (.slice a l.toNat c)) := sl_nh 34 3 a n c 1 k l Try.underlying34 (by kernel_rfl)
theorem slh34 (a : Option Addr) (n c : Nat) (k k' : IntKind) (l m : Int) : vSlice Try.prog 34 (.slice a n c) (some (.int k l)) (some (.int k' m)) KV = ((0 ≤ l ∧ l ≤ m ∧ m ≤ c) ∧ KV (.slice (if c = l.toNat then a else a.map (·.add (l.toNat * 1))) (m.toNat - l.toNat) (c - l.toNat))) := sl_lh 34 3 a n c 1 k k' l m Try.underlying34 (by kernel_rfl)
theorem ia34 (a : Addr) (n c : Nat) (k : IntKind) (i : Int) : vIndexAddr Try.prog 34 (.slice (some a) n c) (.int k i) KV = ((0 ≤ i ∧ i < n) ∧ KV (.pointer (some (a.add (i.toNat * 1))))) := ia_sl 34 3 a n c 1 k i Try.underlying34 (by kernel_rfl)
theorem ld34 (a : Addr) : vLoad Try.prog 34 (.pointer (some a)) w KV = ∃ v, w.cell? a = some v ∧ KV v := ld_sl 34 3 a Try.underlying34
theorem sz36 : Try.prog.szo 36 = some 1 := by kernel_rfl
theorem sz38 : Try.prog.szo 38 = some 1 := by kernel_rfl
theorem sz39 : Try.prog.szo 39 = some 1 := by kernel_rfl
theorem sz40 : Try.prog.szo 40 = some 1 := by kernel_rfl
theorem sz41 : Try.prog.szo 41 = some 1 := by kernel_rfl
theorem sz42 : Try.prog.szo 42 = some 1 := by kernel_rfl
theorem sz43 : Try.prog.szo 43 = some 1 := by kernel_rfl
theorem sz44 : Try.prog.szo 44 = some 1 := by kernel_rfl
theorem sz45 : Try.prog.szo 45 = some 1 := by kernel_rfl
theorem sz46 : Try.prog.szo 46 = some 1 := by kernel_rfl
theorem sz47 : Try.prog.szo 47 = some 1 := by kernel_rfl
theorem sz48 : Try.prog.szo 48 = some 1 := by kernel_rfl
theorem ld48 (a : Addr) : vLoad Try.prog 48 (.pointer (some a)) w KV = ∃ v, w.cell? a = some v ∧ KV v := ld_int 48 a .u64 Try.underlying48
theorem cv48_2 (k : IntKind) (n : Int) : vConv Try.prog 48 2 (.int k n) w KV = vWrap .i64 n KV := cv_int 48 2 _ .i64 k n Try.underlying48 Try.underlying2
theorem cp48_2 : convPure Try.prog 48 2 = true := by kernel_rfl
theorem cv48_3 (k : IntKind) (n : Int) : vConv Try.prog 48 3 (.int k n) w KV = vWrap .i64 n KV := cv_int 48 3 _ .i64 k n Try.underlying48 Try.underlying3
theorem cp48_3 : convPure Try.prog 48 3 = true := by kernel_rfl
theorem cv48_5 (k : IntKind) (n : Int) : vConv Try.prog 48 5 (.int k n) w KV = vWrap .u8 n KV := cv_int 48 5 _ .u8 k n Try.underlying48 Try.underlying5
theorem cp48_5 : convPure Try.prog 48 5 = true := by kernel_rfl
theorem cv48_12 (k : IntKind) (n : Int) : vConv Try.prog 48 12 (.int k n) w KV = vWrap .u64 n KV := cv_int 48 12 _ .u64 k n Try.underlying48 Try.underlying12
theorem cp48_12 : convPure Try.prog 48 12 = true := by kernel_rfl
theorem cv48_21 (k : IntKind) (n : Int) : vConv Try.prog 48 21 (.int k n) w KV = vWrap .i32 n KV := cv_int 48 21 _ .i32 k n Try.underlying48 Try.underlying21
theorem cp48_21 : convPure Try.prog 48 21 = true := by kernel_rfl
theorem cv48_25 (k : IntKind) (n : Int) : vConv Try.prog 48 25 (.int k n) w KV = vWrap .i64 n KV := cv_int 48 25 _ .i64 k n Try.underlying48 Try.underlying25
theorem cp48_25 : convPure Try.prog 48 25 = true := by kernel_rfl
theorem cv48_48 (k : IntKind) (n : Int) : vConv Try.prog 48 48 (.int k n) w KV = vWrap .u64 n KV := cv_int 48 48 _ .u64 k n Try.underlying48 Try.underlying48
theorem cp48_48 : convPure Try.prog 48 48 = true := by kernel_rfl
theorem cv48_61 (k : IntKind) (n : Int) : vConv Try.prog 48 61 (.int k n) w KV = vWrap .u32 n KV := cv_int 48 61 _ .u32 k n Try.underlying48 Try.underlying61
theorem cp48_61 : convPure Try.prog 48 61 = true := by kernel_rfl
theorem sz49 : Try.prog.szo 49 = some 1 := by kernel_rfl
theorem sz50 : Try.prog.szo 50 = some 1 := by kernel_rfl
theorem sz51 : Try.prog.szo 51 = some 1 := by kernel_rfl
theorem sz53 : Try.prog.szo 53 = some 1 := by kernel_rfl
theorem sz54 : Try.prog.szo 54 = some 1 := by kernel_rfl
theorem sz60 : Try.prog.szo 60 = some 1 := by kernel_rfl
theorem sz61 : Try.prog.szo 61 = some 1 := by kernel_rfl
theorem ld61 (a : Addr) : vLoad Try.prog 61 (.pointer (some a)) w KV = ∃ v, w.cell? a = some v ∧ KV v := ld_int 61 a .u32 Try.underlying61
theorem cv61_2 (k : IntKind) (n : Int) : vConv Try.prog 61 2 (.int k n) w KV = vWrap .i64 n KV := cv_int 61 2 _ .i64 k n Try.underlying61 Try.underlying2
theorem cp61_2 : convPure Try.prog 61 2 = true := by kernel_rfl
theorem cv61_3 (k : IntKind) (n : Int) : vConv Try.prog 61 3 (.int k n) w KV = vWrap .i64 n KV := cv_int 61 3 _ .i64 k n Try.underlying61 Try.underlying3
theorem cp61_3 : convPure Try.prog 61 3 = true := by kernel_rfl
theorem cv61_5 (k : IntKind) (n : Int) : vConv Try.prog 61 5 (.int k n) w KV = vWrap .u8 n KV := cv_int 61 5 _ .u8 k n Try.underlying61 Try.underlying5
theorem cp61_5 : convPure Try.prog 61 5 = true := by kernel_rfl
theorem cv61_12 (k : IntKind) (n : Int) : vConv Try.prog 61 12 (.int k n) w KV = vWrap .u64 n KV := cv_int 61 12 _ .u64 k n Try.underlying61 Try.underlying12
theorem cp61_12 : convPure Try.prog 61 12 = true := by kernel_rfl
theorem cv61_21 (k : IntKind) (n : Int) : vConv Try.prog 61 21 (.int k n) w KV = vWrap .i32 n KV := cv_int 61 21 _ .i32 k n Try.underlying61 Try.underlying21
theorem cp61_21 : convPure Try.prog 61 21 = true := by kernel_rfl
theorem cv61_25 (k : IntKind) (n : Int) : vConv Try.prog 61 25 (.int k n) w KV = vWrap .i64 n KV := cv_int 61 25 _ .i64 k n Try.underlying61 Try.underlying25
theorem cp61_25 : convPure Try.prog 61 25 = true := by kernel_rfl
theorem cv61_48 (k : IntKind) (n : Int) : vConv Try.prog 61 48 (.int k n) w KV = vWrap .u64 n KV := cv_int 61 48 _ .u64 k n Try.underlying61 Try.underlying48
theorem cp61_48 : convPure Try.prog 61 48 = true := by kernel_rfl
theorem cv61_61 (k : IntKind) (n : Int) : vConv Try.prog 61 61 (.int k n) w KV = vWrap .u32 n KV := cv_int 61 61 _ .u32 k n Try.underlying61 Try.underlying61
theorem cp61_61 : convPure Try.prog 61 61 = true := by kernel_rfl
theorem sz62 : Try.prog.szo 62 = some 1 := by kernel_rfl
theorem sz63 : Try.prog.szo 63 = some 1 := by kernel_rfl
theorem sz64 : Try.prog.szo 64 = some 1 := by kernel_rfl
theorem sz65 : Try.prog.szo 65 = some 1 := by kernel_rfl
theorem ld65 (a : Addr) : vLoad Try.prog 65 (.pointer (some a)) w KV = ∃ v, w.cell? a = some v ∧ KV v := ld_ptr 65 5 a Try.underlying65
theorem sz66 : Try.prog.szo 66 = some 1 := by kernel_rfl
theorem sz67 : Try.prog.szo 67 = some 1 := by kernel_rfl
theorem sz70 : Try.prog.szo 70 = some 1 := by kernel_rfl
end
attribute [go_sem ↓] ld2 cv2_2 cv2_3 cv2_5 cv2_12 cv2_21 cv2_25 cv2_48 cv2_61 ld3 cv3_2 cv3_3 cv3_5 cv3_12 cv3_21 cv3_25 cv3_48 cv3_61 ld4 beql4 bneq4 ld5 cv5_2 cv5_3 cv5_5 cv5_12 cv5_21 cv5_25 cv5_48 cv5_61 ln9 ix9 snn9 sln9 snh9 slh9 ld9 ld12 cv12_2 cv12_3 cv12_5 cv12_12 cv12_21 cv12_25 cv12_48 cv12_61 ld21 cv21_2 cv21_3 cv21_5 cv21_12 cv21_21 cv21_25 cv21_48 cv21_61 ld25 cv25_2 cv25_3 cv25_5 cv25_12 cv25_21 cv25_25 cv25_48 cv25_61 ln32 snn32 sln32 snh32 slh32 ia32 ld32 cv32_9 ln34 snn34 sln34 snh34 slh34 ia34 ld34 ld48 cv48_2 cv48_3 cv48_5 cv48_12 cv48_21 cv48_25 cv48_48 cv48_61 ld61 cv61_2 cv61_3 cv61_5 cv61_12 cv61_21 cv61_25 cv61_48 cv61_61 ld65
attribute [go_sem] sz1 sz2 cp2_2 cp2_3 cp2_5 cp2_12 cp2_21 cp2_25 cp2_48 cp2_61 sz3 cp3_2 cp3_3 cp3_5 cp3_12 cp3_21 cp3_25 cp3_48 cp3_61 sz4 sz5 cp5_2 cp5_3 cp5_5 cp5_12 cp5_21 cp5_25 cp5_48 cp5_61 sz6 sz9 sz12 cp12_2 cp12_3 cp12_5 cp12_12 cp12_21 cp12_25 cp12_48 cp12_61 sz20 sz21 cp21_2 cp21_3 cp21_5 cp21_12 cp21_21 cp21_25 cp21_48 cp21_61 sz22 sz23 sz24 sz25 cp25_2 cp25_3 cp25_5 cp25_12 cp25_21 cp25_25 cp25_48 cp25_61 sz27 sz29 sz30 sz31 sz32 cp32_9 cp9_32 sz33 sz34 sz36 sz38 sz39 sz40 sz41 sz42 sz43 sz44 sz45 sz46 sz47 sz48 cp48_2 cp48_3 cp48_5 cp48_12 cp48_21 cp48_25 cp48_48 cp48_61 sz49 sz50 sz51 sz53 sz54 sz60 sz61 cp61_2 cp61_3 cp61_5 cp61_12 cp61_21 cp61_25 cp61_48 cp61_61 sz62 sz63 sz64 sz65 sz66 sz67 sz70
theorem zi5 : (Try.prog.info? 5).map (fun i => (i.zero.map Value.cells, i.size, i.bytes)) = some (some #[.int .u8 0], 1, 1) := by kernel_rfl
theorem zi3 : (Try.prog.info? 3).map (fun i => (i.zero.map Value.cells, i.size, i.bytes)) = some (some #[.int .i64 0], 1, 8) := by kernel_rfl
end Go.Proofs.Ytgepfjlecmmokaa
