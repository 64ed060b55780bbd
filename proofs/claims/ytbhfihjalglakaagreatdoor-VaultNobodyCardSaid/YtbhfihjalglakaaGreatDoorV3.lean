/- What the proof leans on, part 3: no conditions. -/
import Derived.Test.YtbhfihjalglakaaGreatDoorV2
import Derived.Test.YtbhfihjalglakaaGreatDoorChecked
import Derived.Sort.Grow
namespace Go.Proofs.YtbhfihjalglakaaGreatDoor
open Go Go.Eng
section
variable {w : World} {KV : Value → Prop}
theorem sz1 : Tryz.prog.szo 1 = some 1 := by kernel_rfl
theorem ldf1 (a : Addr) : vLoad Tryz.prog 1 (.pointer (some a)) w KV = ∃ v, w.cell? a = some v ∧ KV v := ld_fn 1 _ _ _ a Tryz.underlying1
theorem fe1 (f : Fn) (x y : Array Value) (xo yo : Operand) : vBinO Tryz.prog .eql 1 xo yo (.func f x y) .nilFunc w KV = KV (.bool false) := be_fun Tryz.underlying1 f x y xo yo
theorem sz2 : Tryz.prog.szo 2 = some 1 := by kernel_rfl
theorem ld2 (a : Addr) : vLoad Tryz.prog 2 (.pointer (some a)) w KV = ∃ v, w.cell? a = some v ∧ KV v := ld_int 2 a .i64 Tryz.underlying2
theorem cv2_2 (k : IntKind) (n : Int) : vConv Tryz.prog 2 2 (.int k n) w KV = vWrap .i64 n KV := cv_int 2 2 _ .i64 k n Tryz.underlying2 Tryz.underlying2
theorem cp2_2 : convPure Tryz.prog 2 2 = true := by kernel_rfl
theorem cv2_3 (k : IntKind) (n : Int) : vConv Tryz.prog 2 3 (.int k n) w KV = vWrap .i64 n KV := cv_int 2 3 _ .i64 k n Tryz.underlying2 Tryz.underlying3
theorem cp2_3 : convPure Tryz.prog 2 3 = true := by kernel_rfl
theorem cv2_5 (k : IntKind) (n : Int) : vConv Tryz.prog 2 5 (.int k n) w KV = vWrap .u8 n KV := cv_int 2 5 _ .u8 k n Tryz.underlying2 Tryz.underlying5
theorem cp2_5 : convPure Tryz.prog 2 5 = true := by kernel_rfl
theorem cv2_12 (k : IntKind) (n : Int) : vConv Tryz.prog 2 12 (.int k n) w KV = vWrap .u64 n KV := cv_int 2 12 _ .u64 k n Tryz.underlying2 Tryz.underlying12
theorem cp2_12 : convPure Tryz.prog 2 12 = true := by kernel_rfl
theorem cv2_21 (k : IntKind) (n : Int) : vConv Tryz.prog 2 21 (.int k n) w KV = vWrap .i32 n KV := cv_int 2 21 _ .i32 k n Tryz.underlying2 Tryz.underlying21
theorem cp2_21 : convPure Tryz.prog 2 21 = true := by kernel_rfl
theorem cv2_30 (k : IntKind) (n : Int) : vConv Tryz.prog 2 30 (.int k n) w KV = vWrap .i64 n KV := cv_int 2 30 _ .i64 k n Tryz.underlying2 Tryz.underlying30
theorem cp2_30 : convPure Tryz.prog 2 30 = true := by kernel_rfl
theorem cv2_46 (k : IntKind) (n : Int) : vConv Tryz.prog 2 46 (.int k n) w KV = vWrap .u32 n KV := cv_int 2 46 _ .u32 k n Tryz.underlying2 Tryz.underlying46
theorem cp2_46 : convPure Tryz.prog 2 46 = true := by kernel_rfl
theorem cv2_121 (k : IntKind) (n : Int) : vConv Tryz.prog 2 121 (.int k n) w KV = vWrap .u64 n KV := cv_int 2 121 _ .u64 k n Tryz.underlying2 Tryz.underlying121
theorem cp2_121 : convPure Tryz.prog 2 121 = true := by kernel_rfl
theorem cv2_161 (k : IntKind) (n : Int) : vConv Tryz.prog 2 161 (.int k n) w KV = vWrap .u64 n KV := cv_int 2 161 _ .u64 k n Tryz.underlying2 Tryz.underlying161
theorem cp2_161 : convPure Tryz.prog 2 161 = true := by kernel_rfl
theorem cv2_224 (k : IntKind) (n : Int) : vConv Tryz.prog 2 224 (.int k n) w KV = vWrap .i64 n KV := cv_int 2 224 _ .i64 k n Tryz.underlying2 Tryz.underlying224
theorem cp2_224 : convPure Tryz.prog 2 224 = true := by kernel_rfl
theorem cv2_271 (k : IntKind) (n : Int) : vConv Tryz.prog 2 271 (.int k n) w KV = vWrap .u64 n KV := cv_int 2 271 _ .u64 k n Tryz.underlying2 Tryz.underlying271
theorem cp2_271 : convPure Tryz.prog 2 271 = true := by kernel_rfl
theorem sz3 : Tryz.prog.szo 3 = some 1 := by kernel_rfl
theorem ld3 (a : Addr) : vLoad Tryz.prog 3 (.pointer (some a)) w KV = ∃ v, w.cell? a = some v ∧ KV v := ld_int 3 a .i64 Tryz.underlying3
theorem cv3_2 (k : IntKind) (n : Int) : vConv Tryz.prog 3 2 (.int k n) w KV = vWrap .i64 n KV := cv_int 3 2 _ .i64 k n Tryz.underlying3 Tryz.underlying2
theorem cp3_2 : convPure Tryz.prog 3 2 = true := by kernel_rfl
theorem cv3_3 (k : IntKind) (n : Int) : vConv Tryz.prog 3 3 (.int k n) w KV = vWrap .i64 n KV := cv_int 3 3 _ .i64 k n Tryz.underlying3 Tryz.underlying3
theorem cp3_3 : convPure Tryz.prog 3 3 = true := by kernel_rfl
theorem cv3_5 (k : IntKind) (n : Int) : vConv Tryz.prog 3 5 (.int k n) w KV = vWrap .u8 n KV := cv_int 3 5 _ .u8 k n Tryz.underlying3 Tryz.underlying5
theorem cp3_5 : convPure Tryz.prog 3 5 = true := by kernel_rfl
theorem cv3_12 (k : IntKind) (n : Int) : vConv Tryz.prog 3 12 (.int k n) w KV = vWrap .u64 n KV := cv_int 3 12 _ .u64 k n Tryz.underlying3 Tryz.underlying12
theorem cp3_12 : convPure Tryz.prog 3 12 = true := by kernel_rfl
theorem cv3_21 (k : IntKind) (n : Int) : vConv Tryz.prog 3 21 (.int k n) w KV = vWrap .i32 n KV := cv_int 3 21 _ .i32 k n Tryz.underlying3 Tryz.underlying21
theorem cp3_21 : convPure Tryz.prog 3 21 = true := by kernel_rfl
theorem cv3_30 (k : IntKind) (n : Int) : vConv Tryz.prog 3 30 (.int k n) w KV = vWrap .i64 n KV := cv_int 3 30 _ .i64 k n Tryz.underlying3 Tryz.underlying30
theorem cp3_30 : convPure Tryz.prog 3 30 = true := by kernel_rfl
theorem cv3_46 (k : IntKind) (n : Int) : vConv Tryz.prog 3 46 (.int k n) w KV = vWrap .u32 n KV := cv_int 3 46 _ .u32 k n Tryz.underlying3 Tryz.underlying46
theorem cp3_46 : convPure Tryz.prog 3 46 = true := by kernel_rfl
theorem cv3_121 (k : IntKind) (n : Int) : vConv Tryz.prog 3 121 (.int k n) w KV = vWrap .u64 n KV := cv_int 3 121 _ .u64 k n Tryz.underlying3 Tryz.underlying121
theorem cp3_121 : convPure Tryz.prog 3 121 = true := by kernel_rfl
theorem cv3_161 (k : IntKind) (n : Int) : vConv Tryz.prog 3 161 (.int k n) w KV = vWrap .u64 n KV := cv_int 3 161 _ .u64 k n Tryz.underlying3 Tryz.underlying161
theorem cp3_161 : convPure Tryz.prog 3 161 = true := by kernel_rfl
theorem cv3_224 (k : IntKind) (n : Int) : vConv Tryz.prog 3 224 (.int k n) w KV = vWrap .i64 n KV := cv_int 3 224 _ .i64 k n Tryz.underlying3 Tryz.underlying224
theorem cp3_224 : convPure Tryz.prog 3 224 = true := by kernel_rfl
theorem cv3_271 (k : IntKind) (n : Int) : vConv Tryz.prog 3 271 (.int k n) w KV = vWrap .u64 n KV := cv_int 3 271 _ .u64 k n Tryz.underlying3 Tryz.underlying271
theorem cp3_271 : convPure Tryz.prog 3 271 = true := by kernel_rfl
theorem sz4 : Tryz.prog.szo 4 = some 1 := by kernel_rfl
theorem ld4 (a : Addr) : vLoad Tryz.prog 4 (.pointer (some a)) w KV = ∃ v, w.cell? a = some v ∧ KV v := ld_bool 4 a Tryz.underlying4
theorem beql4 (x y : Operand) (a b : Bool) : vBinO Tryz.prog .eql 4 x y (.bool a) (.bool b) w KV = KV (.bool (decide (a = b))) := bb_eql 4 x y a b Tryz.underlying4
theorem bneq4 (x y : Operand) (a b : Bool) : vBinO Tryz.prog .neq 4 x y (.bool a) (.bool b) w KV = KV (.bool (decide (¬ a = b))) := bb_neq 4 x y a b Tryz.underlying4
theorem sz5 : Tryz.prog.szo 5 = some 1 := by kernel_rfl
theorem ld5 (a : Addr) : vLoad Tryz.prog 5 (.pointer (some a)) w KV = ∃ v, w.cell? a = some v ∧ KV v := ld_int 5 a .u8 Tryz.underlying5
theorem cv5_2 (k : IntKind) (n : Int) : vConv Tryz.prog 5 2 (.int k n) w KV = vWrap .i64 n KV := cv_int 5 2 _ .i64 k n Tryz.underlying5 Tryz.underlying2
theorem cp5_2 : convPure Tryz.prog 5 2 = true := by kernel_rfl
theorem cv5_3 (k : IntKind) (n : Int) : vConv Tryz.prog 5 3 (.int k n) w KV = vWrap .i64 n KV := cv_int 5 3 _ .i64 k n Tryz.underlying5 Tryz.underlying3
theorem cp5_3 : convPure Tryz.prog 5 3 = true := by kernel_rfl
theorem cv5_5 (k : IntKind) (n : Int) : vConv Tryz.prog 5 5 (.int k n) w KV = vWrap .u8 n KV := cv_int 5 5 _ .u8 k n Tryz.underlying5 Tryz.underlying5
theorem cp5_5 : convPure Tryz.prog 5 5 = true := by kernel_rfl
theorem cv5_12 (k : IntKind) (n : Int) : vConv Tryz.prog 5 12 (.int k n) w KV = vWrap .u64 n KV := cv_int 5 12 _ .u64 k n Tryz.underlying5 Tryz.underlying12
theorem cp5_12 : convPure Tryz.prog 5 12 = true := by kernel_rfl
theorem cv5_21 (k : IntKind) (n : Int) : vConv Tryz.prog 5 21 (.int k n) w KV = vWrap .i32 n KV := cv_int 5 21 _ .i32 k n Tryz.underlying5 Tryz.underlying21
theorem cp5_21 : convPure Tryz.prog 5 21 = true := by kernel_rfl
theorem cv5_30 (k : IntKind) (n : Int) : vConv Tryz.prog 5 30 (.int k n) w KV = vWrap .i64 n KV := cv_int 5 30 _ .i64 k n Tryz.underlying5 Tryz.underlying30
theorem cp5_30 : convPure Tryz.prog 5 30 = true := by kernel_rfl
theorem cv5_46 (k : IntKind) (n : Int) : vConv Tryz.prog 5 46 (.int k n) w KV = vWrap .u32 n KV := cv_int 5 46 _ .u32 k n Tryz.underlying5 Tryz.underlying46
theorem cp5_46 : convPure Tryz.prog 5 46 = true := by kernel_rfl
theorem cv5_121 (k : IntKind) (n : Int) : vConv Tryz.prog 5 121 (.int k n) w KV = vWrap .u64 n KV := cv_int 5 121 _ .u64 k n Tryz.underlying5 Tryz.underlying121
theorem cp5_121 : convPure Tryz.prog 5 121 = true := by kernel_rfl
theorem cv5_161 (k : IntKind) (n : Int) : vConv Tryz.prog 5 161 (.int k n) w KV = vWrap .u64 n KV := cv_int 5 161 _ .u64 k n Tryz.underlying5 Tryz.underlying161
theorem cp5_161 : convPure Tryz.prog 5 161 = true := by kernel_rfl
theorem cv5_224 (k : IntKind) (n : Int) : vConv Tryz.prog 5 224 (.int k n) w KV = vWrap .i64 n KV := cv_int 5 224 _ .i64 k n Tryz.underlying5 Tryz.underlying224
theorem cp5_224 : convPure Tryz.prog 5 224 = true := by kernel_rfl
theorem cv5_271 (k : IntKind) (n : Int) : vConv Tryz.prog 5 271 (.int k n) w KV = vWrap .u64 n KV := cv_int 5 271 _ .u64 k n Tryz.underlying5 Tryz.underlying271
theorem cp5_271 : convPure Tryz.prog 5 271 = true := by kernel_rfl
theorem sz6 : Tryz.prog.szo 6 = some 1 := by kernel_rfl
theorem sz9 : Tryz.prog.szo 9 = some 1 := by kernel_rfl
theorem ln9 (s : ByteArray) : vLen Tryz.prog 9 (.string s) KV = KV (.int .i64 (toL s).length) := ln_str 9 s Tryz.underlying9
theorem ix9 (s : ByteArray) (k : IntKind) (n : Int) : vIndex Tryz.prog 9 (.string s) (.int k n) KV = ((0 ≤ n ∧ n < (toL s).length) ∧ KV (.int .u8 ((toL s).getD n.toNat 0).toNat)) := ix_str 9 s k n Tryz.underlying9
theorem snn9 (s : ByteArray) : vSlice Tryz.prog 9 (.string s) none none KV = KV (.string s) := ss_nn 9 s Tryz.underlying9
theorem sln9 (s : ByteArray) (k : IntKind) (l : Int) : vSlice Tryz.prog 9 (.string s) (some (.int k l)) none KV = ((0 ≤ l ∧ l ≤ (toL s).length) ∧ KV (Str ((toL s).drop l.toNat))) := ss_ln 9 s k l Tryz.underlying9
theorem snh9 (s : ByteArray) (k : IntKind) (l : Int) : vSlice Tryz.prog 9 (.string s) none (some (.int k l)) KV = ((0 ≤ l ∧ l ≤ (toL s).length) ∧ KV (Str ((toL s).take l.toNat))) := ss_nh 9 s k l Tryz.underlying9
theorem slh9 (s : ByteArray) (k k' : IntKind) (l m : Int) : vSlice Tryz.prog 9 (.string s) (some (.int k l)) (some (.int k' m)) KV = ((0 ≤ l ∧ l ≤ m ∧ m ≤ (toL s).length) ∧ KV (Str (((toL s).drop l.toNat).take (m.toNat - l.toNat)))) := ss_lh 9 s k k' l m Tryz.underlying9
theorem ld9 (a : Addr) : vLoad Tryz.prog 9 (.pointer (some a)) w KV = ∃ v, w.cell? a = some v ∧ KV v := ld_str 9 a Tryz.underlying9
theorem sz12 : Tryz.prog.szo 12 = some 1 := by kernel_rfl
theorem ld12 (a : Addr) : vLoad Tryz.prog 12 (.pointer (some a)) w KV = ∃ v, w.cell? a = some v ∧ KV v := ld_int 12 a .u64 Tryz.underlying12
theorem cv12_2 (k : IntKind) (n : Int) : vConv Tryz.prog 12 2 (.int k n) w KV = vWrap .i64 n KV := cv_int 12 2 _ .i64 k n Tryz.underlying12 Tryz.underlying2
theorem cp12_2 : convPure Tryz.prog 12 2 = true := by kernel_rfl
theorem cv12_3 (k : IntKind) (n : Int) : vConv Tryz.prog 12 3 (.int k n) w KV = vWrap .i64 n KV := cv_int 12 3 _ .i64 k n Tryz.underlying12 Tryz.underlying3
theorem cp12_3 : convPure Tryz.prog 12 3 = true := by kernel_rfl
theorem cv12_5 (k : IntKind) (n : Int) : vConv Tryz.prog 12 5 (.int k n) w KV = vWrap .u8 n KV := cv_int 12 5 _ .u8 k n Tryz.underlying12 Tryz.underlying5
theorem cp12_5 : convPure Tryz.prog 12 5 = true := by kernel_rfl
theorem cv12_12 (k : IntKind) (n : Int) : vConv Tryz.prog 12 12 (.int k n) w KV = vWrap .u64 n KV := cv_int 12 12 _ .u64 k n Tryz.underlying12 Tryz.underlying12
theorem cp12_12 : convPure Tryz.prog 12 12 = true := by kernel_rfl
theorem cv12_21 (k : IntKind) (n : Int) : vConv Tryz.prog 12 21 (.int k n) w KV = vWrap .i32 n KV := cv_int 12 21 _ .i32 k n Tryz.underlying12 Tryz.underlying21
theorem cp12_21 : convPure Tryz.prog 12 21 = true := by kernel_rfl
theorem cv12_30 (k : IntKind) (n : Int) : vConv Tryz.prog 12 30 (.int k n) w KV = vWrap .i64 n KV := cv_int 12 30 _ .i64 k n Tryz.underlying12 Tryz.underlying30
theorem cp12_30 : convPure Tryz.prog 12 30 = true := by kernel_rfl
theorem cv12_46 (k : IntKind) (n : Int) : vConv Tryz.prog 12 46 (.int k n) w KV = vWrap .u32 n KV := cv_int 12 46 _ .u32 k n Tryz.underlying12 Tryz.underlying46
theorem cp12_46 : convPure Tryz.prog 12 46 = true := by kernel_rfl
theorem cv12_121 (k : IntKind) (n : Int) : vConv Tryz.prog 12 121 (.int k n) w KV = vWrap .u64 n KV := cv_int 12 121 _ .u64 k n Tryz.underlying12 Tryz.underlying121
theorem cp12_121 : convPure Tryz.prog 12 121 = true := by kernel_rfl
theorem cv12_161 (k : IntKind) (n : Int) : vConv Tryz.prog 12 161 (.int k n) w KV = vWrap .u64 n KV := cv_int 12 161 _ .u64 k n Tryz.underlying12 Tryz.underlying161
theorem cp12_161 : convPure Tryz.prog 12 161 = true := by kernel_rfl
theorem cv12_224 (k : IntKind) (n : Int) : vConv Tryz.prog 12 224 (.int k n) w KV = vWrap .i64 n KV := cv_int 12 224 _ .i64 k n Tryz.underlying12 Tryz.underlying224
theorem cp12_224 : convPure Tryz.prog 12 224 = true := by kernel_rfl
theorem cv12_271 (k : IntKind) (n : Int) : vConv Tryz.prog 12 271 (.int k n) w KV = vWrap .u64 n KV := cv_int 12 271 _ .u64 k n Tryz.underlying12 Tryz.underlying271
theorem cp12_271 : convPure Tryz.prog 12 271 = true := by kernel_rfl
theorem sz20 : Tryz.prog.szo 20 = some 1 := by kernel_rfl
theorem sz21 : Tryz.prog.szo 21 = some 1 := by kernel_rfl
theorem ld21 (a : Addr) : vLoad Tryz.prog 21 (.pointer (some a)) w KV = ∃ v, w.cell? a = some v ∧ KV v := ld_int 21 a .i32 Tryz.underlying21
theorem cv21_2 (k : IntKind) (n : Int) : vConv Tryz.prog 21 2 (.int k n) w KV = vWrap .i64 n KV := cv_int 21 2 _ .i64 k n Tryz.underlying21 Tryz.underlying2
theorem cp21_2 : convPure Tryz.prog 21 2 = true := by kernel_rfl
theorem cv21_3 (k : IntKind) (n : Int) : vConv Tryz.prog 21 3 (.int k n) w KV = vWrap .i64 n KV := cv_int 21 3 _ .i64 k n Tryz.underlying21 Tryz.underlying3
theorem cp21_3 : convPure Tryz.prog 21 3 = true := by kernel_rfl
theorem cv21_5 (k : IntKind) (n : Int) : vConv Tryz.prog 21 5 (.int k n) w KV = vWrap .u8 n KV := cv_int 21 5 _ .u8 k n Tryz.underlying21 Tryz.underlying5
theorem cp21_5 : convPure Tryz.prog 21 5 = true := by kernel_rfl
theorem cv21_12 (k : IntKind) (n : Int) : vConv Tryz.prog 21 12 (.int k n) w KV = vWrap .u64 n KV := cv_int 21 12 _ .u64 k n Tryz.underlying21 Tryz.underlying12
theorem cp21_12 : convPure Tryz.prog 21 12 = true := by kernel_rfl
theorem cv21_21 (k : IntKind) (n : Int) : vConv Tryz.prog 21 21 (.int k n) w KV = vWrap .i32 n KV := cv_int 21 21 _ .i32 k n Tryz.underlying21 Tryz.underlying21
theorem cp21_21 : convPure Tryz.prog 21 21 = true := by kernel_rfl
theorem cv21_30 (k : IntKind) (n : Int) : vConv Tryz.prog 21 30 (.int k n) w KV = vWrap .i64 n KV := cv_int 21 30 _ .i64 k n Tryz.underlying21 Tryz.underlying30
theorem cp21_30 : convPure Tryz.prog 21 30 = true := by kernel_rfl
theorem cv21_46 (k : IntKind) (n : Int) : vConv Tryz.prog 21 46 (.int k n) w KV = vWrap .u32 n KV := cv_int 21 46 _ .u32 k n Tryz.underlying21 Tryz.underlying46
theorem cp21_46 : convPure Tryz.prog 21 46 = true := by kernel_rfl
theorem cv21_121 (k : IntKind) (n : Int) : vConv Tryz.prog 21 121 (.int k n) w KV = vWrap .u64 n KV := cv_int 21 121 _ .u64 k n Tryz.underlying21 Tryz.underlying121
theorem cp21_121 : convPure Tryz.prog 21 121 = true := by kernel_rfl
theorem cv21_161 (k : IntKind) (n : Int) : vConv Tryz.prog 21 161 (.int k n) w KV = vWrap .u64 n KV := cv_int 21 161 _ .u64 k n Tryz.underlying21 Tryz.underlying161
theorem cp21_161 : convPure Tryz.prog 21 161 = true := by kernel_rfl
theorem cv21_224 (k : IntKind) (n : Int) : vConv Tryz.prog 21 224 (.int k n) w KV = vWrap .i64 n KV := cv_int 21 224 _ .i64 k n Tryz.underlying21 Tryz.underlying224
theorem cp21_224 : convPure Tryz.prog 21 224 = true := by kernel_rfl
theorem cv21_271 (k : IntKind) (n : Int) : vConv Tryz.prog 21 271 (.int k n) w KV = vWrap .u64 n KV := cv_int 21 271 _ .u64 k n Tryz.underlying21 Tryz.underlying271
theorem cp21_271 : convPure Tryz.prog 21 271 = true := by kernel_rfl
theorem sz22 : Tryz.prog.szo 22 = some 1 := by kernel_rfl
theorem pe22 (a : Option Addr) (xo yo : Operand) : vBinO Tryz.prog .eql 22 xo yo (.pointer a) (.pointer none) w KV = KV (.bool a.isNone) := be_ptr Tryz.underlying22 a xo yo
theorem pn22 (a : Option Addr) (xo yo : Operand) : vBinO Tryz.prog .neq 22 xo yo (.pointer a) (.pointer none) w KV = KV (.bool !a.isNone) := bn_ptr Tryz.underlying22 a xo yo
theorem ld22 (a : Addr) : vLoad Tryz.prog 22 (.pointer (some a)) w KV = ∃ v, w.cell? a = some v ∧ KV v := ld_ptr 22 28 a Tryz.underlying22
theorem sz23 : Tryz.prog.szo 23 = some 1 := by kernel_rfl
theorem pe23 (a : Option Addr) (xo yo : Operand) : vBinO Tryz.prog .eql 23 xo yo (.pointer a) (.pointer none) w KV = KV (.bool a.isNone) := be_ptr Tryz.underlying23 a xo yo
theorem pn23 (a : Option Addr) (xo yo : Operand) : vBinO Tryz.prog .neq 23 xo yo (.pointer a) (.pointer none) w KV = KV (.bool !a.isNone) := bn_ptr Tryz.underlying23 a xo yo
theorem ld23 (a : Addr) : vLoad Tryz.prog 23 (.pointer (some a)) w KV = ∃ v, w.cell? a = some v ∧ KV v := ld_ptr 23 103 a Tryz.underlying23
theorem sz24 : Tryz.prog.szo 24 = some 1 := by kernel_rfl
theorem ln24 (a : Option Addr) (n c : Nat) : vLen Tryz.prog 24 (.slice a n c) KV = KV (.int .i64 n) := ln_sl 24 48 a n c Tryz.underlying24
theorem snn24 (a : Option Addr) (n c : Nat) : vSlice Tryz.prog 24 (.slice a n c) none none KV = (n ≤ c ∧ KV (.slice a n c)) := sl_nn 24 48 a n c 5 Tryz.underlying24 (by kernel_rfl)
theorem sln24 (a : Option Addr) (n c : Nat) (k : IntKind) (l : Int) : vSlice Tryz.prog 24 (.slice a n c) (some (.int k l)) none KV = ((0 ≤ l ∧ l ≤ n ∧ n ≤ c) ∧ KV (.slice (if c = l.toNat then a else a.map (·.add (l.toNat * 5))) (n - l.toNat) (c - l.toNat))) := sl_ln 24 48 a n c 5 k l Tryz.underlying24 (by kernel_rfl)
theorem snh24 (a : Option Addr) (n c : Nat) (k : IntKind) (l : Int) : vSlice Tryz.prog 24 (.slice a n c) none (some (.int k l)) KV = ((0 ≤ l ∧ l ≤ c) ∧ KV (.slice a l.toNat c)) := sl_nh 24 48 a n c 5 k l Tryz.underlying24 (by kernel_rfl)
theorem slh24 (a : Option Addr) (n c : Nat) (k k' : IntKind) (l m : Int) : vSlice Tryz.prog 24 (.slice a n c) (some (.int k l)) (some (.int k' m)) KV = ((0 ≤ l ∧ l ≤ m ∧ m ≤ c) ∧ KV (.slice (if c = l.toNat then a else a.map (·.add (l.toNat * 5))) (m.toNat - l.toNat) (c - l.toNat))) := sl_lh 24 48 a n c 5 k k' l m Tryz.underlying24 (by kernel_rfl)
theorem ia24 (a : Addr) (n c : Nat) (k : IntKind) (i : Int) : vIndexAddr Tryz.prog 24 (.slice (some a) n c) (.int k i) KV = ((0 ≤ i ∧ i < n) ∧ KV (.pointer (some (a.add (i.toNat * 5))))) := ia_sl 24 48 a n c 5 k i Tryz.underlying24 (by kernel_rfl)
theorem ld24 (a : Addr) : vLoad Tryz.prog 24 (.pointer (some a)) w KV = ∃ v, w.cell? a = some v ∧ KV v := ld_sl 24 48 a Tryz.underlying24
theorem sz25 : Tryz.prog.szo 25 = some 5 := by kernel_rfl
theorem ld25 (a : Addr) : vLoad Tryz.prog 25 (.pointer (some a)) w KV = ∃ cs : List Value, (cs.length = 5 ∧ Reads w a cs) ∧ KV (.agg cs.toArray) := ld_st 25 5 a _ Tryz.underlying25 (by kernel_rfl)
theorem bd25 (p0 : Option Addr) (n1 : Int) (n2 : Int) (a3 : Option Addr) (n3 c3 : Nat) (b4 : Bool) : vBuild Tryz.prog 25 [(0, .pointer p0), (1, .int .i64 n1), (2, .int .i64 n2), (3, .slice a3 n3 c3), (4, .bool b4)] KV = KV (.agg #[.pointer p0, .int .i64 n1, .int .i64 n2, .slice a3 n3 c3, .bool b4]) := bd_of (by kernel_rfl)
theorem bz25 : vBuild Tryz.prog 25 [] KV = KV (.agg #[.pointer none, .int .i64 0, .int .i64 0, .slice none 0 0, .bool false]) := bd_of (by kernel_rfl)
theorem fd25_0 (l : List Value) : vField Tryz.prog 25 (.agg l.toArray) 0 KV = vNth l 0 KV := fd_cell 25 0 l Tryz.underlying25 rfl (by kernel_rfl) (by kernel_rfl) (by kernel_rfl)
theorem fa25_0 (a : Addr) : vFieldAddr Tryz.prog 25 (.pointer (some a)) 0 KV = KV (.pointer (some (a.add 0))) := fa_st 25 0 a (m := 0) Tryz.underlying25 rfl (by kernel_rfl)
theorem fd25_1 (l : List Value) : vField Tryz.prog 25 (.agg l.toArray) 1 KV = vNth l 1 KV := fd_cell 25 1 l Tryz.underlying25 rfl (by kernel_rfl) (by kernel_rfl) (by kernel_rfl)
theorem fa25_1 (a : Addr) : vFieldAddr Tryz.prog 25 (.pointer (some a)) 1 KV = KV (.pointer (some (a.add 1))) := fa_st 25 1 a (m := 0) Tryz.underlying25 rfl (by kernel_rfl)
theorem fd25_2 (l : List Value) : vField Tryz.prog 25 (.agg l.toArray) 2 KV = vNth l 2 KV := fd_cell 25 2 l Tryz.underlying25 rfl (by kernel_rfl) (by kernel_rfl) (by kernel_rfl)
theorem fa25_2 (a : Addr) : vFieldAddr Tryz.prog 25 (.pointer (some a)) 2 KV = KV (.pointer (some (a.add 2))) := fa_st 25 2 a (m := 0) Tryz.underlying25 rfl (by kernel_rfl)
theorem fd25_3 (l : List Value) : vField Tryz.prog 25 (.agg l.toArray) 3 KV = vNth l 3 KV := fd_cell 25 3 l Tryz.underlying25 rfl (by kernel_rfl) (by kernel_rfl) (by kernel_rfl)
theorem fa25_3 (a : Addr) : vFieldAddr Tryz.prog 25 (.pointer (some a)) 3 KV = KV (.pointer (some (a.add 3))) := fa_st 25 3 a (m := 0) Tryz.underlying25 rfl (by kernel_rfl)
theorem fd25_4 (l : List Value) : vField Tryz.prog 25 (.agg l.toArray) 4 KV = vNth l 4 KV := fd_cell 25 4 l Tryz.underlying25 rfl (by kernel_rfl) (by kernel_rfl) (by kernel_rfl)
theorem fa25_4 (a : Addr) : vFieldAddr Tryz.prog 25 (.pointer (some a)) 4 KV = KV (.pointer (some (a.add 4))) := fa_st 25 4 a (m := 0) Tryz.underlying25 rfl (by kernel_rfl)
theorem sz26 : Tryz.prog.szo 26 = some 5 := by kernel_rfl
theorem ld26 (a : Addr) : vLoad Tryz.prog 26 (.pointer (some a)) w KV = ∃ cs : List Value, (cs.length = 5 ∧ Reads w a cs) ∧ KV (.agg cs.toArray) := ld_st 26 5 a _ Tryz.underlying26 (by kernel_rfl)
theorem bd26 (p0 : Option Addr) (n1 : Int) (n2 : Int) (a3 : Option Addr) (n3 c3 : Nat) (b4 : Bool) : vBuild Tryz.prog 26 [(0, .pointer p0), (1, .int .i64 n1), (2, .int .i64 n2), (3, .slice a3 n3 c3), (4, .bool b4)] KV = KV (.agg #[.pointer p0, .int .i64 n1, .int .i64 n2, .slice a3 n3 c3, .bool b4]) := bd_of (by kernel_rfl)
theorem bz26 : vBuild Tryz.prog 26 [] KV = KV (.agg #[.pointer none, .int .i64 0, .int .i64 0, .slice none 0 0, .bool false]) := bd_of (by kernel_rfl)
theorem fd26_0 (l : List Value) : vField Tryz.prog 26 (.agg l.toArray) 0 KV = vNth l 0 KV := fd_cell 26 0 l Tryz.underlying26 rfl (by kernel_rfl) (by kernel_rfl) (by kernel_rfl)
theorem fa26_0 (a : Addr) : vFieldAddr Tryz.prog 26 (.pointer (some a)) 0 KV = KV (.pointer (some (a.add 0))) := fa_st 26 0 a (m := 0) Tryz.underlying26 rfl (by kernel_rfl)
theorem fd26_1 (l : List Value) : vField Tryz.prog 26 (.agg l.toArray) 1 KV = vNth l 1 KV := fd_cell 26 1 l Tryz.underlying26 rfl (by kernel_rfl) (by kernel_rfl) (by kernel_rfl)
theorem fa26_1 (a : Addr) : vFieldAddr Tryz.prog 26 (.pointer (some a)) 1 KV = KV (.pointer (some (a.add 1))) := fa_st 26 1 a (m := 0) Tryz.underlying26 rfl (by kernel_rfl)
theorem fd26_2 (l : List Value) : vField Tryz.prog 26 (.agg l.toArray) 2 KV = vNth l 2 KV := fd_cell 26 2 l Tryz.underlying26 rfl (by kernel_rfl) (by kernel_rfl) (by kernel_rfl)
theorem fa26_2 (a : Addr) : vFieldAddr Tryz.prog 26 (.pointer (some a)) 2 KV = KV (.pointer (some (a.add 2))) := fa_st 26 2 a (m := 0) Tryz.underlying26 rfl (by kernel_rfl)
theorem fd26_3 (l : List Value) : vField Tryz.prog 26 (.agg l.toArray) 3 KV = vNth l 3 KV := fd_cell 26 3 l Tryz.underlying26 rfl (by kernel_rfl) (by kernel_rfl) (by kernel_rfl)
theorem fa26_3 (a : Addr) : vFieldAddr Tryz.prog 26 (.pointer (some a)) 3 KV = KV (.pointer (some (a.add 3))) := fa_st 26 3 a (m := 0) Tryz.underlying26 rfl (by kernel_rfl)
theorem fd26_4 (l : List Value) : vField Tryz.prog 26 (.agg l.toArray) 4 KV = vNth l 4 KV := fd_cell 26 4 l Tryz.underlying26 rfl (by kernel_rfl) (by kernel_rfl) (by kernel_rfl)
theorem fa26_4 (a : Addr) : vFieldAddr Tryz.prog 26 (.pointer (some a)) 4 KV = KV (.pointer (some (a.add 4))) := fa_st 26 4 a (m := 0) Tryz.underlying26 rfl (by kernel_rfl)
theorem sz27 : Tryz.prog.szo 27 = some 5 := by kernel_rfl
theorem ld27 (a : Addr) : vLoad Tryz.prog 27 (.pointer (some a)) w KV = ∃ cs : List Value, (cs.length = 5 ∧ Reads w a cs) ∧ KV (.agg cs.toArray) := ld_st 27 5 a _ Tryz.underlying27 (by kernel_rfl)
theorem fd27_0 (l : List Value) : vField Tryz.prog 27 (.agg l.toArray) 0 KV = KV (.agg ((l.take 5).drop 0).toArray) := fd_agg 27 0 l 5 Tryz.underlying27 rfl (by kernel_rfl) (by kernel_rfl) (by kernel_rfl)
theorem fa27_0 (a : Addr) : vFieldAddr Tryz.prog 27 (.pointer (some a)) 0 KV = KV (.pointer (some (a.add 0))) := fa_st 27 0 a (m := 4) Tryz.underlying27 rfl (by kernel_rfl)
theorem sz28 : Tryz.prog.szo 28 = some 5 := by kernel_rfl
theorem ld28 (a : Addr) : vLoad Tryz.prog 28 (.pointer (some a)) w KV = ∃ cs : List Value, (cs.length = 5 ∧ Reads w a cs) ∧ KV (.agg cs.toArray) := ld_st 28 5 a _ Tryz.underlying28 (by kernel_rfl)
theorem fd28_0 (l : List Value) : vField Tryz.prog 28 (.agg l.toArray) 0 KV = KV (.agg ((l.take 5).drop 0).toArray) := fd_agg 28 0 l 5 Tryz.underlying28 rfl (by kernel_rfl) (by kernel_rfl) (by kernel_rfl)
theorem fa28_0 (a : Addr) : vFieldAddr Tryz.prog 28 (.pointer (some a)) 0 KV = KV (.pointer (some (a.add 0))) := fa_st 28 0 a (m := 4) Tryz.underlying28 rfl (by kernel_rfl)
theorem sz29 : Tryz.prog.szo 29 = some 1 := by kernel_rfl
theorem ln29 (a : Option Addr) (n c : Nat) : vLen Tryz.prog 29 (.slice a n c) KV = KV (.int .i64 n) := ln_sl 29 22 a n c Tryz.underlying29
theorem snn29 (a : Option Addr) (n c : Nat) : vSlice Tryz.prog 29 (.slice a n c) none none KV = (n ≤ c ∧ KV (.slice a n c)) := sl_nn 29 22 a n c 1 Tryz.underlying29 (by kernel_rfl)
theorem sln29 (a : Option Addr) (n c : Nat) (k : IntKind) (l : Int) : vSlice Tryz.prog 29 (.slice a n c) (some (.int k l)) none KV = ((0 ≤ l ∧ l ≤ n ∧ n ≤ c) ∧ KV (.slice (if c = l.toNat then a else a.map (·.add (l.toNat * 1))) (n - l.toNat) (c - l.toNat))) := sl_ln 29 22 a n c 1 k l Tryz.underlying29 (by kernel_rfl)
theorem snh29 (a : Option Addr) (n c : Nat) (k : IntKind) (l : Int) : vSlice Tryz.prog 29 (.slice a n c) none (some (.int k l)) KV = ((0 ≤ l ∧ l ≤ c) ∧ KV (.slice a l.toNat c)) := sl_nh 29 22 a n c 1 k l Tryz.underlying29 (by kernel_rfl)
theorem slh29 (a : Option Addr) (n c : Nat) (k k' : IntKind) (l m : Int) : vSlice Tryz.prog 29 (.slice a n c) (some (.int k l)) (some (.int k' m)) KV = ((0 ≤ l ∧ l ≤ m ∧ m ≤ c) ∧ KV (.slice (if c = l.toNat then a else a.map (·.add (l.toNat * 1))) (m.toNat - l.toNat) (c - l.toNat))) := sl_lh 29 22 a n c 1 k k' l m Tryz.underlying29 (by kernel_rfl)
theorem ia29 (a : Addr) (n c : Nat) (k : IntKind) (i : Int) : vIndexAddr Tryz.prog 29 (.slice (some a) n c) (.int k i) KV = ((0 ≤ i ∧ i < n) ∧ KV (.pointer (some (a.add (i.toNat * 1))))) := ia_sl 29 22 a n c 1 k i Tryz.underlying29 (by kernel_rfl)
theorem ld29 (a : Addr) : vLoad Tryz.prog 29 (.pointer (some a)) w KV = ∃ v, w.cell? a = some v ∧ KV v := ld_sl 29 22 a Tryz.underlying29
theorem sz30 : Tryz.prog.szo 30 = some 1 := by kernel_rfl
theorem ld30 (a : Addr) : vLoad Tryz.prog 30 (.pointer (some a)) w KV = ∃ v, w.cell? a = some v ∧ KV v := ld_int 30 a .i64 Tryz.underlying30
theorem cv30_2 (k : IntKind) (n : Int) : vConv Tryz.prog 30 2 (.int k n) w KV = vWrap .i64 n KV := cv_int 30 2 _ .i64 k n Tryz.underlying30 Tryz.underlying2
theorem cp30_2 : convPure Tryz.prog 30 2 = true := by kernel_rfl
theorem cv30_3 (k : IntKind) (n : Int) : vConv Tryz.prog 30 3 (.int k n) w KV = vWrap .i64 n KV := cv_int 30 3 _ .i64 k n Tryz.underlying30 Tryz.underlying3
theorem cp30_3 : convPure Tryz.prog 30 3 = true := by kernel_rfl
theorem cv30_5 (k : IntKind) (n : Int) : vConv Tryz.prog 30 5 (.int k n) w KV = vWrap .u8 n KV := cv_int 30 5 _ .u8 k n Tryz.underlying30 Tryz.underlying5
theorem cp30_5 : convPure Tryz.prog 30 5 = true := by kernel_rfl
theorem cv30_12 (k : IntKind) (n : Int) : vConv Tryz.prog 30 12 (.int k n) w KV = vWrap .u64 n KV := cv_int 30 12 _ .u64 k n Tryz.underlying30 Tryz.underlying12
theorem cp30_12 : convPure Tryz.prog 30 12 = true := by kernel_rfl
theorem cv30_21 (k : IntKind) (n : Int) : vConv Tryz.prog 30 21 (.int k n) w KV = vWrap .i32 n KV := cv_int 30 21 _ .i32 k n Tryz.underlying30 Tryz.underlying21
theorem cp30_21 : convPure Tryz.prog 30 21 = true := by kernel_rfl
theorem cv30_30 (k : IntKind) (n : Int) : vConv Tryz.prog 30 30 (.int k n) w KV = vWrap .i64 n KV := cv_int 30 30 _ .i64 k n Tryz.underlying30 Tryz.underlying30
theorem cp30_30 : convPure Tryz.prog 30 30 = true := by kernel_rfl
theorem cv30_46 (k : IntKind) (n : Int) : vConv Tryz.prog 30 46 (.int k n) w KV = vWrap .u32 n KV := cv_int 30 46 _ .u32 k n Tryz.underlying30 Tryz.underlying46
theorem cp30_46 : convPure Tryz.prog 30 46 = true := by kernel_rfl
theorem cv30_121 (k : IntKind) (n : Int) : vConv Tryz.prog 30 121 (.int k n) w KV = vWrap .u64 n KV := cv_int 30 121 _ .u64 k n Tryz.underlying30 Tryz.underlying121
theorem cp30_121 : convPure Tryz.prog 30 121 = true := by kernel_rfl
theorem cv30_161 (k : IntKind) (n : Int) : vConv Tryz.prog 30 161 (.int k n) w KV = vWrap .u64 n KV := cv_int 30 161 _ .u64 k n Tryz.underlying30 Tryz.underlying161
theorem cp30_161 : convPure Tryz.prog 30 161 = true := by kernel_rfl
theorem cv30_224 (k : IntKind) (n : Int) : vConv Tryz.prog 30 224 (.int k n) w KV = vWrap .i64 n KV := cv_int 30 224 _ .i64 k n Tryz.underlying30 Tryz.underlying224
theorem cp30_224 : convPure Tryz.prog 30 224 = true := by kernel_rfl
theorem cv30_271 (k : IntKind) (n : Int) : vConv Tryz.prog 30 271 (.int k n) w KV = vWrap .u64 n KV := cv_int 30 271 _ .u64 k n Tryz.underlying30 Tryz.underlying271
theorem cp30_271 : convPure Tryz.prog 30 271 = true := by kernel_rfl
theorem sz32 : Tryz.prog.szo 32 = some 1 := by kernel_rfl
theorem ldf32 (a : Addr) : vLoad Tryz.prog 32 (.pointer (some a)) w KV = ∃ v, w.cell? a = some v ∧ KV v := ld_fn 32 _ _ _ a Tryz.underlying32
theorem fe32 (f : Fn) (x y : Array Value) (xo yo : Operand) : vBinO Tryz.prog .eql 32 xo yo (.func f x y) .nilFunc w KV = KV (.bool false) := be_fun Tryz.underlying32 f x y xo yo
theorem sz33 : Tryz.prog.szo 33 = some 1 := by kernel_rfl
theorem ldf33 (a : Addr) : vLoad Tryz.prog 33 (.pointer (some a)) w KV = ∃ v, w.cell? a = some v ∧ KV v := ld_fn 33 _ _ _ a Tryz.underlying33
theorem fe33 (f : Fn) (x y : Array Value) (xo yo : Operand) : vBinO Tryz.prog .eql 33 xo yo (.func f x y) .nilFunc w KV = KV (.bool false) := be_fun Tryz.underlying33 f x y xo yo
theorem sz34 : Tryz.prog.szo 34 = some 1 := by kernel_rfl
theorem ldf34 (a : Addr) : vLoad Tryz.prog 34 (.pointer (some a)) w KV = ∃ v, w.cell? a = some v ∧ KV v := ld_fn 34 _ _ _ a Tryz.underlying34
theorem fe34 (f : Fn) (x y : Array Value) (xo yo : Operand) : vBinO Tryz.prog .eql 34 xo yo (.func f x y) .nilFunc w KV = KV (.bool false) := be_fun Tryz.underlying34 f x y xo yo
theorem sz35 : Tryz.prog.szo 35 = some 1 := by kernel_rfl
theorem ldf35 (a : Addr) : vLoad Tryz.prog 35 (.pointer (some a)) w KV = ∃ v, w.cell? a = some v ∧ KV v := ld_fn 35 _ _ _ a Tryz.underlying35
theorem fe35 (f : Fn) (x y : Array Value) (xo yo : Operand) : vBinO Tryz.prog .eql 35 xo yo (.func f x y) .nilFunc w KV = KV (.bool false) := be_fun Tryz.underlying35 f x y xo yo
theorem sz36 : Tryz.prog.szo 36 = some 1 := by kernel_rfl
theorem ldf36 (a : Addr) : vLoad Tryz.prog 36 (.pointer (some a)) w KV = ∃ v, w.cell? a = some v ∧ KV v := ld_fn 36 _ _ _ a Tryz.underlying36
theorem fe36 (f : Fn) (x y : Array Value) (xo yo : Operand) : vBinO Tryz.prog .eql 36 xo yo (.func f x y) .nilFunc w KV = KV (.bool false) := be_fun Tryz.underlying36 f x y xo yo
theorem sz37 : Tryz.prog.szo 37 = some 1 := by kernel_rfl
theorem ldf37 (a : Addr) : vLoad Tryz.prog 37 (.pointer (some a)) w KV = ∃ v, w.cell? a = some v ∧ KV v := ld_fn 37 _ _ _ a Tryz.underlying37
theorem fe37 (f : Fn) (x y : Array Value) (xo yo : Operand) : vBinO Tryz.prog .eql 37 xo yo (.func f x y) .nilFunc w KV = KV (.bool false) := be_fun Tryz.underlying37 f x y xo yo
theorem sz38 : Tryz.prog.szo 38 = some 1 := by kernel_rfl
theorem ln38 (a : Option Addr) (n c : Nat) : vLen Tryz.prog 38 (.slice a n c) KV = KV (.int .i64 n) := ln_sl 38 9 a n c Tryz.underlying38
theorem snn38 (a : Option Addr) (n c : Nat) : vSlice Tryz.prog 38 (.slice a n c) none none KV = (n ≤ c ∧ KV (.slice a n c)) := sl_nn 38 9 a n c 1 Tryz.underlying38 (by kernel_rfl)
theorem sln38 (a : Option Addr) (n c : Nat) (k : IntKind) (l : Int) : vSlice Tryz.prog 38 (.slice a n c) (some (.int k l)) none KV = ((0 ≤ l ∧ l ≤ n ∧ n ≤ c) ∧ KV (.slice (if c = l.toNat then a else a.map (·.add (l.toNat * 1))) (n - l.toNat) (c - l.toNat))) := sl_ln 38 9 a n c 1 k l Tryz.underlying38 (by kernel_rfl)
theorem snh38 (a : Option Addr) (n c : Nat) (k : IntKind) (l : Int) : vSlice Tryz.prog 38 (.slice a n c) none (some (.int k l)) KV = ((0 ≤ l ∧ l ≤ c) ∧ KV (.slice a l.toNat c)) := sl_nh 38 9 a n c 1 k l Tryz.underlying38 (by kernel_rfl)
theorem slh38 (a : Option Addr) (n c : Nat) (k k' : IntKind) (l m : Int) : vSlice Tryz.prog 38 (.slice a n c) (some (.int k l)) (some (.int k' m)) KV = ((0 ≤ l ∧ l ≤ m ∧ m ≤ c) ∧ KV (.slice (if c = l.toNat then a else a.map (·.add (l.toNat * 1))) (m.toNat - l.toNat) (c - l.toNat))) := sl_lh 38 9 a n c 1 k k' l m Tryz.underlying38 (by kernel_rfl)
theorem ia38 (a : Addr) (n c : Nat) (k : IntKind) (i : Int) : vIndexAddr Tryz.prog 38 (.slice (some a) n c) (.int k i) KV = ((0 ≤ i ∧ i < n) ∧ KV (.pointer (some (a.add (i.toNat * 1))))) := ia_sl 38 9 a n c 1 k i Tryz.underlying38 (by kernel_rfl)
theorem ld38 (a : Addr) : vLoad Tryz.prog 38 (.pointer (some a)) w KV = ∃ v, w.cell? a = some v ∧ KV v := ld_sl 38 9 a Tryz.underlying38
theorem sz39 : Tryz.prog.szo 39 = some 1 := by kernel_rfl
theorem ldf39 (a : Addr) : vLoad Tryz.prog 39 (.pointer (some a)) w KV = ∃ v, w.cell? a = some v ∧ KV v := ld_fn 39 _ _ _ a Tryz.underlying39
theorem fe39 (f : Fn) (x y : Array Value) (xo yo : Operand) : vBinO Tryz.prog .eql 39 xo yo (.func f x y) .nilFunc w KV = KV (.bool false) := be_fun Tryz.underlying39 f x y xo yo
theorem sz40 : Tryz.prog.szo 40 = some 1 := by kernel_rfl
theorem ldf40 (a : Addr) : vLoad Tryz.prog 40 (.pointer (some a)) w KV = ∃ v, w.cell? a = some v ∧ KV v := ld_fn 40 _ _ _ a Tryz.underlying40
theorem fe40 (f : Fn) (x y : Array Value) (xo yo : Operand) : vBinO Tryz.prog .eql 40 xo yo (.func f x y) .nilFunc w KV = KV (.bool false) := be_fun Tryz.underlying40 f x y xo yo
theorem sz41 : Tryz.prog.szo 41 = some 1 := by kernel_rfl
theorem ldf41 (a : Addr) : vLoad Tryz.prog 41 (.pointer (some a)) w KV = ∃ v, w.cell? a = some v ∧ KV v := ld_fn 41 _ _ _ a Tryz.underlying41
theorem fe41 (f : Fn) (x y : Array Value) (xo yo : Operand) : vBinO Tryz.prog .eql 41 xo yo (.func f x y) .nilFunc w KV = KV (.bool false) := be_fun Tryz.underlying41 f x y xo yo
theorem sz43 : Tryz.prog.szo 43 = some 1 := by kernel_rfl
theorem ldf43 (a : Addr) : vLoad Tryz.prog 43 (.pointer (some a)) w KV = ∃ v, w.cell? a = some v ∧ KV v := ld_fn 43 _ _ _ a Tryz.underlying43
theorem fe43 (f : Fn) (x y : Array Value) (xo yo : Operand) : vBinO Tryz.prog .eql 43 xo yo (.func f x y) .nilFunc w KV = KV (.bool false) := be_fun Tryz.underlying43 f x y xo yo
theorem sz44 : Tryz.prog.szo 44 = some 1 := by kernel_rfl
theorem ldf44 (a : Addr) : vLoad Tryz.prog 44 (.pointer (some a)) w KV = ∃ v, w.cell? a = some v ∧ KV v := ld_fn 44 _ _ _ a Tryz.underlying44
theorem fe44 (f : Fn) (x y : Array Value) (xo yo : Operand) : vBinO Tryz.prog .eql 44 xo yo (.func f x y) .nilFunc w KV = KV (.bool false) := be_fun Tryz.underlying44 f x y xo yo
theorem sz45 : Tryz.prog.szo 45 = some 1 := by kernel_rfl
theorem ldf45 (a : Addr) : vLoad Tryz.prog 45 (.pointer (some a)) w KV = ∃ v, w.cell? a = some v ∧ KV v := ld_fn 45 _ _ _ a Tryz.underlying45
theorem fe45 (f : Fn) (x y : Array Value) (xo yo : Operand) : vBinO Tryz.prog .eql 45 xo yo (.func f x y) .nilFunc w KV = KV (.bool false) := be_fun Tryz.underlying45 f x y xo yo
theorem sz46 : Tryz.prog.szo 46 = some 1 := by kernel_rfl
theorem ld46 (a : Addr) : vLoad Tryz.prog 46 (.pointer (some a)) w KV = ∃ v, w.cell? a = some v ∧ KV v := ld_int 46 a .u32 Tryz.underlying46
theorem cv46_2 (k : IntKind) (n : Int) : vConv Tryz.prog 46 2 (.int k n) w KV = vWrap .i64 n KV := cv_int 46 2 _ .i64 k n Tryz.underlying46 Tryz.underlying2
theorem cp46_2 : convPure Tryz.prog 46 2 = true := by kernel_rfl
theorem cv46_3 (k : IntKind) (n : Int) : vConv Tryz.prog 46 3 (.int k n) w KV = vWrap .i64 n KV := cv_int 46 3 _ .i64 k n Tryz.underlying46 Tryz.underlying3
theorem cp46_3 : convPure Tryz.prog 46 3 = true := by kernel_rfl
theorem cv46_5 (k : IntKind) (n : Int) : vConv Tryz.prog 46 5 (.int k n) w KV = vWrap .u8 n KV := cv_int 46 5 _ .u8 k n Tryz.underlying46 Tryz.underlying5
theorem cp46_5 : convPure Tryz.prog 46 5 = true := by kernel_rfl
theorem cv46_12 (k : IntKind) (n : Int) : vConv Tryz.prog 46 12 (.int k n) w KV = vWrap .u64 n KV := cv_int 46 12 _ .u64 k n Tryz.underlying46 Tryz.underlying12
theorem cp46_12 : convPure Tryz.prog 46 12 = true := by kernel_rfl
theorem cv46_21 (k : IntKind) (n : Int) : vConv Tryz.prog 46 21 (.int k n) w KV = vWrap .i32 n KV := cv_int 46 21 _ .i32 k n Tryz.underlying46 Tryz.underlying21
theorem cp46_21 : convPure Tryz.prog 46 21 = true := by kernel_rfl
theorem cv46_30 (k : IntKind) (n : Int) : vConv Tryz.prog 46 30 (.int k n) w KV = vWrap .i64 n KV := cv_int 46 30 _ .i64 k n Tryz.underlying46 Tryz.underlying30
theorem cp46_30 : convPure Tryz.prog 46 30 = true := by kernel_rfl
theorem cv46_46 (k : IntKind) (n : Int) : vConv Tryz.prog 46 46 (.int k n) w KV = vWrap .u32 n KV := cv_int 46 46 _ .u32 k n Tryz.underlying46 Tryz.underlying46
theorem cp46_46 : convPure Tryz.prog 46 46 = true := by kernel_rfl
theorem cv46_121 (k : IntKind) (n : Int) : vConv Tryz.prog 46 121 (.int k n) w KV = vWrap .u64 n KV := cv_int 46 121 _ .u64 k n Tryz.underlying46 Tryz.underlying121
theorem cp46_121 : convPure Tryz.prog 46 121 = true := by kernel_rfl
theorem cv46_161 (k : IntKind) (n : Int) : vConv Tryz.prog 46 161 (.int k n) w KV = vWrap .u64 n KV := cv_int 46 161 _ .u64 k n Tryz.underlying46 Tryz.underlying161
theorem cp46_161 : convPure Tryz.prog 46 161 = true := by kernel_rfl
theorem cv46_224 (k : IntKind) (n : Int) : vConv Tryz.prog 46 224 (.int k n) w KV = vWrap .i64 n KV := cv_int 46 224 _ .i64 k n Tryz.underlying46 Tryz.underlying224
theorem cp46_224 : convPure Tryz.prog 46 224 = true := by kernel_rfl
theorem cv46_271 (k : IntKind) (n : Int) : vConv Tryz.prog 46 271 (.int k n) w KV = vWrap .u64 n KV := cv_int 46 271 _ .u64 k n Tryz.underlying46 Tryz.underlying271
theorem cp46_271 : convPure Tryz.prog 46 271 = true := by kernel_rfl
theorem sz47 : Tryz.prog.szo 47 = some 5 := by kernel_rfl
theorem ld47 (a : Addr) : vLoad Tryz.prog 47 (.pointer (some a)) w KV = ∃ cs : List Value, (cs.length = 5 ∧ Reads w a cs) ∧ KV (.agg cs.toArray) := ld_st 47 5 a _ Tryz.underlying47 (by kernel_rfl)
theorem bd47 (s0 : ByteArray) (n1 : Int) (n2 : Int) (n3 : Int) (n4 : Int) : vBuild Tryz.prog 47 [(0, .string s0), (1, .int .i64 n1), (2, .int .i64 n2), (3, .int .i64 n3), (4, .int .u32 n4)] KV = KV (.agg #[.string s0, .int .i64 n1, .int .i64 n2, .int .i64 n3, .int .u32 n4]) := bd_of (by kernel_rfl)
theorem bz47 : vBuild Tryz.prog 47 [] KV = KV (.agg #[.string ⟨#[]⟩, .int .i64 0, .int .i64 0, .int .i64 0, .int .u32 0]) := bd_of (by kernel_rfl)
theorem fd47_0 (l : List Value) : vField Tryz.prog 47 (.agg l.toArray) 0 KV = vNth l 0 KV := fd_cell 47 0 l Tryz.underlying47 rfl (by kernel_rfl) (by kernel_rfl) (by kernel_rfl)
theorem fa47_0 (a : Addr) : vFieldAddr Tryz.prog 47 (.pointer (some a)) 0 KV = KV (.pointer (some (a.add 0))) := fa_st 47 0 a (m := 0) Tryz.underlying47 rfl (by kernel_rfl)
theorem fd47_1 (l : List Value) : vField Tryz.prog 47 (.agg l.toArray) 1 KV = vNth l 1 KV := fd_cell 47 1 l Tryz.underlying47 rfl (by kernel_rfl) (by kernel_rfl) (by kernel_rfl)
theorem fa47_1 (a : Addr) : vFieldAddr Tryz.prog 47 (.pointer (some a)) 1 KV = KV (.pointer (some (a.add 1))) := fa_st 47 1 a (m := 0) Tryz.underlying47 rfl (by kernel_rfl)
theorem fd47_2 (l : List Value) : vField Tryz.prog 47 (.agg l.toArray) 2 KV = vNth l 2 KV := fd_cell 47 2 l Tryz.underlying47 rfl (by kernel_rfl) (by kernel_rfl) (by kernel_rfl)
theorem fa47_2 (a : Addr) : vFieldAddr Tryz.prog 47 (.pointer (some a)) 2 KV = KV (.pointer (some (a.add 2))) := fa_st 47 2 a (m := 0) Tryz.underlying47 rfl (by kernel_rfl)
theorem fd47_3 (l : List Value) : vField Tryz.prog 47 (.agg l.toArray) 3 KV = vNth l 3 KV := fd_cell 47 3 l Tryz.underlying47 rfl (by kernel_rfl) (by kernel_rfl) (by kernel_rfl)
theorem fa47_3 (a : Addr) : vFieldAddr Tryz.prog 47 (.pointer (some a)) 3 KV = KV (.pointer (some (a.add 3))) := fa_st 47 3 a (m := 0) Tryz.underlying47 rfl (by kernel_rfl)
theorem fd47_4 (l : List Value) : vField Tryz.prog 47 (.agg l.toArray) 4 KV = vNth l 4 KV := fd_cell 47 4 l Tryz.underlying47 rfl (by kernel_rfl) (by kernel_rfl) (by kernel_rfl)
theorem fa47_4 (a : Addr) : vFieldAddr Tryz.prog 47 (.pointer (some a)) 4 KV = KV (.pointer (some (a.add 4))) := fa_st 47 4 a (m := 0) Tryz.underlying47 rfl (by kernel_rfl)
theorem sz48 : Tryz.prog.szo 48 = some 5 := by kernel_rfl
theorem ld48 (a : Addr) : vLoad Tryz.prog 48 (.pointer (some a)) w KV = ∃ cs : List Value, (cs.length = 5 ∧ Reads w a cs) ∧ KV (.agg cs.toArray) := ld_st 48 5 a _ Tryz.underlying48 (by kernel_rfl)
theorem bd48 (s0 : ByteArray) (n1 : Int) (n2 : Int) (n3 : Int) (n4 : Int) : vBuild Tryz.prog 48 [(0, .string s0), (1, .int .i64 n1), (2, .int .i64 n2), (3, .int .i64 n3), (4, .int .u32 n4)] KV = KV (.agg #[.string s0, .int .i64 n1, .int .i64 n2, .int .i64 n3, .int .u32 n4]) := bd_of (by kernel_rfl)
theorem bz48 : vBuild Tryz.prog 48 [] KV = KV (.agg #[.string ⟨#[]⟩, .int .i64 0, .int .i64 0, .int .i64 0, .int .u32 0]) := bd_of (by kernel_rfl)
theorem fd48_0 (l : List Value) : vField Tryz.prog 48 (.agg l.toArray) 0 KV = vNth l 0 KV := fd_cell 48 0 l Tryz.underlying48 rfl (by kernel_rfl) (by kernel_rfl) (by kernel_rfl)
theorem fa48_0 (a : Addr) : vFieldAddr Tryz.prog 48 (.pointer (some a)) 0 KV = KV (.pointer (some (a.add 0))) := fa_st 48 0 a (m := 0) Tryz.underlying48 rfl (by kernel_rfl)
theorem fd48_1 (l : List Value) : vField Tryz.prog 48 (.agg l.toArray) 1 KV = vNth l 1 KV := fd_cell 48 1 l Tryz.underlying48 rfl (by kernel_rfl) (by kernel_rfl) (by kernel_rfl)
theorem fa48_1 (a : Addr) : vFieldAddr Tryz.prog 48 (.pointer (some a)) 1 KV = KV (.pointer (some (a.add 1))) := fa_st 48 1 a (m := 0) Tryz.underlying48 rfl (by kernel_rfl)
theorem fd48_2 (l : List Value) : vField Tryz.prog 48 (.agg l.toArray) 2 KV = vNth l 2 KV := fd_cell 48 2 l Tryz.underlying48 rfl (by kernel_rfl) (by kernel_rfl) (by kernel_rfl)
theorem fa48_2 (a : Addr) : vFieldAddr Tryz.prog 48 (.pointer (some a)) 2 KV = KV (.pointer (some (a.add 2))) := fa_st 48 2 a (m := 0) Tryz.underlying48 rfl (by kernel_rfl)
theorem fd48_3 (l : List Value) : vField Tryz.prog 48 (.agg l.toArray) 3 KV = vNth l 3 KV := fd_cell 48 3 l Tryz.underlying48 rfl (by kernel_rfl) (by kernel_rfl) (by kernel_rfl)
theorem fa48_3 (a : Addr) : vFieldAddr Tryz.prog 48 (.pointer (some a)) 3 KV = KV (.pointer (some (a.add 3))) := fa_st 48 3 a (m := 0) Tryz.underlying48 rfl (by kernel_rfl)
theorem fd48_4 (l : List Value) : vField Tryz.prog 48 (.agg l.toArray) 4 KV = vNth l 4 KV := fd_cell 48 4 l Tryz.underlying48 rfl (by kernel_rfl) (by kernel_rfl) (by kernel_rfl)
theorem fa48_4 (a : Addr) : vFieldAddr Tryz.prog 48 (.pointer (some a)) 4 KV = KV (.pointer (some (a.add 4))) := fa_st 48 4 a (m := 0) Tryz.underlying48 rfl (by kernel_rfl)
theorem sz50 : Tryz.prog.szo 50 = some 1 := by kernel_rfl
theorem ldf50 (a : Addr) : vLoad Tryz.prog 50 (.pointer (some a)) w KV = ∃ v, w.cell? a = some v ∧ KV v := ld_fn 50 _ _ _ a Tryz.underlying50
theorem fe50 (f : Fn) (x y : Array Value) (xo yo : Operand) : vBinO Tryz.prog .eql 50 xo yo (.func f x y) .nilFunc w KV = KV (.bool false) := be_fun Tryz.underlying50 f x y xo yo
theorem sz51 : Tryz.prog.szo 51 = some 1 := by kernel_rfl
theorem pe51 (a : Option Addr) (xo yo : Operand) : vBinO Tryz.prog .eql 51 xo yo (.pointer a) (.pointer none) w KV = KV (.bool a.isNone) := be_ptr Tryz.underlying51 a xo yo
theorem pn51 (a : Option Addr) (xo yo : Operand) : vBinO Tryz.prog .neq 51 xo yo (.pointer a) (.pointer none) w KV = KV (.bool !a.isNone) := bn_ptr Tryz.underlying51 a xo yo
theorem ld51 (a : Addr) : vLoad Tryz.prog 51 (.pointer (some a)) w KV = ∃ v, w.cell? a = some v ∧ KV v := ld_ptr 51 54 a Tryz.underlying51
theorem sz52 : Tryz.prog.szo 52 = some 1 := by kernel_rfl
theorem ln52 (a : Option Addr) (n c : Nat) : vLen Tryz.prog 52 (.slice a n c) KV = KV (.int .i64 n) := ln_sl 52 5 a n c Tryz.underlying52
theorem snn52 (a : Option Addr) (n c : Nat) : vSlice Tryz.prog 52 (.slice a n c) none none KV = (n ≤ c ∧ KV (.slice a n c)) := sl_nn 52 5 a n c 1 Tryz.underlying52 (by kernel_rfl)
theorem sln52 (a : Option Addr) (n c : Nat) (k : IntKind) (l : Int) : vSlice Tryz.prog 52 (.slice a n c) (some (.int k l)) none KV = ((0 ≤ l ∧ l ≤ n ∧ n ≤ c) ∧ KV (.slice (if c = l.toNat then a else a.map (·.add (l.toNat * 1))) (n - l.toNat) (c - l.toNat))) := sl_ln 52 5 a n c 1 k l Tryz.underlying52 (by kernel_rfl)
theorem snh52 (a : Option Addr) (n c : Nat) (k : IntKind) (l : Int) : vSlice Tryz.prog 52 (.slice a n c) none (some (.int k l)) KV = ((0 ≤ l ∧ l ≤ c) ∧ KV (.slice a l.toNat c)) := sl_nh 52 5 a n c 1 k l Tryz.underlying52 (by kernel_rfl)
theorem slh52 (a : Option Addr) (n c : Nat) (k k' : IntKind) (l m : Int) : vSlice Tryz.prog 52 (.slice a n c) (some (.int k l)) (some (.int k' m)) KV = ((0 ≤ l ∧ l ≤ m ∧ m ≤ c) ∧ KV (.slice (if c = l.toNat then a else a.map (·.add (l.toNat * 1))) (m.toNat - l.toNat) (c - l.toNat))) := sl_lh 52 5 a n c 1 k k' l m Tryz.underlying52 (by kernel_rfl)
theorem ia52 (a : Addr) (n c : Nat) (k : IntKind) (i : Int) : vIndexAddr Tryz.prog 52 (.slice (some a) n c) (.int k i) KV = ((0 ≤ i ∧ i < n) ∧ KV (.pointer (some (a.add (i.toNat * 1))))) := ia_sl 52 5 a n c 1 k i Tryz.underlying52 (by kernel_rfl)
theorem ld52 (a : Addr) : vLoad Tryz.prog 52 (.pointer (some a)) w KV = ∃ v, w.cell? a = some v ∧ KV v := ld_sl 52 5 a Tryz.underlying52
theorem cv52_9 (a : Option Addr) (n c : Nat) : vConv Tryz.prog 52 9 (.slice a n c) w KV = ∃ l, ReadsBytes w a n l ∧ KV (Str l) := cv_str 52 9 5 a n c Tryz.underlying52 Tryz.underlying9 Tryz.underlying5
theorem cp52_9 : convPure Tryz.prog 52 9 = true := by kernel_rfl
theorem cp9_52 : convPure Tryz.prog 9 52 = false := by kernel_rfl
theorem sz53 : Tryz.prog.szo 53 = some 2 := by kernel_rfl
theorem ld53 (a : Addr) : vLoad Tryz.prog 53 (.pointer (some a)) w KV = ∃ cs : List Value, (cs.length = 2 ∧ Reads w a cs) ∧ KV (.agg cs.toArray) := ld_st 53 2 a _ Tryz.underlying53 (by kernel_rfl)
theorem bd53 (p0 : Option Addr) (a1 : Option Addr) (n1 c1 : Nat) : vBuild Tryz.prog 53 [(0, .pointer p0), (1, .slice a1 n1 c1)] KV = KV (.agg #[.pointer p0, .slice a1 n1 c1]) := bd_of (by kernel_rfl)
theorem bz53 : vBuild Tryz.prog 53 [] KV = KV (.agg #[.pointer none, .slice none 0 0]) := bd_of (by kernel_rfl)
theorem fd53_0 (l : List Value) : vField Tryz.prog 53 (.agg l.toArray) 0 KV = vNth l 0 KV := fd_cell 53 0 l Tryz.underlying53 rfl (by kernel_rfl) (by kernel_rfl) (by kernel_rfl)
theorem fa53_0 (a : Addr) : vFieldAddr Tryz.prog 53 (.pointer (some a)) 0 KV = KV (.pointer (some (a.add 0))) := fa_st 53 0 a (m := 0) Tryz.underlying53 rfl (by kernel_rfl)
theorem fd53_1 (l : List Value) : vField Tryz.prog 53 (.agg l.toArray) 1 KV = vNth l 1 KV := fd_cell 53 1 l Tryz.underlying53 rfl (by kernel_rfl) (by kernel_rfl) (by kernel_rfl)
theorem fa53_1 (a : Addr) : vFieldAddr Tryz.prog 53 (.pointer (some a)) 1 KV = KV (.pointer (some (a.add 1))) := fa_st 53 1 a (m := 0) Tryz.underlying53 rfl (by kernel_rfl)
theorem sz54 : Tryz.prog.szo 54 = some 2 := by kernel_rfl
theorem ld54 (a : Addr) : vLoad Tryz.prog 54 (.pointer (some a)) w KV = ∃ cs : List Value, (cs.length = 2 ∧ Reads w a cs) ∧ KV (.agg cs.toArray) := ld_st 54 2 a _ Tryz.underlying54 (by kernel_rfl)
theorem bd54 (p0 : Option Addr) (a1 : Option Addr) (n1 c1 : Nat) : vBuild Tryz.prog 54 [(0, .pointer p0), (1, .slice a1 n1 c1)] KV = KV (.agg #[.pointer p0, .slice a1 n1 c1]) := bd_of (by kernel_rfl)
theorem bz54 : vBuild Tryz.prog 54 [] KV = KV (.agg #[.pointer none, .slice none 0 0]) := bd_of (by kernel_rfl)
theorem fd54_0 (l : List Value) : vField Tryz.prog 54 (.agg l.toArray) 0 KV = vNth l 0 KV := fd_cell 54 0 l Tryz.underlying54 rfl (by kernel_rfl) (by kernel_rfl) (by kernel_rfl)
theorem fa54_0 (a : Addr) : vFieldAddr Tryz.prog 54 (.pointer (some a)) 0 KV = KV (.pointer (some (a.add 0))) := fa_st 54 0 a (m := 0) Tryz.underlying54 rfl (by kernel_rfl)
theorem fd54_1 (l : List Value) : vField Tryz.prog 54 (.agg l.toArray) 1 KV = vNth l 1 KV := fd_cell 54 1 l Tryz.underlying54 rfl (by kernel_rfl) (by kernel_rfl) (by kernel_rfl)
theorem fa54_1 (a : Addr) : vFieldAddr Tryz.prog 54 (.pointer (some a)) 1 KV = KV (.pointer (some (a.add 1))) := fa_st 54 1 a (m := 0) Tryz.underlying54 rfl (by kernel_rfl)
theorem sz55 : Tryz.prog.szo 55 = some 1 := by kernel_rfl
theorem ldf55 (a : Addr) : vLoad Tryz.prog 55 (.pointer (some a)) w KV = ∃ v, w.cell? a = some v ∧ KV v := ld_fn 55 _ _ _ a Tryz.underlying55
theorem fe55 (f : Fn) (x y : Array Value) (xo yo : Operand) : vBinO Tryz.prog .eql 55 xo yo (.func f x y) .nilFunc w KV = KV (.bool false) := be_fun Tryz.underlying55 f x y xo yo
theorem sz56 : Tryz.prog.szo 56 = some 1 := by kernel_rfl
theorem sz57 : Tryz.prog.szo 57 = some 1 := by kernel_rfl
theorem sz59 : Tryz.prog.szo 59 = some 1 := by kernel_rfl
theorem ldf59 (a : Addr) : vLoad Tryz.prog 59 (.pointer (some a)) w KV = ∃ v, w.cell? a = some v ∧ KV v := ld_fn 59 _ _ _ a Tryz.underlying59
theorem fe59 (f : Fn) (x y : Array Value) (xo yo : Operand) : vBinO Tryz.prog .eql 59 xo yo (.func f x y) .nilFunc w KV = KV (.bool false) := be_fun Tryz.underlying59 f x y xo yo
theorem sz60 : Tryz.prog.szo 60 = some 2 := by kernel_rfl
theorem ld60 (a : Addr) : vLoad Tryz.prog 60 (.pointer (some a)) w KV = ∃ cs : List Value, (cs.length = 2 ∧ Reads w a cs) ∧ KV (.agg cs.toArray) := ld_st 60 2 a _ Tryz.underlying60 (by kernel_rfl)
theorem bd60 (s0 : ByteArray) (s1 : ByteArray) : vBuild Tryz.prog 60 [(0, .string s0), (1, .string s1)] KV = KV (.agg #[.string s0, .string s1]) := bd_of (by kernel_rfl)
theorem bz60 : vBuild Tryz.prog 60 [] KV = KV (.agg #[.string ⟨#[]⟩, .string ⟨#[]⟩]) := bd_of (by kernel_rfl)
theorem fd60_0 (l : List Value) : vField Tryz.prog 60 (.agg l.toArray) 0 KV = vNth l 0 KV := fd_cell 60 0 l Tryz.underlying60 rfl (by kernel_rfl) (by kernel_rfl) (by kernel_rfl)
theorem fa60_0 (a : Addr) : vFieldAddr Tryz.prog 60 (.pointer (some a)) 0 KV = KV (.pointer (some (a.add 0))) := fa_st 60 0 a (m := 0) Tryz.underlying60 rfl (by kernel_rfl)
theorem fd60_1 (l : List Value) : vField Tryz.prog 60 (.agg l.toArray) 1 KV = vNth l 1 KV := fd_cell 60 1 l Tryz.underlying60 rfl (by kernel_rfl) (by kernel_rfl) (by kernel_rfl)
theorem fa60_1 (a : Addr) : vFieldAddr Tryz.prog 60 (.pointer (some a)) 1 KV = KV (.pointer (some (a.add 1))) := fa_st 60 1 a (m := 0) Tryz.underlying60 rfl (by kernel_rfl)
theorem sz61 : Tryz.prog.szo 61 = some 2 := by kernel_rfl
theorem ld61 (a : Addr) : vLoad Tryz.prog 61 (.pointer (some a)) w KV = ∃ cs : List Value, (cs.length = 2 ∧ Reads w a cs) ∧ KV (.agg cs.toArray) := ld_st 61 2 a _ Tryz.underlying61 (by kernel_rfl)
theorem bd61 (s0 : ByteArray) (s1 : ByteArray) : vBuild Tryz.prog 61 [(0, .string s0), (1, .string s1)] KV = KV (.agg #[.string s0, .string s1]) := bd_of (by kernel_rfl)
theorem bz61 : vBuild Tryz.prog 61 [] KV = KV (.agg #[.string ⟨#[]⟩, .string ⟨#[]⟩]) := bd_of (by kernel_rfl)
theorem fd61_0 (l : List Value) : vField Tryz.prog 61 (.agg l.toArray) 0 KV = vNth l 0 KV := fd_cell 61 0 l Tryz.underlying61 rfl (by kernel_rfl) (by kernel_rfl) (by kernel_rfl)
theorem fa61_0 (a : Addr) : vFieldAddr Tryz.prog 61 (.pointer (some a)) 0 KV = KV (.pointer (some (a.add 0))) := fa_st 61 0 a (m := 0) Tryz.underlying61 rfl (by kernel_rfl)
theorem fd61_1 (l : List Value) : vField Tryz.prog 61 (.agg l.toArray) 1 KV = vNth l 1 KV := fd_cell 61 1 l Tryz.underlying61 rfl (by kernel_rfl) (by kernel_rfl) (by kernel_rfl)
theorem fa61_1 (a : Addr) : vFieldAddr Tryz.prog 61 (.pointer (some a)) 1 KV = KV (.pointer (some (a.add 1))) := fa_st 61 1 a (m := 0) Tryz.underlying61 rfl (by kernel_rfl)
theorem sz63 : Tryz.prog.szo 63 = some 1 := by kernel_rfl
theorem ldf63 (a : Addr) : vLoad Tryz.prog 63 (.pointer (some a)) w KV = ∃ v, w.cell? a = some v ∧ KV v := ld_fn 63 _ _ _ a Tryz.underlying63
theorem fe63 (f : Fn) (x y : Array Value) (xo yo : Operand) : vBinO Tryz.prog .eql 63 xo yo (.func f x y) .nilFunc w KV = KV (.bool false) := be_fun Tryz.underlying63 f x y xo yo
theorem sz64 : Tryz.prog.szo 64 = some 1 := by kernel_rfl
theorem ldf64 (a : Addr) : vLoad Tryz.prog 64 (.pointer (some a)) w KV = ∃ v, w.cell? a = some v ∧ KV v := ld_fn 64 _ _ _ a Tryz.underlying64
theorem fe64 (f : Fn) (x y : Array Value) (xo yo : Operand) : vBinO Tryz.prog .eql 64 xo yo (.func f x y) .nilFunc w KV = KV (.bool false) := be_fun Tryz.underlying64 f x y xo yo
theorem sz65 : Tryz.prog.szo 65 = some 1 := by kernel_rfl
theorem ldf65 (a : Addr) : vLoad Tryz.prog 65 (.pointer (some a)) w KV = ∃ v, w.cell? a = some v ∧ KV v := ld_fn 65 _ _ _ a Tryz.underlying65
theorem fe65 (f : Fn) (x y : Array Value) (xo yo : Operand) : vBinO Tryz.prog .eql 65 xo yo (.func f x y) .nilFunc w KV = KV (.bool false) := be_fun Tryz.underlying65 f x y xo yo
theorem sz66 : Tryz.prog.szo 66 = some 1 := by kernel_rfl
theorem ln66 (a : Option Addr) (n c : Nat) : vLen Tryz.prog 66 (.slice a n c) KV = KV (.int .i64 n) := ln_sl 66 61 a n c Tryz.underlying66
theorem snn66 (a : Option Addr) (n c : Nat) : vSlice Tryz.prog 66 (.slice a n c) none none KV = (n ≤ c ∧ KV (.slice a n c)) := sl_nn 66 61 a n c 2 Tryz.underlying66 (by kernel_rfl)
theorem sln66 (a : Option Addr) (n c : Nat) (k : IntKind) (l : Int) : vSlice Tryz.prog 66 (.slice a n c) (some (.int k l)) none KV = ((0 ≤ l ∧ l ≤ n ∧ n ≤ c) ∧ KV (.slice (if c = l.toNat then a else a.map (·.add (l.toNat * 2))) (n - l.toNat) (c - l.toNat))) := sl_ln 66 61 a n c 2 k l Tryz.underlying66 (by kernel_rfl)
theorem snh66 (a : Option Addr) (n c : Nat) (k : IntKind) (l : Int) : vSlice Tryz.prog 66 (.slice a n c) none (some (.int k l)) KV = ((0 ≤ l ∧ l ≤ c) ∧ KV (.slice a l.toNat c)) := sl_nh 66 61 a n c 2 k l Tryz.underlying66 (by kernel_rfl)
theorem slh66 (a : Option Addr) (n c : Nat) (k k' : IntKind) (l m : Int) : vSlice Tryz.prog 66 (.slice a n c) (some (.int k l)) (some (.int k' m)) KV = ((0 ≤ l ∧ l ≤ m ∧ m ≤ c) ∧ KV (.slice (if c = l.toNat then a else a.map (·.add (l.toNat * 2))) (m.toNat - l.toNat) (c - l.toNat))) := sl_lh 66 61 a n c 2 k k' l m Tryz.underlying66 (by kernel_rfl)
theorem ia66 (a : Addr) (n c : Nat) (k : IntKind) (i : Int) : vIndexAddr Tryz.prog 66 (.slice (some a) n c) (.int k i) KV = ((0 ≤ i ∧ i < n) ∧ KV (.pointer (some (a.add (i.toNat * 2))))) := ia_sl 66 61 a n c 2 k i Tryz.underlying66 (by kernel_rfl)
theorem ld66 (a : Addr) : vLoad Tryz.prog 66 (.pointer (some a)) w KV = ∃ v, w.cell? a = some v ∧ KV v := ld_sl 66 61 a Tryz.underlying66
theorem sz67 : Tryz.prog.szo 67 = some 1 := by kernel_rfl
theorem ln67 (a : Option Addr) (n c : Nat) : vLen Tryz.prog 67 (.slice a n c) KV = KV (.int .i64 n) := ln_sl 67 70 a n c Tryz.underlying67
theorem snn67 (a : Option Addr) (n c : Nat) : vSlice Tryz.prog 67 (.slice a n c) none none KV = (n ≤ c ∧ KV (.slice a n c)) := sl_nn 67 70 a n c 6 Tryz.underlying67 (by kernel_rfl)
theorem sln67 (a : Option Addr) (n c : Nat) (k : IntKind) (l : Int) : vSlice Tryz.prog 67 (.slice a n c) (some (.int k l)) none KV = ((0 ≤ l ∧ l ≤ n ∧ n ≤ c) ∧ KV (.slice (if c = l.toNat then a else a.map (·.add (l.toNat * 6))) (n - l.toNat) (c - l.toNat))) := sl_ln 67 70 a n c 6 k l Tryz.underlying67 (by kernel_rfl)
theorem snh67 (a : Option Addr) (n c : Nat) (k : IntKind) (l : Int) : vSlice Tryz.prog 67 (.slice a n c) none (some (.int k l)) KV = ((0 ≤ l ∧ l ≤ c) ∧ KV (.slice a l.toNat c)) := sl_nh 67 70 a n c 6 k l Tryz.underlying67 (by kernel_rfl)
theorem slh67 (a : Option Addr) (n c : Nat) (k k' : IntKind) (l m : Int) : vSlice Tryz.prog 67 (.slice a n c) (some (.int k l)) (some (.int k' m)) KV = ((0 ≤ l ∧ l ≤ m ∧ m ≤ c) ∧ KV (.slice (if c = l.toNat then a else a.map (·.add (l.toNat * 6))) (m.toNat - l.toNat) (c - l.toNat))) := sl_lh 67 70 a n c 6 k k' l m Tryz.underlying67 (by kernel_rfl)
theorem ia67 (a : Addr) (n c : Nat) (k : IntKind) (i : Int) : vIndexAddr Tryz.prog 67 (.slice (some a) n c) (.int k i) KV = ((0 ≤ i ∧ i < n) ∧ KV (.pointer (some (a.add (i.toNat * 6))))) := ia_sl 67 70 a n c 6 k i Tryz.underlying67 (by kernel_rfl)
theorem ld67 (a : Addr) : vLoad Tryz.prog 67 (.pointer (some a)) w KV = ∃ v, w.cell? a = some v ∧ KV v := ld_sl 67 70 a Tryz.underlying67
theorem sz68 : Tryz.prog.szo 68 = some 1 := by kernel_rfl
theorem sz69 : Tryz.prog.szo 69 = some 6 := by kernel_rfl
theorem ld69 (a : Addr) : vLoad Tryz.prog 69 (.pointer (some a)) w KV = ∃ cs : List Value, (cs.length = 6 ∧ Reads w a cs) ∧ KV (.agg cs.toArray) := ld_st 69 6 a _ Tryz.underlying69 (by kernel_rfl)
theorem fd69_0 (l : List Value) : vField Tryz.prog 69 (.agg l.toArray) 0 KV = vNth l 0 KV := fd_cell 69 0 l Tryz.underlying69 rfl (by kernel_rfl) (by kernel_rfl) (by kernel_rfl)
theorem fa69_0 (a : Addr) : vFieldAddr Tryz.prog 69 (.pointer (some a)) 0 KV = KV (.pointer (some (a.add 0))) := fa_st 69 0 a (m := 0) Tryz.underlying69 rfl (by kernel_rfl)
theorem fd69_1 (l : List Value) : vField Tryz.prog 69 (.agg l.toArray) 1 KV = KV (.agg ((l.take 6).drop 1).toArray) := fd_agg 69 1 l 5 Tryz.underlying69 rfl (by kernel_rfl) (by kernel_rfl) (by kernel_rfl)
theorem fa69_1 (a : Addr) : vFieldAddr Tryz.prog 69 (.pointer (some a)) 1 KV = KV (.pointer (some (a.add 1))) := fa_st 69 1 a (m := 4) Tryz.underlying69 rfl (by kernel_rfl)
theorem sz70 : Tryz.prog.szo 70 = some 6 := by kernel_rfl
theorem ld70 (a : Addr) : vLoad Tryz.prog 70 (.pointer (some a)) w KV = ∃ cs : List Value, (cs.length = 6 ∧ Reads w a cs) ∧ KV (.agg cs.toArray) := ld_st 70 6 a _ Tryz.underlying70 (by kernel_rfl)
theorem fd70_0 (l : List Value) : vField Tryz.prog 70 (.agg l.toArray) 0 KV = vNth l 0 KV := fd_cell 70 0 l Tryz.underlying70 rfl (by kernel_rfl) (by kernel_rfl) (by kernel_rfl)
theorem fa70_0 (a : Addr) : vFieldAddr Tryz.prog 70 (.pointer (some a)) 0 KV = KV (.pointer (some (a.add 0))) := fa_st 70 0 a (m := 0) Tryz.underlying70 rfl (by kernel_rfl)
theorem fd70_1 (l : List Value) : vField Tryz.prog 70 (.agg l.toArray) 1 KV = KV (.agg ((l.take 6).drop 1).toArray) := fd_agg 70 1 l 5 Tryz.underlying70 rfl (by kernel_rfl) (by kernel_rfl) (by kernel_rfl)
theorem fa70_1 (a : Addr) : vFieldAddr Tryz.prog 70 (.pointer (some a)) 1 KV = KV (.pointer (some (a.add 1))) := fa_st 70 1 a (m := 4) Tryz.underlying70 rfl (by kernel_rfl)
theorem sz71 : Tryz.prog.szo 71 = some 1 := by kernel_rfl
theorem ldf71 (a : Addr) : vLoad Tryz.prog 71 (.pointer (some a)) w KV = ∃ v, w.cell? a = some v ∧ KV v := ld_fn 71 _ _ _ a Tryz.underlying71
theorem fe71 (f : Fn) (x y : Array Value) (xo yo : Operand) : vBinO Tryz.prog .eql 71 xo yo (.func f x y) .nilFunc w KV = KV (.bool false) := be_fun Tryz.underlying71 f x y xo yo
theorem sz72 : Tryz.prog.szo 72 = some 1 := by kernel_rfl
theorem ln72 (a : Option Addr) (n c : Nat) : vLen Tryz.prog 72 (.slice a n c) KV = KV (.int .i64 n) := ln_sl 72 79 a n c Tryz.underlying72
theorem snn72 (a : Option Addr) (n c : Nat) : vSlice Tryz.prog 72 (.slice a n c) none none KV = (n ≤ c ∧ KV (.slice a n c)) := sl_nn 72 79 a n c 2 Tryz.underlying72 (by kernel_rfl)
theorem sln72 (a : Option Addr) (n c : Nat) (k : IntKind) (l : Int) : vSlice Tryz.prog 72 (.slice a n c) (some (.int k l)) none KV = ((0 ≤ l ∧ l ≤ n ∧ n ≤ c) ∧ KV (.slice (if c = l.toNat then a else a.map (·.add (l.toNat * 2))) (n - l.toNat) (c - l.toNat))) := sl_ln 72 79 a n c 2 k l Tryz.underlying72 (by kernel_rfl)
theorem snh72 (a : Option Addr) (n c : Nat) (k : IntKind) (l : Int) : vSlice Tryz.prog 72 (.slice a n c) none (some (.int k l)) KV = ((0 ≤ l ∧ l ≤ c) ∧ KV (.slice a l.toNat c)) := sl_nh 72 79 a n c 2 k l Tryz.underlying72 (by kernel_rfl)
theorem slh72 (a : Option Addr) (n c : Nat) (k k' : IntKind) (l m : Int) : vSlice Tryz.prog 72 (.slice a n c) (some (.int k l)) (some (.int k' m)) KV = ((0 ≤ l ∧ l ≤ m ∧ m ≤ c) ∧ KV (.slice (if c = l.toNat then a else a.map (·.add (l.toNat * 2))) (m.toNat - l.toNat) (c - l.toNat))) := sl_lh 72 79 a n c 2 k k' l m Tryz.underlying72 (by kernel_rfl)
theorem ia72 (a : Addr) (n c : Nat) (k : IntKind) (i : Int) : vIndexAddr Tryz.prog 72 (.slice (some a) n c) (.int k i) KV = ((0 ≤ i ∧ i < n) ∧ KV (.pointer (some (a.add (i.toNat * 2))))) := ia_sl 72 79 a n c 2 k i Tryz.underlying72 (by kernel_rfl)
theorem ld72 (a : Addr) : vLoad Tryz.prog 72 (.pointer (some a)) w KV = ∃ v, w.cell? a = some v ∧ KV v := ld_sl 72 79 a Tryz.underlying72
theorem sz73 : Tryz.prog.szo 73 = some 1 := by kernel_rfl
theorem ldf73 (a : Addr) : vLoad Tryz.prog 73 (.pointer (some a)) w KV = ∃ v, w.cell? a = some v ∧ KV v := ld_fn 73 _ _ _ a Tryz.underlying73
theorem fe73 (f : Fn) (x y : Array Value) (xo yo : Operand) : vBinO Tryz.prog .eql 73 xo yo (.func f x y) .nilFunc w KV = KV (.bool false) := be_fun Tryz.underlying73 f x y xo yo
theorem sz74 : Tryz.prog.szo 74 = some 1 := by kernel_rfl
theorem ldf74 (a : Addr) : vLoad Tryz.prog 74 (.pointer (some a)) w KV = ∃ v, w.cell? a = some v ∧ KV v := ld_fn 74 _ _ _ a Tryz.underlying74
theorem fe74 (f : Fn) (x y : Array Value) (xo yo : Operand) : vBinO Tryz.prog .eql 74 xo yo (.func f x y) .nilFunc w KV = KV (.bool false) := be_fun Tryz.underlying74 f x y xo yo
theorem sz75 : Tryz.prog.szo 75 = some 1 := by kernel_rfl
theorem pe75 (a : Option Addr) (xo yo : Operand) : vBinO Tryz.prog .eql 75 xo yo (.pointer a) (.pointer none) w KV = KV (.bool a.isNone) := be_ptr Tryz.underlying75 a xo yo
theorem pn75 (a : Option Addr) (xo yo : Operand) : vBinO Tryz.prog .neq 75 xo yo (.pointer a) (.pointer none) w KV = KV (.bool !a.isNone) := bn_ptr Tryz.underlying75 a xo yo
theorem ld75 (a : Addr) : vLoad Tryz.prog 75 (.pointer (some a)) w KV = ∃ v, w.cell? a = some v ∧ KV v := ld_ptr 75 48 a Tryz.underlying75
theorem sz77 : Tryz.prog.szo 77 = some 1 := by kernel_rfl
theorem ldf77 (a : Addr) : vLoad Tryz.prog 77 (.pointer (some a)) w KV = ∃ v, w.cell? a = some v ∧ KV v := ld_fn 77 _ _ _ a Tryz.underlying77
theorem fe77 (f : Fn) (x y : Array Value) (xo yo : Operand) : vBinO Tryz.prog .eql 77 xo yo (.func f x y) .nilFunc w KV = KV (.bool false) := be_fun Tryz.underlying77 f x y xo yo
theorem sz78 : Tryz.prog.szo 78 = some 2 := by kernel_rfl
theorem ld78 (a : Addr) : vLoad Tryz.prog 78 (.pointer (some a)) w KV = ∃ cs : List Value, (cs.length = 2 ∧ Reads w a cs) ∧ KV (.agg cs.toArray) := ld_st 78 2 a _ Tryz.underlying78 (by kernel_rfl)
theorem bd78 (n0 : Int) (n1 : Int) : vBuild Tryz.prog 78 [(0, .int .i64 n0), (1, .int .i64 n1)] KV = KV (.agg #[.int .i64 n0, .int .i64 n1]) := bd_of (by kernel_rfl)
theorem bz78 : vBuild Tryz.prog 78 [] KV = KV (.agg #[.int .i64 0, .int .i64 0]) := bd_of (by kernel_rfl)
theorem fd78_0 (l : List Value) : vField Tryz.prog 78 (.agg l.toArray) 0 KV = vNth l 0 KV := fd_cell 78 0 l Tryz.underlying78 rfl (by kernel_rfl) (by kernel_rfl) (by kernel_rfl)
theorem fa78_0 (a : Addr) : vFieldAddr Tryz.prog 78 (.pointer (some a)) 0 KV = KV (.pointer (some (a.add 0))) := fa_st 78 0 a (m := 0) Tryz.underlying78 rfl (by kernel_rfl)
theorem fd78_1 (l : List Value) : vField Tryz.prog 78 (.agg l.toArray) 1 KV = vNth l 1 KV := fd_cell 78 1 l Tryz.underlying78 rfl (by kernel_rfl) (by kernel_rfl) (by kernel_rfl)
theorem fa78_1 (a : Addr) : vFieldAddr Tryz.prog 78 (.pointer (some a)) 1 KV = KV (.pointer (some (a.add 1))) := fa_st 78 1 a (m := 0) Tryz.underlying78 rfl (by kernel_rfl)
theorem sz79 : Tryz.prog.szo 79 = some 2 := by kernel_rfl
theorem ld79 (a : Addr) : vLoad Tryz.prog 79 (.pointer (some a)) w KV = ∃ cs : List Value, (cs.length = 2 ∧ Reads w a cs) ∧ KV (.agg cs.toArray) := ld_st 79 2 a _ Tryz.underlying79 (by kernel_rfl)
theorem bd79 (n0 : Int) (n1 : Int) : vBuild Tryz.prog 79 [(0, .int .i64 n0), (1, .int .i64 n1)] KV = KV (.agg #[.int .i64 n0, .int .i64 n1]) := bd_of (by kernel_rfl)
theorem bz79 : vBuild Tryz.prog 79 [] KV = KV (.agg #[.int .i64 0, .int .i64 0]) := bd_of (by kernel_rfl)
theorem fd79_0 (l : List Value) : vField Tryz.prog 79 (.agg l.toArray) 0 KV = vNth l 0 KV := fd_cell 79 0 l Tryz.underlying79 rfl (by kernel_rfl) (by kernel_rfl) (by kernel_rfl)
theorem fa79_0 (a : Addr) : vFieldAddr Tryz.prog 79 (.pointer (some a)) 0 KV = KV (.pointer (some (a.add 0))) := fa_st 79 0 a (m := 0) Tryz.underlying79 rfl (by kernel_rfl)
theorem fd79_1 (l : List Value) : vField Tryz.prog 79 (.agg l.toArray) 1 KV = vNth l 1 KV := fd_cell 79 1 l Tryz.underlying79 rfl (by kernel_rfl) (by kernel_rfl) (by kernel_rfl)
theorem fa79_1 (a : Addr) : vFieldAddr Tryz.prog 79 (.pointer (some a)) 1 KV = KV (.pointer (some (a.add 1))) := fa_st 79 1 a (m := 0) Tryz.underlying79 rfl (by kernel_rfl)
theorem sz80 : Tryz.prog.szo 80 = some 1 := by kernel_rfl
theorem ldf80 (a : Addr) : vLoad Tryz.prog 80 (.pointer (some a)) w KV = ∃ v, w.cell? a = some v ∧ KV v := ld_fn 80 _ _ _ a Tryz.underlying80
theorem fe80 (f : Fn) (x y : Array Value) (xo yo : Operand) : vBinO Tryz.prog .eql 80 xo yo (.func f x y) .nilFunc w KV = KV (.bool false) := be_fun Tryz.underlying80 f x y xo yo
theorem sz81 : Tryz.prog.szo 81 = some 1 := by kernel_rfl
theorem ldf81 (a : Addr) : vLoad Tryz.prog 81 (.pointer (some a)) w KV = ∃ v, w.cell? a = some v ∧ KV v := ld_fn 81 _ _ _ a Tryz.underlying81
theorem fe81 (f : Fn) (x y : Array Value) (xo yo : Operand) : vBinO Tryz.prog .eql 81 xo yo (.func f x y) .nilFunc w KV = KV (.bool false) := be_fun Tryz.underlying81 f x y xo yo
theorem sz82 : Tryz.prog.szo 82 = some 1 := by kernel_rfl
theorem ldf82 (a : Addr) : vLoad Tryz.prog 82 (.pointer (some a)) w KV = ∃ v, w.cell? a = some v ∧ KV v := ld_fn 82 _ _ _ a Tryz.underlying82
theorem fe82 (f : Fn) (x y : Array Value) (xo yo : Operand) : vBinO Tryz.prog .eql 82 xo yo (.func f x y) .nilFunc w KV = KV (.bool false) := be_fun Tryz.underlying82 f x y xo yo
theorem sz83 : Tryz.prog.szo 83 = some 1 := by kernel_rfl
theorem ldf83 (a : Addr) : vLoad Tryz.prog 83 (.pointer (some a)) w KV = ∃ v, w.cell? a = some v ∧ KV v := ld_fn 83 _ _ _ a Tryz.underlying83
theorem fe83 (f : Fn) (x y : Array Value) (xo yo : Operand) : vBinO Tryz.prog .eql 83 xo yo (.func f x y) .nilFunc w KV = KV (.bool false) := be_fun Tryz.underlying83 f x y xo yo
theorem sz84 : Tryz.prog.szo 84 = some 1 := by kernel_rfl
theorem ldf84 (a : Addr) : vLoad Tryz.prog 84 (.pointer (some a)) w KV = ∃ v, w.cell? a = some v ∧ KV v := ld_fn 84 _ _ _ a Tryz.underlying84
theorem fe84 (f : Fn) (x y : Array Value) (xo yo : Operand) : vBinO Tryz.prog .eql 84 xo yo (.func f x y) .nilFunc w KV = KV (.bool false) := be_fun Tryz.underlying84 f x y xo yo
theorem sz85 : Tryz.prog.szo 85 = some 1 := by kernel_rfl
theorem ldf85 (a : Addr) : vLoad Tryz.prog 85 (.pointer (some a)) w KV = ∃ v, w.cell? a = some v ∧ KV v := ld_fn 85 _ _ _ a Tryz.underlying85
theorem fe85 (f : Fn) (x y : Array Value) (xo yo : Operand) : vBinO Tryz.prog .eql 85 xo yo (.func f x y) .nilFunc w KV = KV (.bool false) := be_fun Tryz.underlying85 f x y xo yo
theorem sz86 : Tryz.prog.szo 86 = some 1 := by kernel_rfl
theorem ldf86 (a : Addr) : vLoad Tryz.prog 86 (.pointer (some a)) w KV = ∃ v, w.cell? a = some v ∧ KV v := ld_fn 86 _ _ _ a Tryz.underlying86
theorem fe86 (f : Fn) (x y : Array Value) (xo yo : Operand) : vBinO Tryz.prog .eql 86 xo yo (.func f x y) .nilFunc w KV = KV (.bool false) := be_fun Tryz.underlying86 f x y xo yo
theorem sz88 : Tryz.prog.szo 88 = some 1 := by kernel_rfl
theorem ldf88 (a : Addr) : vLoad Tryz.prog 88 (.pointer (some a)) w KV = ∃ v, w.cell? a = some v ∧ KV v := ld_fn 88 _ _ _ a Tryz.underlying88
theorem fe88 (f : Fn) (x y : Array Value) (xo yo : Operand) : vBinO Tryz.prog .eql 88 xo yo (.func f x y) .nilFunc w KV = KV (.bool false) := be_fun Tryz.underlying88 f x y xo yo
theorem sz89 : Tryz.prog.szo 89 = some 1 := by kernel_rfl
theorem ln89 (a : Option Addr) (n c : Nat) : vLen Tryz.prog 89 (.slice a n c) KV = KV (.int .i64 n) := ln_sl 89 67 a n c Tryz.underlying89
theorem snn89 (a : Option Addr) (n c : Nat) : vSlice Tryz.prog 89 (.slice a n c) none none KV = (n ≤ c ∧ KV (.slice a n c)) := sl_nn 89 67 a n c 1 Tryz.underlying89 (by kernel_rfl)
theorem sln89 (a : Option Addr) (n c : Nat) (k : IntKind) (l : Int) : vSlice Tryz.prog 89 (.slice a n c) (some (.int k l)) none KV = ((0 ≤ l ∧ l ≤ n ∧ n ≤ c) ∧ KV (.slice (if c = l.toNat then a else a.map (·.add (l.toNat * 1))) (n - l.toNat) (c - l.toNat))) := sl_ln 89 67 a n c 1 k l Tryz.underlying89 (by kernel_rfl)
theorem snh89 (a : Option Addr) (n c : Nat) (k : IntKind) (l : Int) : vSlice Tryz.prog 89 (.slice a n c) none (some (.int k l)) KV = ((0 ≤ l ∧ l ≤ c) ∧ KV (.slice a l.toNat c)) := sl_nh 89 67 a n c 1 k l Tryz.underlying89 (by kernel_rfl)
theorem slh89 (a : Option Addr) (n c : Nat) (k k' : IntKind) (l m : Int) : vSlice Tryz.prog 89 (.slice a n c) (some (.int k l)) (some (.int k' m)) KV = ((0 ≤ l ∧ l ≤ m ∧ m ≤ c) ∧ KV (.slice (if c = l.toNat then a else a.map (·.add (l.toNat * 1))) (m.toNat - l.toNat) (c - l.toNat))) := sl_lh 89 67 a n c 1 k k' l m Tryz.underlying89 (by kernel_rfl)
theorem ia89 (a : Addr) (n c : Nat) (k : IntKind) (i : Int) : vIndexAddr Tryz.prog 89 (.slice (some a) n c) (.int k i) KV = ((0 ≤ i ∧ i < n) ∧ KV (.pointer (some (a.add (i.toNat * 1))))) := ia_sl 89 67 a n c 1 k i Tryz.underlying89 (by kernel_rfl)
theorem ld89 (a : Addr) : vLoad Tryz.prog 89 (.pointer (some a)) w KV = ∃ v, w.cell? a = some v ∧ KV v := ld_sl 89 67 a Tryz.underlying89
theorem sz91 : Tryz.prog.szo 91 = some 1 := by kernel_rfl
theorem ldf91 (a : Addr) : vLoad Tryz.prog 91 (.pointer (some a)) w KV = ∃ v, w.cell? a = some v ∧ KV v := ld_fn 91 _ _ _ a Tryz.underlying91
theorem fe91 (f : Fn) (x y : Array Value) (xo yo : Operand) : vBinO Tryz.prog .eql 91 xo yo (.func f x y) .nilFunc w KV = KV (.bool false) := be_fun Tryz.underlying91 f x y xo yo
theorem sz92 : Tryz.prog.szo 92 = some 1 := by kernel_rfl
theorem ldf92 (a : Addr) : vLoad Tryz.prog 92 (.pointer (some a)) w KV = ∃ v, w.cell? a = some v ∧ KV v := ld_fn 92 _ _ _ a Tryz.underlying92
theorem fe92 (f : Fn) (x y : Array Value) (xo yo : Operand) : vBinO Tryz.prog .eql 92 xo yo (.func f x y) .nilFunc w KV = KV (.bool false) := be_fun Tryz.underlying92 f x y xo yo
theorem sz93 : Tryz.prog.szo 93 = some 1 := by kernel_rfl
theorem ldf93 (a : Addr) : vLoad Tryz.prog 93 (.pointer (some a)) w KV = ∃ v, w.cell? a = some v ∧ KV v := ld_fn 93 _ _ _ a Tryz.underlying93
theorem fe93 (f : Fn) (x y : Array Value) (xo yo : Operand) : vBinO Tryz.prog .eql 93 xo yo (.func f x y) .nilFunc w KV = KV (.bool false) := be_fun Tryz.underlying93 f x y xo yo
theorem sz95 : Tryz.prog.szo 95 = some 1 := by kernel_rfl
theorem ldf95 (a : Addr) : vLoad Tryz.prog 95 (.pointer (some a)) w KV = ∃ v, w.cell? a = some v ∧ KV v := ld_fn 95 _ _ _ a Tryz.underlying95
theorem fe95 (f : Fn) (x y : Array Value) (xo yo : Operand) : vBinO Tryz.prog .eql 95 xo yo (.func f x y) .nilFunc w KV = KV (.bool false) := be_fun Tryz.underlying95 f x y xo yo
theorem sz96 : Tryz.prog.szo 96 = some 1 := by kernel_rfl
theorem ldf96 (a : Addr) : vLoad Tryz.prog 96 (.pointer (some a)) w KV = ∃ v, w.cell? a = some v ∧ KV v := ld_fn 96 _ _ _ a Tryz.underlying96
theorem fe96 (f : Fn) (x y : Array Value) (xo yo : Operand) : vBinO Tryz.prog .eql 96 xo yo (.func f x y) .nilFunc w KV = KV (.bool false) := be_fun Tryz.underlying96 f x y xo yo
theorem sz97 : Tryz.prog.szo 97 = some 1 := by kernel_rfl
theorem ldf97 (a : Addr) : vLoad Tryz.prog 97 (.pointer (some a)) w KV = ∃ v, w.cell? a = some v ∧ KV v := ld_fn 97 _ _ _ a Tryz.underlying97
theorem fe97 (f : Fn) (x y : Array Value) (xo yo : Operand) : vBinO Tryz.prog .eql 97 xo yo (.func f x y) .nilFunc w KV = KV (.bool false) := be_fun Tryz.underlying97 f x y xo yo
theorem sz98 : Tryz.prog.szo 98 = some 1 := by kernel_rfl
theorem ln98 (a : Option Addr) (n c : Nat) : vLen Tryz.prog 98 (.slice a n c) KV = KV (.int .i64 n) := ln_sl 98 189 a n c Tryz.underlying98
theorem snn98 (a : Option Addr) (n c : Nat) : vSlice Tryz.prog 98 (.slice a n c) none none KV = (n ≤ c ∧ KV (.slice a n c)) := sl_nn 98 189 a n c 1 Tryz.underlying98 (by kernel_rfl)
theorem sln98 (a : Option Addr) (n c : Nat) (k : IntKind) (l : Int) : vSlice Tryz.prog 98 (.slice a n c) (some (.int k l)) none KV = ((0 ≤ l ∧ l ≤ n ∧ n ≤ c) ∧ KV (.slice (if c = l.toNat then a else a.map (·.add (l.toNat * 1))) (n - l.toNat) (c - l.toNat))) := sl_ln 98 189 a n c 1 k l Tryz.underlying98 (by kernel_rfl)
theorem snh98 (a : Option Addr) (n c : Nat) (k : IntKind) (l : Int) : vSlice Tryz.prog 98 (.slice a n c) none (some (.int k l)) KV = ((0 ≤ l ∧ l ≤ c) ∧ KV (.slice a l.toNat c)) := sl_nh 98 189 a n c 1 k l Tryz.underlying98 (by kernel_rfl)
theorem slh98 (a : Option Addr) (n c : Nat) (k k' : IntKind) (l m : Int) : vSlice Tryz.prog 98 (.slice a n c) (some (.int k l)) (some (.int k' m)) KV = ((0 ≤ l ∧ l ≤ m ∧ m ≤ c) ∧ KV (.slice (if c = l.toNat then a else a.map (·.add (l.toNat * 1))) (m.toNat - l.toNat) (c - l.toNat))) := sl_lh 98 189 a n c 1 k k' l m Tryz.underlying98 (by kernel_rfl)
theorem ia98 (a : Addr) (n c : Nat) (k : IntKind) (i : Int) : vIndexAddr Tryz.prog 98 (.slice (some a) n c) (.int k i) KV = ((0 ≤ i ∧ i < n) ∧ KV (.pointer (some (a.add (i.toNat * 1))))) := ia_sl 98 189 a n c 1 k i Tryz.underlying98 (by kernel_rfl)
theorem ld98 (a : Addr) : vLoad Tryz.prog 98 (.pointer (some a)) w KV = ∃ v, w.cell? a = some v ∧ KV v := ld_sl 98 189 a Tryz.underlying98
theorem sz99 : Tryz.prog.szo 99 = some 1 := by kernel_rfl
theorem ln99 (a : Option Addr) (n c : Nat) : vLen Tryz.prog 99 (.slice a n c) KV = KV (.int .i64 n) := ln_sl 99 4 a n c Tryz.underlying99
theorem snn99 (a : Option Addr) (n c : Nat) : vSlice Tryz.prog 99 (.slice a n c) none none KV = (n ≤ c ∧ KV (.slice a n c)) := sl_nn 99 4 a n c 1 Tryz.underlying99 (by kernel_rfl)
theorem sln99 (a : Option Addr) (n c : Nat) (k : IntKind) (l : Int) : vSlice Tryz.prog 99 (.slice a n c) (some (.int k l)) none KV = ((0 ≤ l ∧ l ≤ n ∧ n ≤ c) ∧ KV (.slice (if c = l.toNat then a else a.map (·.add (l.toNat * 1))) (n - l.toNat) (c - l.toNat))) := sl_ln 99 4 a n c 1 k l Tryz.underlying99 (by kernel_rfl)
theorem snh99 (a : Option Addr) (n c : Nat) (k : IntKind) (l : Int) : vSlice Tryz.prog 99 (.slice a n c) none (some (.int k l)) KV = ((0 ≤ l ∧ l ≤ c) ∧ KV (.slice a l.toNat c)) := sl_nh 99 4 a n c 1 k l Tryz.underlying99 (by kernel_rfl)
theorem slh99 (a : Option Addr) (n c : Nat) (k k' : IntKind) (l m : Int) : vSlice Tryz.prog 99 (.slice a n c) (some (.int k l)) (some (.int k' m)) KV = ((0 ≤ l ∧ l ≤ m ∧ m ≤ c) ∧ KV (.slice (if c = l.toNat then a else a.map (·.add (l.toNat * 1))) (m.toNat - l.toNat) (c - l.toNat))) := sl_lh 99 4 a n c 1 k k' l m Tryz.underlying99 (by kernel_rfl)
theorem ia99 (a : Addr) (n c : Nat) (k : IntKind) (i : Int) : vIndexAddr Tryz.prog 99 (.slice (some a) n c) (.int k i) KV = ((0 ≤ i ∧ i < n) ∧ KV (.pointer (some (a.add (i.toNat * 1))))) := ia_sl 99 4 a n c 1 k i Tryz.underlying99 (by kernel_rfl)
theorem ld99 (a : Addr) : vLoad Tryz.prog 99 (.pointer (some a)) w KV = ∃ v, w.cell? a = some v ∧ KV v := ld_sl 99 4 a Tryz.underlying99
theorem sz100 : Tryz.prog.szo 100 = some 2 := by kernel_rfl
theorem ld100 (a : Addr) : vLoad Tryz.prog 100 (.pointer (some a)) w KV = ∃ cs : List Value, (cs.length = 2 ∧ Reads w a cs) ∧ KV (.agg cs.toArray) := ld_st 100 2 a _ Tryz.underlying100 (by kernel_rfl)
theorem bd100 (n0 : Int) (a1 : Option Addr) (n1 c1 : Nat) : vBuild Tryz.prog 100 [(0, .int .i64 n0), (1, .slice a1 n1 c1)] KV = KV (.agg #[.int .i64 n0, .slice a1 n1 c1]) := bd_of (by kernel_rfl)
theorem bz100 : vBuild Tryz.prog 100 [] KV = KV (.agg #[.int .i64 0, .slice none 0 0]) := bd_of (by kernel_rfl)
theorem fd100_0 (l : List Value) : vField Tryz.prog 100 (.agg l.toArray) 0 KV = vNth l 0 KV := fd_cell 100 0 l Tryz.underlying100 rfl (by kernel_rfl) (by kernel_rfl) (by kernel_rfl)
theorem fa100_0 (a : Addr) : vFieldAddr Tryz.prog 100 (.pointer (some a)) 0 KV = KV (.pointer (some (a.add 0))) := fa_st 100 0 a (m := 0) Tryz.underlying100 rfl (by kernel_rfl)
theorem fd100_1 (l : List Value) : vField Tryz.prog 100 (.agg l.toArray) 1 KV = vNth l 1 KV := fd_cell 100 1 l Tryz.underlying100 rfl (by kernel_rfl) (by kernel_rfl) (by kernel_rfl)
theorem fa100_1 (a : Addr) : vFieldAddr Tryz.prog 100 (.pointer (some a)) 1 KV = KV (.pointer (some (a.add 1))) := fa_st 100 1 a (m := 0) Tryz.underlying100 rfl (by kernel_rfl)
theorem sz101 : Tryz.prog.szo 101 = some 2 := by kernel_rfl
theorem ld101 (a : Addr) : vLoad Tryz.prog 101 (.pointer (some a)) w KV = ∃ cs : List Value, (cs.length = 2 ∧ Reads w a cs) ∧ KV (.agg cs.toArray) := ld_st 101 2 a _ Tryz.underlying101 (by kernel_rfl)
theorem bd101 (n0 : Int) (a1 : Option Addr) (n1 c1 : Nat) : vBuild Tryz.prog 101 [(0, .int .i64 n0), (1, .slice a1 n1 c1)] KV = KV (.agg #[.int .i64 n0, .slice a1 n1 c1]) := bd_of (by kernel_rfl)
theorem bz101 : vBuild Tryz.prog 101 [] KV = KV (.agg #[.int .i64 0, .slice none 0 0]) := bd_of (by kernel_rfl)
theorem fd101_0 (l : List Value) : vField Tryz.prog 101 (.agg l.toArray) 0 KV = vNth l 0 KV := fd_cell 101 0 l Tryz.underlying101 rfl (by kernel_rfl) (by kernel_rfl) (by kernel_rfl)
theorem fa101_0 (a : Addr) : vFieldAddr Tryz.prog 101 (.pointer (some a)) 0 KV = KV (.pointer (some (a.add 0))) := fa_st 101 0 a (m := 0) Tryz.underlying101 rfl (by kernel_rfl)
theorem fd101_1 (l : List Value) : vField Tryz.prog 101 (.agg l.toArray) 1 KV = vNth l 1 KV := fd_cell 101 1 l Tryz.underlying101 rfl (by kernel_rfl) (by kernel_rfl) (by kernel_rfl)
theorem fa101_1 (a : Addr) : vFieldAddr Tryz.prog 101 (.pointer (some a)) 1 KV = KV (.pointer (some (a.add 1))) := fa_st 101 1 a (m := 0) Tryz.underlying101 rfl (by kernel_rfl)
theorem sz102 : Tryz.prog.szo 102 = some 8 := by kernel_rfl
theorem ld102 (a : Addr) : vLoad Tryz.prog 102 (.pointer (some a)) w KV = ∃ cs : List Value, (cs.length = 8 ∧ Reads w a cs) ∧ KV (.agg cs.toArray) := ld_st 102 8 a _ Tryz.underlying102 (by kernel_rfl)
theorem fd102_0 (l : List Value) : vField Tryz.prog 102 (.agg l.toArray) 0 KV = vNth l 0 KV := fd_cell 102 0 l Tryz.underlying102 rfl (by kernel_rfl) (by kernel_rfl) (by kernel_rfl)
theorem fa102_0 (a : Addr) : vFieldAddr Tryz.prog 102 (.pointer (some a)) 0 KV = KV (.pointer (some (a.add 0))) := fa_st 102 0 a (m := 0) Tryz.underlying102 rfl (by kernel_rfl)
theorem fd102_1 (l : List Value) : vField Tryz.prog 102 (.agg l.toArray) 1 KV = vNth l 1 KV := fd_cell 102 1 l Tryz.underlying102 rfl (by kernel_rfl) (by kernel_rfl) (by kernel_rfl)
theorem fa102_1 (a : Addr) : vFieldAddr Tryz.prog 102 (.pointer (some a)) 1 KV = KV (.pointer (some (a.add 1))) := fa_st 102 1 a (m := 0) Tryz.underlying102 rfl (by kernel_rfl)
theorem fd102_2 (l : List Value) : vField Tryz.prog 102 (.agg l.toArray) 2 KV = vNth l 2 KV := fd_cell 102 2 l Tryz.underlying102 rfl (by kernel_rfl) (by kernel_rfl) (by kernel_rfl)
theorem fa102_2 (a : Addr) : vFieldAddr Tryz.prog 102 (.pointer (some a)) 2 KV = KV (.pointer (some (a.add 2))) := fa_st 102 2 a (m := 0) Tryz.underlying102 rfl (by kernel_rfl)
theorem fd102_3 (l : List Value) : vField Tryz.prog 102 (.agg l.toArray) 3 KV = vNth l 3 KV := fd_cell 102 3 l Tryz.underlying102 rfl (by kernel_rfl) (by kernel_rfl) (by kernel_rfl)
theorem fa102_3 (a : Addr) : vFieldAddr Tryz.prog 102 (.pointer (some a)) 3 KV = KV (.pointer (some (a.add 3))) := fa_st 102 3 a (m := 0) Tryz.underlying102 rfl (by kernel_rfl)
theorem fd102_4 (l : List Value) : vField Tryz.prog 102 (.agg l.toArray) 4 KV = KV (.agg ((l.take 6).drop 4).toArray) := fd_agg 102 4 l 2 Tryz.underlying102 rfl (by kernel_rfl) (by kernel_rfl) (by kernel_rfl)
theorem fa102_4 (a : Addr) : vFieldAddr Tryz.prog 102 (.pointer (some a)) 4 KV = KV (.pointer (some (a.add 4))) := fa_st 102 4 a (m := 1) Tryz.underlying102 rfl (by kernel_rfl)
theorem fd102_5 (l : List Value) : vField Tryz.prog 102 (.agg l.toArray) 5 KV = vNth l 6 KV := fd_cell 102 5 l Tryz.underlying102 rfl (by kernel_rfl) (by kernel_rfl) (by kernel_rfl)
theorem fa102_5 (a : Addr) : vFieldAddr Tryz.prog 102 (.pointer (some a)) 5 KV = KV (.pointer (some (a.add 6))) := fa_st 102 5 a (m := 0) Tryz.underlying102 rfl (by kernel_rfl)
theorem fd102_6 (l : List Value) : vField Tryz.prog 102 (.agg l.toArray) 6 KV = vNth l 7 KV := fd_cell 102 6 l Tryz.underlying102 rfl (by kernel_rfl) (by kernel_rfl) (by kernel_rfl)
theorem fa102_6 (a : Addr) : vFieldAddr Tryz.prog 102 (.pointer (some a)) 6 KV = KV (.pointer (some (a.add 7))) := fa_st 102 6 a (m := 0) Tryz.underlying102 rfl (by kernel_rfl)
theorem sz103 : Tryz.prog.szo 103 = some 8 := by kernel_rfl
theorem ld103 (a : Addr) : vLoad Tryz.prog 103 (.pointer (some a)) w KV = ∃ cs : List Value, (cs.length = 8 ∧ Reads w a cs) ∧ KV (.agg cs.toArray) := ld_st 103 8 a _ Tryz.underlying103 (by kernel_rfl)
theorem fd103_0 (l : List Value) : vField Tryz.prog 103 (.agg l.toArray) 0 KV = vNth l 0 KV := fd_cell 103 0 l Tryz.underlying103 rfl (by kernel_rfl) (by kernel_rfl) (by kernel_rfl)
theorem fa103_0 (a : Addr) : vFieldAddr Tryz.prog 103 (.pointer (some a)) 0 KV = KV (.pointer (some (a.add 0))) := fa_st 103 0 a (m := 0) Tryz.underlying103 rfl (by kernel_rfl)
theorem fd103_1 (l : List Value) : vField Tryz.prog 103 (.agg l.toArray) 1 KV = vNth l 1 KV := fd_cell 103 1 l Tryz.underlying103 rfl (by kernel_rfl) (by kernel_rfl) (by kernel_rfl)
theorem fa103_1 (a : Addr) : vFieldAddr Tryz.prog 103 (.pointer (some a)) 1 KV = KV (.pointer (some (a.add 1))) := fa_st 103 1 a (m := 0) Tryz.underlying103 rfl (by kernel_rfl)
theorem fd103_2 (l : List Value) : vField Tryz.prog 103 (.agg l.toArray) 2 KV = vNth l 2 KV := fd_cell 103 2 l Tryz.underlying103 rfl (by kernel_rfl) (by kernel_rfl) (by kernel_rfl)
theorem fa103_2 (a : Addr) : vFieldAddr Tryz.prog 103 (.pointer (some a)) 2 KV = KV (.pointer (some (a.add 2))) := fa_st 103 2 a (m := 0) Tryz.underlying103 rfl (by kernel_rfl)
theorem fd103_3 (l : List Value) : vField Tryz.prog 103 (.agg l.toArray) 3 KV = vNth l 3 KV := fd_cell 103 3 l Tryz.underlying103 rfl (by kernel_rfl) (by kernel_rfl) (by kernel_rfl)
theorem fa103_3 (a : Addr) : vFieldAddr Tryz.prog 103 (.pointer (some a)) 3 KV = KV (.pointer (some (a.add 3))) := fa_st 103 3 a (m := 0) Tryz.underlying103 rfl (by kernel_rfl)
theorem fd103_4 (l : List Value) : vField Tryz.prog 103 (.agg l.toArray) 4 KV = KV (.agg ((l.take 6).drop 4).toArray) := fd_agg 103 4 l 2 Tryz.underlying103 rfl (by kernel_rfl) (by kernel_rfl) (by kernel_rfl)
theorem fa103_4 (a : Addr) : vFieldAddr Tryz.prog 103 (.pointer (some a)) 4 KV = KV (.pointer (some (a.add 4))) := fa_st 103 4 a (m := 1) Tryz.underlying103 rfl (by kernel_rfl)
theorem fd103_5 (l : List Value) : vField Tryz.prog 103 (.agg l.toArray) 5 KV = vNth l 6 KV := fd_cell 103 5 l Tryz.underlying103 rfl (by kernel_rfl) (by kernel_rfl) (by kernel_rfl)
theorem fa103_5 (a : Addr) : vFieldAddr Tryz.prog 103 (.pointer (some a)) 5 KV = KV (.pointer (some (a.add 6))) := fa_st 103 5 a (m := 0) Tryz.underlying103 rfl (by kernel_rfl)
theorem fd103_6 (l : List Value) : vField Tryz.prog 103 (.agg l.toArray) 6 KV = vNth l 7 KV := fd_cell 103 6 l Tryz.underlying103 rfl (by kernel_rfl) (by kernel_rfl) (by kernel_rfl)
theorem fa103_6 (a : Addr) : vFieldAddr Tryz.prog 103 (.pointer (some a)) 6 KV = KV (.pointer (some (a.add 7))) := fa_st 103 6 a (m := 0) Tryz.underlying103 rfl (by kernel_rfl)
theorem sz104 : Tryz.prog.szo 104 = some 2 := by kernel_rfl
theorem ld104 (a : Addr) : vLoad Tryz.prog 104 (.pointer (some a)) w KV = ∃ cs : List Value, (cs.length = 2 ∧ Reads w a cs) ∧ KV (.agg cs.toArray) := ld_ar 104 2 2 9 a Tryz.underlying104 (by kernel_rfl)
theorem ln104 (v : Value) : vLen Tryz.prog 104 v KV = KV (.int .i64 ((2 : Nat) : Int)) := ln_ar 104 v Tryz.underlying104
theorem ixa104 (l : List Value) (k : IntKind) (i : Int) : vIndex Tryz.prog 104 (.agg l.toArray) (.int k i) KV = ((0 ≤ i ∧ i < ((2 : Nat) : Int)) ∧ vNth l i.toNat KV) := ix_agg 104 l k i Tryz.underlying104 (by kernel_rfl) (by kernel_rfl) (by kernel_rfl)
theorem ia104 (a : Addr) (k : IntKind) (i : Int) : vIndexAddr Tryz.prog 104 (.pointer (some a)) (.int k i) KV = ((0 ≤ i ∧ i < ((2 : Nat) : Int)) ∧ KV (.pointer (some (a.add (i.toNat * 1))))) := ia_ar 104 9 a 2 1 k i Tryz.underlying104 (by kernel_rfl)
theorem sz105 : Tryz.prog.szo 105 = some 2 := by kernel_rfl
theorem ld105 (a : Addr) : vLoad Tryz.prog 105 (.pointer (some a)) w KV = ∃ cs : List Value, (cs.length = 2 ∧ Reads w a cs) ∧ KV (.agg cs.toArray) := ld_ar 105 2 2 3 a Tryz.underlying105 (by kernel_rfl)
theorem ln105 (v : Value) : vLen Tryz.prog 105 v KV = KV (.int .i64 ((2 : Nat) : Int)) := ln_ar 105 v Tryz.underlying105
theorem ixa105 (l : List Value) (k : IntKind) (i : Int) : vIndex Tryz.prog 105 (.agg l.toArray) (.int k i) KV = ((0 ≤ i ∧ i < ((2 : Nat) : Int)) ∧ vNth l i.toNat KV) := ix_agg 105 l k i Tryz.underlying105 (by kernel_rfl) (by kernel_rfl) (by kernel_rfl)
theorem ia105 (a : Addr) (k : IntKind) (i : Int) : vIndexAddr Tryz.prog 105 (.pointer (some a)) (.int k i) KV = ((0 ≤ i ∧ i < ((2 : Nat) : Int)) ∧ KV (.pointer (some (a.add (i.toNat * 1))))) := ia_ar 105 3 a 2 1 k i Tryz.underlying105 (by kernel_rfl)
theorem sz106 : Tryz.prog.szo 106 = some 10 := by kernel_rfl
theorem ld106 (a : Addr) : vLoad Tryz.prog 106 (.pointer (some a)) w KV = ∃ cs : List Value, (cs.length = 10 ∧ Reads w a cs) ∧ KV (.agg cs.toArray) := ld_st 106 10 a _ Tryz.underlying106 (by kernel_rfl)
theorem fd106_0 (l : List Value) : vField Tryz.prog 106 (.agg l.toArray) 0 KV = vNth l 0 KV := fd_cell 106 0 l Tryz.underlying106 rfl (by kernel_rfl) (by kernel_rfl) (by kernel_rfl)
theorem fa106_0 (a : Addr) : vFieldAddr Tryz.prog 106 (.pointer (some a)) 0 KV = KV (.pointer (some (a.add 0))) := fa_st 106 0 a (m := 0) Tryz.underlying106 rfl (by kernel_rfl)
theorem fd106_1 (l : List Value) : vField Tryz.prog 106 (.agg l.toArray) 1 KV = vNth l 1 KV := fd_cell 106 1 l Tryz.underlying106 rfl (by kernel_rfl) (by kernel_rfl) (by kernel_rfl)
theorem fa106_1 (a : Addr) : vFieldAddr Tryz.prog 106 (.pointer (some a)) 1 KV = KV (.pointer (some (a.add 1))) := fa_st 106 1 a (m := 0) Tryz.underlying106 rfl (by kernel_rfl)
theorem fd106_2 (l : List Value) : vField Tryz.prog 106 (.agg l.toArray) 2 KV = vNth l 2 KV := fd_cell 106 2 l Tryz.underlying106 rfl (by kernel_rfl) (by kernel_rfl) (by kernel_rfl)
theorem fa106_2 (a : Addr) : vFieldAddr Tryz.prog 106 (.pointer (some a)) 2 KV = KV (.pointer (some (a.add 2))) := fa_st 106 2 a (m := 0) Tryz.underlying106 rfl (by kernel_rfl)
theorem fd106_3 (l : List Value) : vField Tryz.prog 106 (.agg l.toArray) 3 KV = vNth l 3 KV := fd_cell 106 3 l Tryz.underlying106 rfl (by kernel_rfl) (by kernel_rfl) (by kernel_rfl)
theorem fa106_3 (a : Addr) : vFieldAddr Tryz.prog 106 (.pointer (some a)) 3 KV = KV (.pointer (some (a.add 3))) := fa_st 106 3 a (m := 0) Tryz.underlying106 rfl (by kernel_rfl)
theorem fd106_4 (l : List Value) : vField Tryz.prog 106 (.agg l.toArray) 4 KV = vNth l 4 KV := fd_cell 106 4 l Tryz.underlying106 rfl (by kernel_rfl) (by kernel_rfl) (by kernel_rfl)
theorem fa106_4 (a : Addr) : vFieldAddr Tryz.prog 106 (.pointer (some a)) 4 KV = KV (.pointer (some (a.add 4))) := fa_st 106 4 a (m := 0) Tryz.underlying106 rfl (by kernel_rfl)
theorem fd106_5 (l : List Value) : vField Tryz.prog 106 (.agg l.toArray) 5 KV = vNth l 5 KV := fd_cell 106 5 l Tryz.underlying106 rfl (by kernel_rfl) (by kernel_rfl) (by kernel_rfl)
theorem fa106_5 (a : Addr) : vFieldAddr Tryz.prog 106 (.pointer (some a)) 5 KV = KV (.pointer (some (a.add 5))) := fa_st 106 5 a (m := 0) Tryz.underlying106 rfl (by kernel_rfl)
theorem fd106_6 (l : List Value) : vField Tryz.prog 106 (.agg l.toArray) 6 KV = KV (.agg ((l.take 8).drop 6).toArray) := fd_agg 106 6 l 2 Tryz.underlying106 rfl (by kernel_rfl) (by kernel_rfl) (by kernel_rfl)
theorem fa106_6 (a : Addr) : vFieldAddr Tryz.prog 106 (.pointer (some a)) 6 KV = KV (.pointer (some (a.add 6))) := fa_st 106 6 a (m := 1) Tryz.underlying106 rfl (by kernel_rfl)
theorem fd106_7 (l : List Value) : vField Tryz.prog 106 (.agg l.toArray) 7 KV = KV (.agg ((l.take 10).drop 8).toArray) := fd_agg 106 7 l 2 Tryz.underlying106 rfl (by kernel_rfl) (by kernel_rfl) (by kernel_rfl)
theorem fa106_7 (a : Addr) : vFieldAddr Tryz.prog 106 (.pointer (some a)) 7 KV = KV (.pointer (some (a.add 8))) := fa_st 106 7 a (m := 1) Tryz.underlying106 rfl (by kernel_rfl)
theorem sz107 : Tryz.prog.szo 107 = some 10 := by kernel_rfl
theorem ld107 (a : Addr) : vLoad Tryz.prog 107 (.pointer (some a)) w KV = ∃ cs : List Value, (cs.length = 10 ∧ Reads w a cs) ∧ KV (.agg cs.toArray) := ld_st 107 10 a _ Tryz.underlying107 (by kernel_rfl)
theorem fd107_0 (l : List Value) : vField Tryz.prog 107 (.agg l.toArray) 0 KV = vNth l 0 KV := fd_cell 107 0 l Tryz.underlying107 rfl (by kernel_rfl) (by kernel_rfl) (by kernel_rfl)
theorem fa107_0 (a : Addr) : vFieldAddr Tryz.prog 107 (.pointer (some a)) 0 KV = KV (.pointer (some (a.add 0))) := fa_st 107 0 a (m := 0) Tryz.underlying107 rfl (by kernel_rfl)
theorem fd107_1 (l : List Value) : vField Tryz.prog 107 (.agg l.toArray) 1 KV = vNth l 1 KV := fd_cell 107 1 l Tryz.underlying107 rfl (by kernel_rfl) (by kernel_rfl) (by kernel_rfl)
theorem fa107_1 (a : Addr) : vFieldAddr Tryz.prog 107 (.pointer (some a)) 1 KV = KV (.pointer (some (a.add 1))) := fa_st 107 1 a (m := 0) Tryz.underlying107 rfl (by kernel_rfl)
theorem fd107_2 (l : List Value) : vField Tryz.prog 107 (.agg l.toArray) 2 KV = vNth l 2 KV := fd_cell 107 2 l Tryz.underlying107 rfl (by kernel_rfl) (by kernel_rfl) (by kernel_rfl)
theorem fa107_2 (a : Addr) : vFieldAddr Tryz.prog 107 (.pointer (some a)) 2 KV = KV (.pointer (some (a.add 2))) := fa_st 107 2 a (m := 0) Tryz.underlying107 rfl (by kernel_rfl)
theorem fd107_3 (l : List Value) : vField Tryz.prog 107 (.agg l.toArray) 3 KV = vNth l 3 KV := fd_cell 107 3 l Tryz.underlying107 rfl (by kernel_rfl) (by kernel_rfl) (by kernel_rfl)
theorem fa107_3 (a : Addr) : vFieldAddr Tryz.prog 107 (.pointer (some a)) 3 KV = KV (.pointer (some (a.add 3))) := fa_st 107 3 a (m := 0) Tryz.underlying107 rfl (by kernel_rfl)
theorem fd107_4 (l : List Value) : vField Tryz.prog 107 (.agg l.toArray) 4 KV = vNth l 4 KV := fd_cell 107 4 l Tryz.underlying107 rfl (by kernel_rfl) (by kernel_rfl) (by kernel_rfl)
theorem fa107_4 (a : Addr) : vFieldAddr Tryz.prog 107 (.pointer (some a)) 4 KV = KV (.pointer (some (a.add 4))) := fa_st 107 4 a (m := 0) Tryz.underlying107 rfl (by kernel_rfl)
theorem fd107_5 (l : List Value) : vField Tryz.prog 107 (.agg l.toArray) 5 KV = vNth l 5 KV := fd_cell 107 5 l Tryz.underlying107 rfl (by kernel_rfl) (by kernel_rfl) (by kernel_rfl)
theorem fa107_5 (a : Addr) : vFieldAddr Tryz.prog 107 (.pointer (some a)) 5 KV = KV (.pointer (some (a.add 5))) := fa_st 107 5 a (m := 0) Tryz.underlying107 rfl (by kernel_rfl)
theorem fd107_6 (l : List Value) : vField Tryz.prog 107 (.agg l.toArray) 6 KV = KV (.agg ((l.take 8).drop 6).toArray) := fd_agg 107 6 l 2 Tryz.underlying107 rfl (by kernel_rfl) (by kernel_rfl) (by kernel_rfl)
theorem fa107_6 (a : Addr) : vFieldAddr Tryz.prog 107 (.pointer (some a)) 6 KV = KV (.pointer (some (a.add 6))) := fa_st 107 6 a (m := 1) Tryz.underlying107 rfl (by kernel_rfl)
theorem fd107_7 (l : List Value) : vField Tryz.prog 107 (.agg l.toArray) 7 KV = KV (.agg ((l.take 10).drop 8).toArray) := fd_agg 107 7 l 2 Tryz.underlying107 rfl (by kernel_rfl) (by kernel_rfl) (by kernel_rfl)
theorem fa107_7 (a : Addr) : vFieldAddr Tryz.prog 107 (.pointer (some a)) 7 KV = KV (.pointer (some (a.add 8))) := fa_st 107 7 a (m := 1) Tryz.underlying107 rfl (by kernel_rfl)
theorem sz109 : Tryz.prog.szo 109 = some 1 := by kernel_rfl
theorem ldf109 (a : Addr) : vLoad Tryz.prog 109 (.pointer (some a)) w KV = ∃ v, w.cell? a = some v ∧ KV v := ld_fn 109 _ _ _ a Tryz.underlying109
theorem fe109 (f : Fn) (x y : Array Value) (xo yo : Operand) : vBinO Tryz.prog .eql 109 xo yo (.func f x y) .nilFunc w KV = KV (.bool false) := be_fun Tryz.underlying109 f x y xo yo
theorem sz110 : Tryz.prog.szo 110 = some 1 := by kernel_rfl
theorem ln110 (a : Option Addr) (n c : Nat) : vLen Tryz.prog 110 (.slice a n c) KV = KV (.int .i64 n) := ln_sl 110 114 a n c Tryz.underlying110
theorem snn110 (a : Option Addr) (n c : Nat) : vSlice Tryz.prog 110 (.slice a n c) none none KV = (n ≤ c ∧ KV (.slice a n c)) := sl_nn 110 114 a n c 2 Tryz.underlying110 (by kernel_rfl)
theorem sln110 (a : Option Addr) (n c : Nat) (k : IntKind) (l : Int) : vSlice Tryz.prog 110 (.slice a n c) (some (.int k l)) none KV = ((0 ≤ l ∧ l ≤ n ∧ n ≤ c) ∧ KV (.slice (if c = l.toNat then a else a.map (·.add (l.toNat * 2))) (n - l.toNat) (c - l.toNat))) := sl_ln 110 114 a n c 2 k l Tryz.underlying110 (by kernel_rfl)
theorem snh110 (a : Option Addr) (n c : Nat) (k : IntKind) (l : Int) : vSlice Tryz.prog 110 (.slice a n c) none (some (.int k l)) KV = ((0 ≤ l ∧ l ≤ c) ∧ KV (.slice a l.toNat c)) := sl_nh 110 114 a n c 2 k l Tryz.underlying110 (by kernel_rfl)
theorem slh110 (a : Option Addr) (n c : Nat) (k k' : IntKind) (l m : Int) : vSlice Tryz.prog 110 (.slice a n c) (some (.int k l)) (some (.int k' m)) KV = ((0 ≤ l ∧ l ≤ m ∧ m ≤ c) ∧ KV (.slice (if c = l.toNat then a else a.map (·.add (l.toNat * 2))) (m.toNat - l.toNat) (c - l.toNat))) := sl_lh 110 114 a n c 2 k k' l m Tryz.underlying110 (by kernel_rfl)
theorem ia110 (a : Addr) (n c : Nat) (k : IntKind) (i : Int) : vIndexAddr Tryz.prog 110 (.slice (some a) n c) (.int k i) KV = ((0 ≤ i ∧ i < n) ∧ KV (.pointer (some (a.add (i.toNat * 2))))) := ia_sl 110 114 a n c 2 k i Tryz.underlying110 (by kernel_rfl)
theorem ld110 (a : Addr) : vLoad Tryz.prog 110 (.pointer (some a)) w KV = ∃ v, w.cell? a = some v ∧ KV v := ld_sl 110 114 a Tryz.underlying110
theorem sz112 : Tryz.prog.szo 112 = some 1 := by kernel_rfl
theorem ldf112 (a : Addr) : vLoad Tryz.prog 112 (.pointer (some a)) w KV = ∃ v, w.cell? a = some v ∧ KV v := ld_fn 112 _ _ _ a Tryz.underlying112
theorem fe112 (f : Fn) (x y : Array Value) (xo yo : Operand) : vBinO Tryz.prog .eql 112 xo yo (.func f x y) .nilFunc w KV = KV (.bool false) := be_fun Tryz.underlying112 f x y xo yo
theorem sz113 : Tryz.prog.szo 113 = some 2 := by kernel_rfl
theorem ld113 (a : Addr) : vLoad Tryz.prog 113 (.pointer (some a)) w KV = ∃ cs : List Value, (cs.length = 2 ∧ Reads w a cs) ∧ KV (.agg cs.toArray) := ld_st 113 2 a _ Tryz.underlying113 (by kernel_rfl)
theorem bd113 (s0 : ByteArray) (s1 : ByteArray) : vBuild Tryz.prog 113 [(0, .string s0), (1, .string s1)] KV = KV (.agg #[.string s0, .string s1]) := bd_of (by kernel_rfl)
theorem bz113 : vBuild Tryz.prog 113 [] KV = KV (.agg #[.string ⟨#[]⟩, .string ⟨#[]⟩]) := bd_of (by kernel_rfl)
theorem fd113_0 (l : List Value) : vField Tryz.prog 113 (.agg l.toArray) 0 KV = vNth l 0 KV := fd_cell 113 0 l Tryz.underlying113 rfl (by kernel_rfl) (by kernel_rfl) (by kernel_rfl)
theorem fa113_0 (a : Addr) : vFieldAddr Tryz.prog 113 (.pointer (some a)) 0 KV = KV (.pointer (some (a.add 0))) := fa_st 113 0 a (m := 0) Tryz.underlying113 rfl (by kernel_rfl)
theorem fd113_1 (l : List Value) : vField Tryz.prog 113 (.agg l.toArray) 1 KV = vNth l 1 KV := fd_cell 113 1 l Tryz.underlying113 rfl (by kernel_rfl) (by kernel_rfl) (by kernel_rfl)
theorem fa113_1 (a : Addr) : vFieldAddr Tryz.prog 113 (.pointer (some a)) 1 KV = KV (.pointer (some (a.add 1))) := fa_st 113 1 a (m := 0) Tryz.underlying113 rfl (by kernel_rfl)
theorem sz114 : Tryz.prog.szo 114 = some 2 := by kernel_rfl
theorem ld114 (a : Addr) : vLoad Tryz.prog 114 (.pointer (some a)) w KV = ∃ cs : List Value, (cs.length = 2 ∧ Reads w a cs) ∧ KV (.agg cs.toArray) := ld_st 114 2 a _ Tryz.underlying114 (by kernel_rfl)
theorem bd114 (s0 : ByteArray) (s1 : ByteArray) : vBuild Tryz.prog 114 [(0, .string s0), (1, .string s1)] KV = KV (.agg #[.string s0, .string s1]) := bd_of (by kernel_rfl)
theorem bz114 : vBuild Tryz.prog 114 [] KV = KV (.agg #[.string ⟨#[]⟩, .string ⟨#[]⟩]) := bd_of (by kernel_rfl)
theorem fd114_0 (l : List Value) : vField Tryz.prog 114 (.agg l.toArray) 0 KV = vNth l 0 KV := fd_cell 114 0 l Tryz.underlying114 rfl (by kernel_rfl) (by kernel_rfl) (by kernel_rfl)
theorem fa114_0 (a : Addr) : vFieldAddr Tryz.prog 114 (.pointer (some a)) 0 KV = KV (.pointer (some (a.add 0))) := fa_st 114 0 a (m := 0) Tryz.underlying114 rfl (by kernel_rfl)
theorem fd114_1 (l : List Value) : vField Tryz.prog 114 (.agg l.toArray) 1 KV = vNth l 1 KV := fd_cell 114 1 l Tryz.underlying114 rfl (by kernel_rfl) (by kernel_rfl) (by kernel_rfl)
theorem fa114_1 (a : Addr) : vFieldAddr Tryz.prog 114 (.pointer (some a)) 1 KV = KV (.pointer (some (a.add 1))) := fa_st 114 1 a (m := 0) Tryz.underlying114 rfl (by kernel_rfl)
theorem sz116 : Tryz.prog.szo 116 = some 1 := by kernel_rfl
theorem ldf116 (a : Addr) : vLoad Tryz.prog 116 (.pointer (some a)) w KV = ∃ v, w.cell? a = some v ∧ KV v := ld_fn 116 _ _ _ a Tryz.underlying116
theorem fe116 (f : Fn) (x y : Array Value) (xo yo : Operand) : vBinO Tryz.prog .eql 116 xo yo (.func f x y) .nilFunc w KV = KV (.bool false) := be_fun Tryz.underlying116 f x y xo yo
theorem sz117 : Tryz.prog.szo 117 = some 1 := by kernel_rfl
theorem ldf117 (a : Addr) : vLoad Tryz.prog 117 (.pointer (some a)) w KV = ∃ v, w.cell? a = some v ∧ KV v := ld_fn 117 _ _ _ a Tryz.underlying117
theorem fe117 (f : Fn) (x y : Array Value) (xo yo : Operand) : vBinO Tryz.prog .eql 117 xo yo (.func f x y) .nilFunc w KV = KV (.bool false) := be_fun Tryz.underlying117 f x y xo yo
theorem sz118 : Tryz.prog.szo 118 = some 1 := by kernel_rfl
theorem pe118 (a : Option Addr) (xo yo : Operand) : vBinO Tryz.prog .eql 118 xo yo (.pointer a) (.pointer none) w KV = KV (.bool a.isNone) := be_ptr Tryz.underlying118 a xo yo
theorem pn118 (a : Option Addr) (xo yo : Operand) : vBinO Tryz.prog .neq 118 xo yo (.pointer a) (.pointer none) w KV = KV (.bool !a.isNone) := bn_ptr Tryz.underlying118 a xo yo
theorem ld118 (a : Addr) : vLoad Tryz.prog 118 (.pointer (some a)) w KV = ∃ v, w.cell? a = some v ∧ KV v := ld_ptr 118 5 a Tryz.underlying118
theorem sz119 : Tryz.prog.szo 119 = some 256 := by kernel_rfl
theorem ld119 (a : Addr) : vLoad Tryz.prog 119 (.pointer (some a)) w KV = ∃ cs : List Value, (cs.length = 256 ∧ Reads w a cs) ∧ KV (.agg cs.toArray) := ld_ar 119 256 256 46 a Tryz.underlying119 (by kernel_rfl)
theorem ln119 (v : Value) : vLen Tryz.prog 119 v KV = KV (.int .i64 ((256 : Nat) : Int)) := ln_ar 119 v Tryz.underlying119
theorem ixa119 (l : List Value) (k : IntKind) (i : Int) : vIndex Tryz.prog 119 (.agg l.toArray) (.int k i) KV = ((0 ≤ i ∧ i < ((256 : Nat) : Int)) ∧ vNth l i.toNat KV) := ix_agg 119 l k i Tryz.underlying119 (by kernel_rfl) (by kernel_rfl) (by kernel_rfl)
theorem ia119 (a : Addr) (k : IntKind) (i : Int) : vIndexAddr Tryz.prog 119 (.pointer (some a)) (.int k i) KV = ((0 ≤ i ∧ i < ((256 : Nat) : Int)) ∧ KV (.pointer (some (a.add (i.toNat * 1))))) := ia_ar 119 46 a 256 1 k i Tryz.underlying119 (by kernel_rfl)
theorem sz120 : Tryz.prog.szo 120 = some 1 := by kernel_rfl
theorem ldf120 (a : Addr) : vLoad Tryz.prog 120 (.pointer (some a)) w KV = ∃ v, w.cell? a = some v ∧ KV v := ld_fn 120 _ _ _ a Tryz.underlying120
theorem fe120 (f : Fn) (x y : Array Value) (xo yo : Operand) : vBinO Tryz.prog .eql 120 xo yo (.func f x y) .nilFunc w KV = KV (.bool false) := be_fun Tryz.underlying120 f x y xo yo
theorem sz121 : Tryz.prog.szo 121 = some 1 := by kernel_rfl
theorem ld121 (a : Addr) : vLoad Tryz.prog 121 (.pointer (some a)) w KV = ∃ v, w.cell? a = some v ∧ KV v := ld_int 121 a .u64 Tryz.underlying121
theorem cv121_2 (k : IntKind) (n : Int) : vConv Tryz.prog 121 2 (.int k n) w KV = vWrap .i64 n KV := cv_int 121 2 _ .i64 k n Tryz.underlying121 Tryz.underlying2
theorem cp121_2 : convPure Tryz.prog 121 2 = true := by kernel_rfl
theorem cv121_3 (k : IntKind) (n : Int) : vConv Tryz.prog 121 3 (.int k n) w KV = vWrap .i64 n KV := cv_int 121 3 _ .i64 k n Tryz.underlying121 Tryz.underlying3
theorem cp121_3 : convPure Tryz.prog 121 3 = true := by kernel_rfl
theorem cv121_5 (k : IntKind) (n : Int) : vConv Tryz.prog 121 5 (.int k n) w KV = vWrap .u8 n KV := cv_int 121 5 _ .u8 k n Tryz.underlying121 Tryz.underlying5
theorem cp121_5 : convPure Tryz.prog 121 5 = true := by kernel_rfl
theorem cv121_12 (k : IntKind) (n : Int) : vConv Tryz.prog 121 12 (.int k n) w KV = vWrap .u64 n KV := cv_int 121 12 _ .u64 k n Tryz.underlying121 Tryz.underlying12
theorem cp121_12 : convPure Tryz.prog 121 12 = true := by kernel_rfl
theorem cv121_21 (k : IntKind) (n : Int) : vConv Tryz.prog 121 21 (.int k n) w KV = vWrap .i32 n KV := cv_int 121 21 _ .i32 k n Tryz.underlying121 Tryz.underlying21
theorem cp121_21 : convPure Tryz.prog 121 21 = true := by kernel_rfl
theorem cv121_30 (k : IntKind) (n : Int) : vConv Tryz.prog 121 30 (.int k n) w KV = vWrap .i64 n KV := cv_int 121 30 _ .i64 k n Tryz.underlying121 Tryz.underlying30
theorem cp121_30 : convPure Tryz.prog 121 30 = true := by kernel_rfl
theorem cv121_46 (k : IntKind) (n : Int) : vConv Tryz.prog 121 46 (.int k n) w KV = vWrap .u32 n KV := cv_int 121 46 _ .u32 k n Tryz.underlying121 Tryz.underlying46
theorem cp121_46 : convPure Tryz.prog 121 46 = true := by kernel_rfl
theorem cv121_121 (k : IntKind) (n : Int) : vConv Tryz.prog 121 121 (.int k n) w KV = vWrap .u64 n KV := cv_int 121 121 _ .u64 k n Tryz.underlying121 Tryz.underlying121
theorem cp121_121 : convPure Tryz.prog 121 121 = true := by kernel_rfl
theorem cv121_161 (k : IntKind) (n : Int) : vConv Tryz.prog 121 161 (.int k n) w KV = vWrap .u64 n KV := cv_int 121 161 _ .u64 k n Tryz.underlying121 Tryz.underlying161
theorem cp121_161 : convPure Tryz.prog 121 161 = true := by kernel_rfl
theorem cv121_224 (k : IntKind) (n : Int) : vConv Tryz.prog 121 224 (.int k n) w KV = vWrap .i64 n KV := cv_int 121 224 _ .i64 k n Tryz.underlying121 Tryz.underlying224
theorem cp121_224 : convPure Tryz.prog 121 224 = true := by kernel_rfl
theorem cv121_271 (k : IntKind) (n : Int) : vConv Tryz.prog 121 271 (.int k n) w KV = vWrap .u64 n KV := cv_int 121 271 _ .u64 k n Tryz.underlying121 Tryz.underlying271
theorem cp121_271 : convPure Tryz.prog 121 271 = true := by kernel_rfl
theorem sz122 : Tryz.prog.szo 122 = some 1 := by kernel_rfl
theorem ldf122 (a : Addr) : vLoad Tryz.prog 122 (.pointer (some a)) w KV = ∃ v, w.cell? a = some v ∧ KV v := ld_fn 122 _ _ _ a Tryz.underlying122
theorem fe122 (f : Fn) (x y : Array Value) (xo yo : Operand) : vBinO Tryz.prog .eql 122 xo yo (.func f x y) .nilFunc w KV = KV (.bool false) := be_fun Tryz.underlying122 f x y xo yo
theorem sz123 : Tryz.prog.szo 123 = some 1 := by kernel_rfl
theorem sz124 : Tryz.prog.szo 124 = some 1 := by kernel_rfl
theorem ldf124 (a : Addr) : vLoad Tryz.prog 124 (.pointer (some a)) w KV = ∃ v, w.cell? a = some v ∧ KV v := ld_fn 124 _ _ _ a Tryz.underlying124
theorem fe124 (f : Fn) (x y : Array Value) (xo yo : Operand) : vBinO Tryz.prog .eql 124 xo yo (.func f x y) .nilFunc w KV = KV (.bool false) := be_fun Tryz.underlying124 f x y xo yo
theorem sz125 : Tryz.prog.szo 125 = some 1 := by kernel_rfl
theorem ldf125 (a : Addr) : vLoad Tryz.prog 125 (.pointer (some a)) w KV = ∃ v, w.cell? a = some v ∧ KV v := ld_fn 125 _ _ _ a Tryz.underlying125
theorem fe125 (f : Fn) (x y : Array Value) (xo yo : Operand) : vBinO Tryz.prog .eql 125 xo yo (.func f x y) .nilFunc w KV = KV (.bool false) := be_fun Tryz.underlying125 f x y xo yo
theorem sz126 : Tryz.prog.szo 126 = some 1 := by kernel_rfl
theorem ldf126 (a : Addr) : vLoad Tryz.prog 126 (.pointer (some a)) w KV = ∃ v, w.cell? a = some v ∧ KV v := ld_fn 126 _ _ _ a Tryz.underlying126
theorem fe126 (f : Fn) (x y : Array Value) (xo yo : Operand) : vBinO Tryz.prog .eql 126 xo yo (.func f x y) .nilFunc w KV = KV (.bool false) := be_fun Tryz.underlying126 f x y xo yo
theorem sz127 : Tryz.prog.szo 127 = some 1 := by kernel_rfl
theorem pe127 (a : Option Addr) (xo yo : Operand) : vBinO Tryz.prog .eql 127 xo yo (.pointer a) (.pointer none) w KV = KV (.bool a.isNone) := be_ptr Tryz.underlying127 a xo yo
theorem pn127 (a : Option Addr) (xo yo : Operand) : vBinO Tryz.prog .neq 127 xo yo (.pointer a) (.pointer none) w KV = KV (.bool !a.isNone) := bn_ptr Tryz.underlying127 a xo yo
theorem ld127 (a : Addr) : vLoad Tryz.prog 127 (.pointer (some a)) w KV = ∃ v, w.cell? a = some v ∧ KV v := ld_ptr 127 26 a Tryz.underlying127
theorem sz128 : Tryz.prog.szo 128 = some 1 := by kernel_rfl
theorem ldf128 (a : Addr) : vLoad Tryz.prog 128 (.pointer (some a)) w KV = ∃ v, w.cell? a = some v ∧ KV v := ld_fn 128 _ _ _ a Tryz.underlying128
theorem fe128 (f : Fn) (x y : Array Value) (xo yo : Operand) : vBinO Tryz.prog .eql 128 xo yo (.func f x y) .nilFunc w KV = KV (.bool false) := be_fun Tryz.underlying128 f x y xo yo
theorem sz129 : Tryz.prog.szo 129 = some 1 := by kernel_rfl
theorem ldf129 (a : Addr) : vLoad Tryz.prog 129 (.pointer (some a)) w KV = ∃ v, w.cell? a = some v ∧ KV v := ld_fn 129 _ _ _ a Tryz.underlying129
theorem fe129 (f : Fn) (x y : Array Value) (xo yo : Operand) : vBinO Tryz.prog .eql 129 xo yo (.func f x y) .nilFunc w KV = KV (.bool false) := be_fun Tryz.underlying129 f x y xo yo
theorem sz130 : Tryz.prog.szo 130 = some 1 := by kernel_rfl
theorem ldf130 (a : Addr) : vLoad Tryz.prog 130 (.pointer (some a)) w KV = ∃ v, w.cell? a = some v ∧ KV v := ld_fn 130 _ _ _ a Tryz.underlying130
theorem fe130 (f : Fn) (x y : Array Value) (xo yo : Operand) : vBinO Tryz.prog .eql 130 xo yo (.func f x y) .nilFunc w KV = KV (.bool false) := be_fun Tryz.underlying130 f x y xo yo
theorem sz132 : Tryz.prog.szo 132 = some 1 := by kernel_rfl
theorem ldf132 (a : Addr) : vLoad Tryz.prog 132 (.pointer (some a)) w KV = ∃ v, w.cell? a = some v ∧ KV v := ld_fn 132 _ _ _ a Tryz.underlying132
theorem fe132 (f : Fn) (x y : Array Value) (xo yo : Operand) : vBinO Tryz.prog .eql 132 xo yo (.func f x y) .nilFunc w KV = KV (.bool false) := be_fun Tryz.underlying132 f x y xo yo
theorem sz133 : Tryz.prog.szo 133 = some 1 := by kernel_rfl
theorem ldf133 (a : Addr) : vLoad Tryz.prog 133 (.pointer (some a)) w KV = ∃ v, w.cell? a = some v ∧ KV v := ld_fn 133 _ _ _ a Tryz.underlying133
theorem fe133 (f : Fn) (x y : Array Value) (xo yo : Operand) : vBinO Tryz.prog .eql 133 xo yo (.func f x y) .nilFunc w KV = KV (.bool false) := be_fun Tryz.underlying133 f x y xo yo
theorem sz134 : Tryz.prog.szo 134 = some 1 := by kernel_rfl
theorem ldf134 (a : Addr) : vLoad Tryz.prog 134 (.pointer (some a)) w KV = ∃ v, w.cell? a = some v ∧ KV v := ld_fn 134 _ _ _ a Tryz.underlying134
theorem fe134 (f : Fn) (x y : Array Value) (xo yo : Operand) : vBinO Tryz.prog .eql 134 xo yo (.func f x y) .nilFunc w KV = KV (.bool false) := be_fun Tryz.underlying134 f x y xo yo
theorem sz135 : Tryz.prog.szo 135 = some 1 := by kernel_rfl
theorem ldf135 (a : Addr) : vLoad Tryz.prog 135 (.pointer (some a)) w KV = ∃ v, w.cell? a = some v ∧ KV v := ld_fn 135 _ _ _ a Tryz.underlying135
theorem fe135 (f : Fn) (x y : Array Value) (xo yo : Operand) : vBinO Tryz.prog .eql 135 xo yo (.func f x y) .nilFunc w KV = KV (.bool false) := be_fun Tryz.underlying135 f x y xo yo
theorem sz136 : Tryz.prog.szo 136 = some 1 := by kernel_rfl
theorem ldf136 (a : Addr) : vLoad Tryz.prog 136 (.pointer (some a)) w KV = ∃ v, w.cell? a = some v ∧ KV v := ld_fn 136 _ _ _ a Tryz.underlying136
theorem fe136 (f : Fn) (x y : Array Value) (xo yo : Operand) : vBinO Tryz.prog .eql 136 xo yo (.func f x y) .nilFunc w KV = KV (.bool false) := be_fun Tryz.underlying136 f x y xo yo
theorem sz137 : Tryz.prog.szo 137 = some 3 := by kernel_rfl
theorem ld137 (a : Addr) : vLoad Tryz.prog 137 (.pointer (some a)) w KV = ∃ cs : List Value, (cs.length = 3 ∧ Reads w a cs) ∧ KV (.agg cs.toArray) := ld_st 137 3 a _ Tryz.underlying137 (by kernel_rfl)
theorem bd137 (n0 : Int) (a1 : Option Addr) (n1 c1 : Nat) (b2 : Bool) : vBuild Tryz.prog 137 [(0, .int .i64 n0), (1, .slice a1 n1 c1), (2, .bool b2)] KV = KV (.agg #[.int .i64 n0, .slice a1 n1 c1, .bool b2]) := bd_of (by kernel_rfl)
theorem bz137 : vBuild Tryz.prog 137 [] KV = KV (.agg #[.int .i64 0, .slice none 0 0, .bool false]) := bd_of (by kernel_rfl)
theorem fd137_0 (l : List Value) : vField Tryz.prog 137 (.agg l.toArray) 0 KV = vNth l 0 KV := fd_cell 137 0 l Tryz.underlying137 rfl (by kernel_rfl) (by kernel_rfl) (by kernel_rfl)
theorem fa137_0 (a : Addr) : vFieldAddr Tryz.prog 137 (.pointer (some a)) 0 KV = KV (.pointer (some (a.add 0))) := fa_st 137 0 a (m := 0) Tryz.underlying137 rfl (by kernel_rfl)
theorem fd137_1 (l : List Value) : vField Tryz.prog 137 (.agg l.toArray) 1 KV = vNth l 1 KV := fd_cell 137 1 l Tryz.underlying137 rfl (by kernel_rfl) (by kernel_rfl) (by kernel_rfl)
theorem fa137_1 (a : Addr) : vFieldAddr Tryz.prog 137 (.pointer (some a)) 1 KV = KV (.pointer (some (a.add 1))) := fa_st 137 1 a (m := 0) Tryz.underlying137 rfl (by kernel_rfl)
theorem fd137_2 (l : List Value) : vField Tryz.prog 137 (.agg l.toArray) 2 KV = vNth l 2 KV := fd_cell 137 2 l Tryz.underlying137 rfl (by kernel_rfl) (by kernel_rfl) (by kernel_rfl)
theorem fa137_2 (a : Addr) : vFieldAddr Tryz.prog 137 (.pointer (some a)) 2 KV = KV (.pointer (some (a.add 2))) := fa_st 137 2 a (m := 0) Tryz.underlying137 rfl (by kernel_rfl)
theorem sz138 : Tryz.prog.szo 138 = some 3 := by kernel_rfl
theorem ld138 (a : Addr) : vLoad Tryz.prog 138 (.pointer (some a)) w KV = ∃ cs : List Value, (cs.length = 3 ∧ Reads w a cs) ∧ KV (.agg cs.toArray) := ld_st 138 3 a _ Tryz.underlying138 (by kernel_rfl)
theorem bd138 (n0 : Int) (a1 : Option Addr) (n1 c1 : Nat) (b2 : Bool) : vBuild Tryz.prog 138 [(0, .int .i64 n0), (1, .slice a1 n1 c1), (2, .bool b2)] KV = KV (.agg #[.int .i64 n0, .slice a1 n1 c1, .bool b2]) := bd_of (by kernel_rfl)
theorem bz138 : vBuild Tryz.prog 138 [] KV = KV (.agg #[.int .i64 0, .slice none 0 0, .bool false]) := bd_of (by kernel_rfl)
theorem fd138_0 (l : List Value) : vField Tryz.prog 138 (.agg l.toArray) 0 KV = vNth l 0 KV := fd_cell 138 0 l Tryz.underlying138 rfl (by kernel_rfl) (by kernel_rfl) (by kernel_rfl)
theorem fa138_0 (a : Addr) : vFieldAddr Tryz.prog 138 (.pointer (some a)) 0 KV = KV (.pointer (some (a.add 0))) := fa_st 138 0 a (m := 0) Tryz.underlying138 rfl (by kernel_rfl)
theorem fd138_1 (l : List Value) : vField Tryz.prog 138 (.agg l.toArray) 1 KV = vNth l 1 KV := fd_cell 138 1 l Tryz.underlying138 rfl (by kernel_rfl) (by kernel_rfl) (by kernel_rfl)
theorem fa138_1 (a : Addr) : vFieldAddr Tryz.prog 138 (.pointer (some a)) 1 KV = KV (.pointer (some (a.add 1))) := fa_st 138 1 a (m := 0) Tryz.underlying138 rfl (by kernel_rfl)
theorem fd138_2 (l : List Value) : vField Tryz.prog 138 (.agg l.toArray) 2 KV = vNth l 2 KV := fd_cell 138 2 l Tryz.underlying138 rfl (by kernel_rfl) (by kernel_rfl) (by kernel_rfl)
theorem fa138_2 (a : Addr) : vFieldAddr Tryz.prog 138 (.pointer (some a)) 2 KV = KV (.pointer (some (a.add 2))) := fa_st 138 2 a (m := 0) Tryz.underlying138 rfl (by kernel_rfl)
theorem sz139 : Tryz.prog.szo 139 = some 6 := by kernel_rfl
theorem ld139 (a : Addr) : vLoad Tryz.prog 139 (.pointer (some a)) w KV = ∃ cs : List Value, (cs.length = 6 ∧ Reads w a cs) ∧ KV (.agg cs.toArray) := ld_ar 139 6 2 138 a Tryz.underlying139 (by kernel_rfl)
theorem ln139 (v : Value) : vLen Tryz.prog 139 v KV = KV (.int .i64 ((2 : Nat) : Int)) := ln_ar 139 v Tryz.underlying139
theorem ia139 (a : Addr) (k : IntKind) (i : Int) : vIndexAddr Tryz.prog 139 (.pointer (some a)) (.int k i) KV = ((0 ≤ i ∧ i < ((2 : Nat) : Int)) ∧ KV (.pointer (some (a.add (i.toNat * 3))))) := ia_ar 139 138 a 2 3 k i Tryz.underlying139 (by kernel_rfl)
theorem sz140 : Tryz.prog.szo 140 = some 1 := by kernel_rfl
theorem ldf140 (a : Addr) : vLoad Tryz.prog 140 (.pointer (some a)) w KV = ∃ v, w.cell? a = some v ∧ KV v := ld_fn 140 _ _ _ a Tryz.underlying140
theorem fe140 (f : Fn) (x y : Array Value) (xo yo : Operand) : vBinO Tryz.prog .eql 140 xo yo (.func f x y) .nilFunc w KV = KV (.bool false) := be_fun Tryz.underlying140 f x y xo yo
theorem sz141 : Tryz.prog.szo 141 = some 1 := by kernel_rfl
theorem ldf141 (a : Addr) : vLoad Tryz.prog 141 (.pointer (some a)) w KV = ∃ v, w.cell? a = some v ∧ KV v := ld_fn 141 _ _ _ a Tryz.underlying141
theorem fe141 (f : Fn) (x y : Array Value) (xo yo : Operand) : vBinO Tryz.prog .eql 141 xo yo (.func f x y) .nilFunc w KV = KV (.bool false) := be_fun Tryz.underlying141 f x y xo yo
theorem sz142 : Tryz.prog.szo 142 = some 4 := by kernel_rfl
theorem ld142 (a : Addr) : vLoad Tryz.prog 142 (.pointer (some a)) w KV = ∃ cs : List Value, (cs.length = 4 ∧ Reads w a cs) ∧ KV (.agg cs.toArray) := ld_st 142 4 a _ Tryz.underlying142 (by kernel_rfl)
theorem bd142 (n0 : Int) (n1 : Int) (n2 : Int) (s3 : ByteArray) : vBuild Tryz.prog 142 [(0, .int .u8 n0), (1, .int .i64 n1), (2, .int .i64 n2), (3, .string s3)] KV = KV (.agg #[.int .u8 n0, .int .i64 n1, .int .i64 n2, .string s3]) := bd_of (by kernel_rfl)
theorem bz142 : vBuild Tryz.prog 142 [] KV = KV (.agg #[.int .u8 0, .int .i64 0, .int .i64 0, .string ⟨#[]⟩]) := bd_of (by kernel_rfl)
theorem fd142_0 (l : List Value) : vField Tryz.prog 142 (.agg l.toArray) 0 KV = vNth l 0 KV := fd_cell 142 0 l Tryz.underlying142 rfl (by kernel_rfl) (by kernel_rfl) (by kernel_rfl)
theorem fa142_0 (a : Addr) : vFieldAddr Tryz.prog 142 (.pointer (some a)) 0 KV = KV (.pointer (some (a.add 0))) := fa_st 142 0 a (m := 0) Tryz.underlying142 rfl (by kernel_rfl)
theorem fd142_1 (l : List Value) : vField Tryz.prog 142 (.agg l.toArray) 1 KV = vNth l 1 KV := fd_cell 142 1 l Tryz.underlying142 rfl (by kernel_rfl) (by kernel_rfl) (by kernel_rfl)
theorem fa142_1 (a : Addr) : vFieldAddr Tryz.prog 142 (.pointer (some a)) 1 KV = KV (.pointer (some (a.add 1))) := fa_st 142 1 a (m := 0) Tryz.underlying142 rfl (by kernel_rfl)
theorem fd142_2 (l : List Value) : vField Tryz.prog 142 (.agg l.toArray) 2 KV = vNth l 2 KV := fd_cell 142 2 l Tryz.underlying142 rfl (by kernel_rfl) (by kernel_rfl) (by kernel_rfl)
theorem fa142_2 (a : Addr) : vFieldAddr Tryz.prog 142 (.pointer (some a)) 2 KV = KV (.pointer (some (a.add 2))) := fa_st 142 2 a (m := 0) Tryz.underlying142 rfl (by kernel_rfl)
theorem fd142_3 (l : List Value) : vField Tryz.prog 142 (.agg l.toArray) 3 KV = vNth l 3 KV := fd_cell 142 3 l Tryz.underlying142 rfl (by kernel_rfl) (by kernel_rfl) (by kernel_rfl)
theorem fa142_3 (a : Addr) : vFieldAddr Tryz.prog 142 (.pointer (some a)) 3 KV = KV (.pointer (some (a.add 3))) := fa_st 142 3 a (m := 0) Tryz.underlying142 rfl (by kernel_rfl)
theorem sz143 : Tryz.prog.szo 143 = some 4 := by kernel_rfl
theorem ld143 (a : Addr) : vLoad Tryz.prog 143 (.pointer (some a)) w KV = ∃ cs : List Value, (cs.length = 4 ∧ Reads w a cs) ∧ KV (.agg cs.toArray) := ld_st 143 4 a _ Tryz.underlying143 (by kernel_rfl)
theorem bd143 (n0 : Int) (n1 : Int) (n2 : Int) (s3 : ByteArray) : vBuild Tryz.prog 143 [(0, .int .u8 n0), (1, .int .i64 n1), (2, .int .i64 n2), (3, .string s3)] KV = KV (.agg #[.int .u8 n0, .int .i64 n1, .int .i64 n2, .string s3]) := bd_of (by kernel_rfl)
theorem bz143 : vBuild Tryz.prog 143 [] KV = KV (.agg #[.int .u8 0, .int .i64 0, .int .i64 0, .string ⟨#[]⟩]) := bd_of (by kernel_rfl)
theorem fd143_0 (l : List Value) : vField Tryz.prog 143 (.agg l.toArray) 0 KV = vNth l 0 KV := fd_cell 143 0 l Tryz.underlying143 rfl (by kernel_rfl) (by kernel_rfl) (by kernel_rfl)
theorem fa143_0 (a : Addr) : vFieldAddr Tryz.prog 143 (.pointer (some a)) 0 KV = KV (.pointer (some (a.add 0))) := fa_st 143 0 a (m := 0) Tryz.underlying143 rfl (by kernel_rfl)
theorem fd143_1 (l : List Value) : vField Tryz.prog 143 (.agg l.toArray) 1 KV = vNth l 1 KV := fd_cell 143 1 l Tryz.underlying143 rfl (by kernel_rfl) (by kernel_rfl) (by kernel_rfl)
theorem fa143_1 (a : Addr) : vFieldAddr Tryz.prog 143 (.pointer (some a)) 1 KV = KV (.pointer (some (a.add 1))) := fa_st 143 1 a (m := 0) Tryz.underlying143 rfl (by kernel_rfl)
theorem fd143_2 (l : List Value) : vField Tryz.prog 143 (.agg l.toArray) 2 KV = vNth l 2 KV := fd_cell 143 2 l Tryz.underlying143 rfl (by kernel_rfl) (by kernel_rfl) (by kernel_rfl)
theorem fa143_2 (a : Addr) : vFieldAddr Tryz.prog 143 (.pointer (some a)) 2 KV = KV (.pointer (some (a.add 2))) := fa_st 143 2 a (m := 0) Tryz.underlying143 rfl (by kernel_rfl)
theorem fd143_3 (l : List Value) : vField Tryz.prog 143 (.agg l.toArray) 3 KV = vNth l 3 KV := fd_cell 143 3 l Tryz.underlying143 rfl (by kernel_rfl) (by kernel_rfl) (by kernel_rfl)
theorem fa143_3 (a : Addr) : vFieldAddr Tryz.prog 143 (.pointer (some a)) 3 KV = KV (.pointer (some (a.add 3))) := fa_st 143 3 a (m := 0) Tryz.underlying143 rfl (by kernel_rfl)
theorem sz145 : Tryz.prog.szo 145 = some 1 := by kernel_rfl
theorem ldf145 (a : Addr) : vLoad Tryz.prog 145 (.pointer (some a)) w KV = ∃ v, w.cell? a = some v ∧ KV v := ld_fn 145 _ _ _ a Tryz.underlying145
theorem fe145 (f : Fn) (x y : Array Value) (xo yo : Operand) : vBinO Tryz.prog .eql 145 xo yo (.func f x y) .nilFunc w KV = KV (.bool false) := be_fun Tryz.underlying145 f x y xo yo
theorem sz147 : Tryz.prog.szo 147 = some 1 := by kernel_rfl
theorem ldf147 (a : Addr) : vLoad Tryz.prog 147 (.pointer (some a)) w KV = ∃ v, w.cell? a = some v ∧ KV v := ld_fn 147 _ _ _ a Tryz.underlying147
theorem fe147 (f : Fn) (x y : Array Value) (xo yo : Operand) : vBinO Tryz.prog .eql 147 xo yo (.func f x y) .nilFunc w KV = KV (.bool false) := be_fun Tryz.underlying147 f x y xo yo
theorem sz148 : Tryz.prog.szo 148 = some 1 := by kernel_rfl
theorem ldf148 (a : Addr) : vLoad Tryz.prog 148 (.pointer (some a)) w KV = ∃ v, w.cell? a = some v ∧ KV v := ld_fn 148 _ _ _ a Tryz.underlying148
theorem fe148 (f : Fn) (x y : Array Value) (xo yo : Operand) : vBinO Tryz.prog .eql 148 xo yo (.func f x y) .nilFunc w KV = KV (.bool false) := be_fun Tryz.underlying148 f x y xo yo
theorem sz150 : Tryz.prog.szo 150 = some 1 := by kernel_rfl
theorem ldf150 (a : Addr) : vLoad Tryz.prog 150 (.pointer (some a)) w KV = ∃ v, w.cell? a = some v ∧ KV v := ld_fn 150 _ _ _ a Tryz.underlying150
theorem fe150 (f : Fn) (x y : Array Value) (xo yo : Operand) : vBinO Tryz.prog .eql 150 xo yo (.func f x y) .nilFunc w KV = KV (.bool false) := be_fun Tryz.underlying150 f x y xo yo
theorem sz151 : Tryz.prog.szo 151 = some 1 := by kernel_rfl
theorem ldf151 (a : Addr) : vLoad Tryz.prog 151 (.pointer (some a)) w KV = ∃ v, w.cell? a = some v ∧ KV v := ld_fn 151 _ _ _ a Tryz.underlying151
theorem fe151 (f : Fn) (x y : Array Value) (xo yo : Operand) : vBinO Tryz.prog .eql 151 xo yo (.func f x y) .nilFunc w KV = KV (.bool false) := be_fun Tryz.underlying151 f x y xo yo
theorem sz152 : Tryz.prog.szo 152 = some 1 := by kernel_rfl
theorem sz153 : Tryz.prog.szo 153 = some 1 := by kernel_rfl
theorem ldf153 (a : Addr) : vLoad Tryz.prog 153 (.pointer (some a)) w KV = ∃ v, w.cell? a = some v ∧ KV v := ld_fn 153 _ _ _ a Tryz.underlying153
theorem fe153 (f : Fn) (x y : Array Value) (xo yo : Operand) : vBinO Tryz.prog .eql 153 xo yo (.func f x y) .nilFunc w KV = KV (.bool false) := be_fun Tryz.underlying153 f x y xo yo
theorem sz155 : Tryz.prog.szo 155 = some 1 := by kernel_rfl
theorem ldf155 (a : Addr) : vLoad Tryz.prog 155 (.pointer (some a)) w KV = ∃ v, w.cell? a = some v ∧ KV v := ld_fn 155 _ _ _ a Tryz.underlying155
theorem fe155 (f : Fn) (x y : Array Value) (xo yo : Operand) : vBinO Tryz.prog .eql 155 xo yo (.func f x y) .nilFunc w KV = KV (.bool false) := be_fun Tryz.underlying155 f x y xo yo
theorem sz157 : Tryz.prog.szo 157 = some 1 := by kernel_rfl
theorem ldf157 (a : Addr) : vLoad Tryz.prog 157 (.pointer (some a)) w KV = ∃ v, w.cell? a = some v ∧ KV v := ld_fn 157 _ _ _ a Tryz.underlying157
theorem fe157 (f : Fn) (x y : Array Value) (xo yo : Operand) : vBinO Tryz.prog .eql 157 xo yo (.func f x y) .nilFunc w KV = KV (.bool false) := be_fun Tryz.underlying157 f x y xo yo
theorem sz158 : Tryz.prog.szo 158 = some 1 := by kernel_rfl
theorem ldf158 (a : Addr) : vLoad Tryz.prog 158 (.pointer (some a)) w KV = ∃ v, w.cell? a = some v ∧ KV v := ld_fn 158 _ _ _ a Tryz.underlying158
theorem fe158 (f : Fn) (x y : Array Value) (xo yo : Operand) : vBinO Tryz.prog .eql 158 xo yo (.func f x y) .nilFunc w KV = KV (.bool false) := be_fun Tryz.underlying158 f x y xo yo
theorem sz159 : Tryz.prog.szo 159 = some 1 := by kernel_rfl
theorem ldf159 (a : Addr) : vLoad Tryz.prog 159 (.pointer (some a)) w KV = ∃ v, w.cell? a = some v ∧ KV v := ld_fn 159 _ _ _ a Tryz.underlying159
theorem fe159 (f : Fn) (x y : Array Value) (xo yo : Operand) : vBinO Tryz.prog .eql 159 xo yo (.func f x y) .nilFunc w KV = KV (.bool false) := be_fun Tryz.underlying159 f x y xo yo
theorem sz160 : Tryz.prog.szo 160 = some 1 := by kernel_rfl
theorem ln160 (a : Option Addr) (n c : Nat) : vLen Tryz.prog 160 (.slice a n c) KV = KV (.int .i64 n) := ln_sl 160 46 a n c Tryz.underlying160
theorem snn160 (a : Option Addr) (n c : Nat) : vSlice Tryz.prog 160 (.slice a n c) none none KV = (n ≤ c ∧ KV (.slice a n c)) := sl_nn 160 46 a n c 1 Tryz.underlying160 (by kernel_rfl)
theorem sln160 (a : Option Addr) (n c : Nat) (k : IntKind) (l : Int) : vSlice Tryz.prog 160 (.slice a n c) (some (.int k l)) none KV = ((0 ≤ l ∧ l ≤ n ∧ n ≤ c) ∧ KV (.slice (if c = l.toNat then a else a.map (·.add (l.toNat * 1))) (n - l.toNat) (c - l.toNat))) := sl_ln 160 46 a n c 1 k l Tryz.underlying160 (by kernel_rfl)
theorem snh160 (a : Option Addr) (n c : Nat) (k : IntKind) (l : Int) : vSlice Tryz.prog 160 (.slice a n c) none (some (.int k l)) KV = ((0 ≤ l ∧ l ≤ c) ∧ KV (.slice a l.toNat c)) := sl_nh 160 46 a n c 1 k l Tryz.underlying160 (by kernel_rfl)
theorem slh160 (a : Option Addr) (n c : Nat) (k k' : IntKind) (l m : Int) : vSlice Tryz.prog 160 (.slice a n c) (some (.int k l)) (some (.int k' m)) KV = ((0 ≤ l ∧ l ≤ m ∧ m ≤ c) ∧ KV (.slice (if c = l.toNat then a else a.map (·.add (l.toNat * 1))) (m.toNat - l.toNat) (c - l.toNat))) := sl_lh 160 46 a n c 1 k k' l m Tryz.underlying160 (by kernel_rfl)
theorem ia160 (a : Addr) (n c : Nat) (k : IntKind) (i : Int) : vIndexAddr Tryz.prog 160 (.slice (some a) n c) (.int k i) KV = ((0 ≤ i ∧ i < n) ∧ KV (.pointer (some (a.add (i.toNat * 1))))) := ia_sl 160 46 a n c 1 k i Tryz.underlying160 (by kernel_rfl)
theorem ld160 (a : Addr) : vLoad Tryz.prog 160 (.pointer (some a)) w KV = ∃ v, w.cell? a = some v ∧ KV v := ld_sl 160 46 a Tryz.underlying160
theorem sz161 : Tryz.prog.szo 161 = some 1 := by kernel_rfl
theorem ld161 (a : Addr) : vLoad Tryz.prog 161 (.pointer (some a)) w KV = ∃ v, w.cell? a = some v ∧ KV v := ld_int 161 a .u64 Tryz.underlying161
theorem cv161_2 (k : IntKind) (n : Int) : vConv Tryz.prog 161 2 (.int k n) w KV = vWrap .i64 n KV := cv_int 161 2 _ .i64 k n Tryz.underlying161 Tryz.underlying2
theorem cp161_2 : convPure Tryz.prog 161 2 = true := by kernel_rfl
theorem cv161_3 (k : IntKind) (n : Int) : vConv Tryz.prog 161 3 (.int k n) w KV = vWrap .i64 n KV := cv_int 161 3 _ .i64 k n Tryz.underlying161 Tryz.underlying3
theorem cp161_3 : convPure Tryz.prog 161 3 = true := by kernel_rfl
theorem cv161_5 (k : IntKind) (n : Int) : vConv Tryz.prog 161 5 (.int k n) w KV = vWrap .u8 n KV := cv_int 161 5 _ .u8 k n Tryz.underlying161 Tryz.underlying5
theorem cp161_5 : convPure Tryz.prog 161 5 = true := by kernel_rfl
theorem cv161_12 (k : IntKind) (n : Int) : vConv Tryz.prog 161 12 (.int k n) w KV = vWrap .u64 n KV := cv_int 161 12 _ .u64 k n Tryz.underlying161 Tryz.underlying12
theorem cp161_12 : convPure Tryz.prog 161 12 = true := by kernel_rfl
theorem cv161_21 (k : IntKind) (n : Int) : vConv Tryz.prog 161 21 (.int k n) w KV = vWrap .i32 n KV := cv_int 161 21 _ .i32 k n Tryz.underlying161 Tryz.underlying21
theorem cp161_21 : convPure Tryz.prog 161 21 = true := by kernel_rfl
theorem cv161_30 (k : IntKind) (n : Int) : vConv Tryz.prog 161 30 (.int k n) w KV = vWrap .i64 n KV := cv_int 161 30 _ .i64 k n Tryz.underlying161 Tryz.underlying30
theorem cp161_30 : convPure Tryz.prog 161 30 = true := by kernel_rfl
theorem cv161_46 (k : IntKind) (n : Int) : vConv Tryz.prog 161 46 (.int k n) w KV = vWrap .u32 n KV := cv_int 161 46 _ .u32 k n Tryz.underlying161 Tryz.underlying46
theorem cp161_46 : convPure Tryz.prog 161 46 = true := by kernel_rfl
theorem cv161_121 (k : IntKind) (n : Int) : vConv Tryz.prog 161 121 (.int k n) w KV = vWrap .u64 n KV := cv_int 161 121 _ .u64 k n Tryz.underlying161 Tryz.underlying121
theorem cp161_121 : convPure Tryz.prog 161 121 = true := by kernel_rfl
theorem cv161_161 (k : IntKind) (n : Int) : vConv Tryz.prog 161 161 (.int k n) w KV = vWrap .u64 n KV := cv_int 161 161 _ .u64 k n Tryz.underlying161 Tryz.underlying161
theorem cp161_161 : convPure Tryz.prog 161 161 = true := by kernel_rfl
theorem cv161_224 (k : IntKind) (n : Int) : vConv Tryz.prog 161 224 (.int k n) w KV = vWrap .i64 n KV := cv_int 161 224 _ .i64 k n Tryz.underlying161 Tryz.underlying224
theorem cp161_224 : convPure Tryz.prog 161 224 = true := by kernel_rfl
theorem cv161_271 (k : IntKind) (n : Int) : vConv Tryz.prog 161 271 (.int k n) w KV = vWrap .u64 n KV := cv_int 161 271 _ .u64 k n Tryz.underlying161 Tryz.underlying271
theorem cp161_271 : convPure Tryz.prog 161 271 = true := by kernel_rfl
theorem sz163 : Tryz.prog.szo 163 = some 1 := by kernel_rfl
theorem ldf163 (a : Addr) : vLoad Tryz.prog 163 (.pointer (some a)) w KV = ∃ v, w.cell? a = some v ∧ KV v := ld_fn 163 _ _ _ a Tryz.underlying163
theorem fe163 (f : Fn) (x y : Array Value) (xo yo : Operand) : vBinO Tryz.prog .eql 163 xo yo (.func f x y) .nilFunc w KV = KV (.bool false) := be_fun Tryz.underlying163 f x y xo yo
theorem sz165 : Tryz.prog.szo 165 = some 1 := by kernel_rfl
theorem ldf165 (a : Addr) : vLoad Tryz.prog 165 (.pointer (some a)) w KV = ∃ v, w.cell? a = some v ∧ KV v := ld_fn 165 _ _ _ a Tryz.underlying165
theorem fe165 (f : Fn) (x y : Array Value) (xo yo : Operand) : vBinO Tryz.prog .eql 165 xo yo (.func f x y) .nilFunc w KV = KV (.bool false) := be_fun Tryz.underlying165 f x y xo yo
theorem sz166 : Tryz.prog.szo 166 = some 1 := by kernel_rfl
theorem ldf166 (a : Addr) : vLoad Tryz.prog 166 (.pointer (some a)) w KV = ∃ v, w.cell? a = some v ∧ KV v := ld_fn 166 _ _ _ a Tryz.underlying166
theorem fe166 (f : Fn) (x y : Array Value) (xo yo : Operand) : vBinO Tryz.prog .eql 166 xo yo (.func f x y) .nilFunc w KV = KV (.bool false) := be_fun Tryz.underlying166 f x y xo yo
theorem sz167 : Tryz.prog.szo 167 = some 1 := by kernel_rfl
theorem ldf167 (a : Addr) : vLoad Tryz.prog 167 (.pointer (some a)) w KV = ∃ v, w.cell? a = some v ∧ KV v := ld_fn 167 _ _ _ a Tryz.underlying167
theorem fe167 (f : Fn) (x y : Array Value) (xo yo : Operand) : vBinO Tryz.prog .eql 167 xo yo (.func f x y) .nilFunc w KV = KV (.bool false) := be_fun Tryz.underlying167 f x y xo yo
theorem sz168 : Tryz.prog.szo 168 = some 1 := by kernel_rfl
theorem ldf168 (a : Addr) : vLoad Tryz.prog 168 (.pointer (some a)) w KV = ∃ v, w.cell? a = some v ∧ KV v := ld_fn 168 _ _ _ a Tryz.underlying168
theorem fe168 (f : Fn) (x y : Array Value) (xo yo : Operand) : vBinO Tryz.prog .eql 168 xo yo (.func f x y) .nilFunc w KV = KV (.bool false) := be_fun Tryz.underlying168 f x y xo yo
theorem sz169 : Tryz.prog.szo 169 = some 1 := by kernel_rfl
theorem ldf169 (a : Addr) : vLoad Tryz.prog 169 (.pointer (some a)) w KV = ∃ v, w.cell? a = some v ∧ KV v := ld_fn 169 _ _ _ a Tryz.underlying169
theorem fe169 (f : Fn) (x y : Array Value) (xo yo : Operand) : vBinO Tryz.prog .eql 169 xo yo (.func f x y) .nilFunc w KV = KV (.bool false) := be_fun Tryz.underlying169 f x y xo yo
theorem sz170 : Tryz.prog.szo 170 = some 1 := by kernel_rfl
theorem ldf170 (a : Addr) : vLoad Tryz.prog 170 (.pointer (some a)) w KV = ∃ v, w.cell? a = some v ∧ KV v := ld_fn 170 _ _ _ a Tryz.underlying170
theorem fe170 (f : Fn) (x y : Array Value) (xo yo : Operand) : vBinO Tryz.prog .eql 170 xo yo (.func f x y) .nilFunc w KV = KV (.bool false) := be_fun Tryz.underlying170 f x y xo yo
theorem sz171 : Tryz.prog.szo 171 = some 1 := by kernel_rfl
theorem ldf171 (a : Addr) : vLoad Tryz.prog 171 (.pointer (some a)) w KV = ∃ v, w.cell? a = some v ∧ KV v := ld_fn 171 _ _ _ a Tryz.underlying171
theorem fe171 (f : Fn) (x y : Array Value) (xo yo : Operand) : vBinO Tryz.prog .eql 171 xo yo (.func f x y) .nilFunc w KV = KV (.bool false) := be_fun Tryz.underlying171 f x y xo yo
theorem sz172 : Tryz.prog.szo 172 = some 1 := by kernel_rfl
theorem ldf172 (a : Addr) : vLoad Tryz.prog 172 (.pointer (some a)) w KV = ∃ v, w.cell? a = some v ∧ KV v := ld_fn 172 _ _ _ a Tryz.underlying172
theorem fe172 (f : Fn) (x y : Array Value) (xo yo : Operand) : vBinO Tryz.prog .eql 172 xo yo (.func f x y) .nilFunc w KV = KV (.bool false) := be_fun Tryz.underlying172 f x y xo yo
theorem sz173 : Tryz.prog.szo 173 = some 1 := by kernel_rfl
theorem ldf173 (a : Addr) : vLoad Tryz.prog 173 (.pointer (some a)) w KV = ∃ v, w.cell? a = some v ∧ KV v := ld_fn 173 _ _ _ a Tryz.underlying173
theorem fe173 (f : Fn) (x y : Array Value) (xo yo : Operand) : vBinO Tryz.prog .eql 173 xo yo (.func f x y) .nilFunc w KV = KV (.bool false) := be_fun Tryz.underlying173 f x y xo yo
theorem sz174 : Tryz.prog.szo 174 = some 1 := by kernel_rfl
theorem ldf174 (a : Addr) : vLoad Tryz.prog 174 (.pointer (some a)) w KV = ∃ v, w.cell? a = some v ∧ KV v := ld_fn 174 _ _ _ a Tryz.underlying174
theorem fe174 (f : Fn) (x y : Array Value) (xo yo : Operand) : vBinO Tryz.prog .eql 174 xo yo (.func f x y) .nilFunc w KV = KV (.bool false) := be_fun Tryz.underlying174 f x y xo yo
theorem sz175 : Tryz.prog.szo 175 = some 1 := by kernel_rfl
theorem ldf175 (a : Addr) : vLoad Tryz.prog 175 (.pointer (some a)) w KV = ∃ v, w.cell? a = some v ∧ KV v := ld_fn 175 _ _ _ a Tryz.underlying175
theorem fe175 (f : Fn) (x y : Array Value) (xo yo : Operand) : vBinO Tryz.prog .eql 175 xo yo (.func f x y) .nilFunc w KV = KV (.bool false) := be_fun Tryz.underlying175 f x y xo yo
theorem sz176 : Tryz.prog.szo 176 = some 1 := by kernel_rfl
theorem ldf176 (a : Addr) : vLoad Tryz.prog 176 (.pointer (some a)) w KV = ∃ v, w.cell? a = some v ∧ KV v := ld_fn 176 _ _ _ a Tryz.underlying176
theorem fe176 (f : Fn) (x y : Array Value) (xo yo : Operand) : vBinO Tryz.prog .eql 176 xo yo (.func f x y) .nilFunc w KV = KV (.bool false) := be_fun Tryz.underlying176 f x y xo yo
theorem sz177 : Tryz.prog.szo 177 = some 2 := by kernel_rfl
theorem ld177 (a : Addr) : vLoad Tryz.prog 177 (.pointer (some a)) w KV = ∃ cs : List Value, (cs.length = 2 ∧ Reads w a cs) ∧ KV (.agg cs.toArray) := ld_st 177 2 a _ Tryz.underlying177 (by kernel_rfl)
theorem bd177 (s0 : ByteArray) (n1 : Int) : vBuild Tryz.prog 177 [(0, .string s0), (1, .int .i64 n1)] KV = KV (.agg #[.string s0, .int .i64 n1]) := bd_of (by kernel_rfl)
theorem bz177 : vBuild Tryz.prog 177 [] KV = KV (.agg #[.string ⟨#[]⟩, .int .i64 0]) := bd_of (by kernel_rfl)
theorem fd177_0 (l : List Value) : vField Tryz.prog 177 (.agg l.toArray) 0 KV = vNth l 0 KV := fd_cell 177 0 l Tryz.underlying177 rfl (by kernel_rfl) (by kernel_rfl) (by kernel_rfl)
theorem fa177_0 (a : Addr) : vFieldAddr Tryz.prog 177 (.pointer (some a)) 0 KV = KV (.pointer (some (a.add 0))) := fa_st 177 0 a (m := 0) Tryz.underlying177 rfl (by kernel_rfl)
theorem fd177_1 (l : List Value) : vField Tryz.prog 177 (.agg l.toArray) 1 KV = vNth l 1 KV := fd_cell 177 1 l Tryz.underlying177 rfl (by kernel_rfl) (by kernel_rfl) (by kernel_rfl)
theorem fa177_1 (a : Addr) : vFieldAddr Tryz.prog 177 (.pointer (some a)) 1 KV = KV (.pointer (some (a.add 1))) := fa_st 177 1 a (m := 0) Tryz.underlying177 rfl (by kernel_rfl)
theorem sz178 : Tryz.prog.szo 178 = some 2 := by kernel_rfl
theorem ld178 (a : Addr) : vLoad Tryz.prog 178 (.pointer (some a)) w KV = ∃ cs : List Value, (cs.length = 2 ∧ Reads w a cs) ∧ KV (.agg cs.toArray) := ld_st 178 2 a _ Tryz.underlying178 (by kernel_rfl)
theorem bd178 (s0 : ByteArray) (n1 : Int) : vBuild Tryz.prog 178 [(0, .string s0), (1, .int .i64 n1)] KV = KV (.agg #[.string s0, .int .i64 n1]) := bd_of (by kernel_rfl)
theorem bz178 : vBuild Tryz.prog 178 [] KV = KV (.agg #[.string ⟨#[]⟩, .int .i64 0]) := bd_of (by kernel_rfl)
theorem fd178_0 (l : List Value) : vField Tryz.prog 178 (.agg l.toArray) 0 KV = vNth l 0 KV := fd_cell 178 0 l Tryz.underlying178 rfl (by kernel_rfl) (by kernel_rfl) (by kernel_rfl)
theorem fa178_0 (a : Addr) : vFieldAddr Tryz.prog 178 (.pointer (some a)) 0 KV = KV (.pointer (some (a.add 0))) := fa_st 178 0 a (m := 0) Tryz.underlying178 rfl (by kernel_rfl)
theorem fd178_1 (l : List Value) : vField Tryz.prog 178 (.agg l.toArray) 1 KV = vNth l 1 KV := fd_cell 178 1 l Tryz.underlying178 rfl (by kernel_rfl) (by kernel_rfl) (by kernel_rfl)
theorem fa178_1 (a : Addr) : vFieldAddr Tryz.prog 178 (.pointer (some a)) 1 KV = KV (.pointer (some (a.add 1))) := fa_st 178 1 a (m := 0) Tryz.underlying178 rfl (by kernel_rfl)
theorem sz179 : Tryz.prog.szo 179 = some 1 := by kernel_rfl
theorem ln179 (a : Option Addr) (n c : Nat) : vLen Tryz.prog 179 (.slice a n c) KV = KV (.int .i64 n) := ln_sl 179 178 a n c Tryz.underlying179
theorem snn179 (a : Option Addr) (n c : Nat) : vSlice Tryz.prog 179 (.slice a n c) none none KV = (n ≤ c ∧ KV (.slice a n c)) := sl_nn 179 178 a n c 2 Tryz.underlying179 (by kernel_rfl)
theorem sln179 (a : Option Addr) (n c : Nat) (k : IntKind) (l : Int) : vSlice Tryz.prog 179 (.slice a n c) (some (.int k l)) none KV = ((0 ≤ l ∧ l ≤ n ∧ n ≤ c) ∧ KV (.slice (if c = l.toNat then a else a.map (·.add (l.toNat * 2))) (n - l.toNat) (c - l.toNat))) := sl_ln 179 178 a n c 2 k l Tryz.underlying179 (by kernel_rfl)
theorem snh179 (a : Option Addr) (n c : Nat) (k : IntKind) (l : Int) : vSlice Tryz.prog 179 (.slice a n c) none (some (.int k l)) KV = ((0 ≤ l ∧ l ≤ c) ∧ KV (.slice a l.toNat c)) := sl_nh 179 178 a n c 2 k l Tryz.underlying179 (by kernel_rfl)
theorem slh179 (a : Option Addr) (n c : Nat) (k k' : IntKind) (l m : Int) : vSlice Tryz.prog 179 (.slice a n c) (some (.int k l)) (some (.int k' m)) KV = ((0 ≤ l ∧ l ≤ m ∧ m ≤ c) ∧ KV (.slice (if c = l.toNat then a else a.map (·.add (l.toNat * 2))) (m.toNat - l.toNat) (c - l.toNat))) := sl_lh 179 178 a n c 2 k k' l m Tryz.underlying179 (by kernel_rfl)
theorem ia179 (a : Addr) (n c : Nat) (k : IntKind) (i : Int) : vIndexAddr Tryz.prog 179 (.slice (some a) n c) (.int k i) KV = ((0 ≤ i ∧ i < n) ∧ KV (.pointer (some (a.add (i.toNat * 2))))) := ia_sl 179 178 a n c 2 k i Tryz.underlying179 (by kernel_rfl)
theorem ld179 (a : Addr) : vLoad Tryz.prog 179 (.pointer (some a)) w KV = ∃ v, w.cell? a = some v ∧ KV v := ld_sl 179 178 a Tryz.underlying179
theorem sz180 : Tryz.prog.szo 180 = some 1 := by kernel_rfl
theorem ldf180 (a : Addr) : vLoad Tryz.prog 180 (.pointer (some a)) w KV = ∃ v, w.cell? a = some v ∧ KV v := ld_fn 180 _ _ _ a Tryz.underlying180
theorem fe180 (f : Fn) (x y : Array Value) (xo yo : Operand) : vBinO Tryz.prog .eql 180 xo yo (.func f x y) .nilFunc w KV = KV (.bool false) := be_fun Tryz.underlying180 f x y xo yo
theorem sz181 : Tryz.prog.szo 181 = some 1 := by kernel_rfl
theorem ldf181 (a : Addr) : vLoad Tryz.prog 181 (.pointer (some a)) w KV = ∃ v, w.cell? a = some v ∧ KV v := ld_fn 181 _ _ _ a Tryz.underlying181
theorem fe181 (f : Fn) (x y : Array Value) (xo yo : Operand) : vBinO Tryz.prog .eql 181 xo yo (.func f x y) .nilFunc w KV = KV (.bool false) := be_fun Tryz.underlying181 f x y xo yo
theorem sz183 : Tryz.prog.szo 183 = some 1 := by kernel_rfl
theorem ldf183 (a : Addr) : vLoad Tryz.prog 183 (.pointer (some a)) w KV = ∃ v, w.cell? a = some v ∧ KV v := ld_fn 183 _ _ _ a Tryz.underlying183
theorem fe183 (f : Fn) (x y : Array Value) (xo yo : Operand) : vBinO Tryz.prog .eql 183 xo yo (.func f x y) .nilFunc w KV = KV (.bool false) := be_fun Tryz.underlying183 f x y xo yo
theorem sz184 : Tryz.prog.szo 184 = some 1 := by kernel_rfl
theorem pe184 (a : Option Addr) (xo yo : Operand) : vBinO Tryz.prog .eql 184 xo yo (.pointer a) (.pointer none) w KV = KV (.bool a.isNone) := be_ptr Tryz.underlying184 a xo yo
theorem pn184 (a : Option Addr) (xo yo : Operand) : vBinO Tryz.prog .neq 184 xo yo (.pointer a) (.pointer none) w KV = KV (.bool !a.isNone) := bn_ptr Tryz.underlying184 a xo yo
theorem ld184 (a : Addr) : vLoad Tryz.prog 184 (.pointer (some a)) w KV = ∃ v, w.cell? a = some v ∧ KV v := ld_ptr 184 246 a Tryz.underlying184
theorem sz185 : Tryz.prog.szo 185 = some 1 := by kernel_rfl
theorem ldf185 (a : Addr) : vLoad Tryz.prog 185 (.pointer (some a)) w KV = ∃ v, w.cell? a = some v ∧ KV v := ld_fn 185 _ _ _ a Tryz.underlying185
theorem fe185 (f : Fn) (x y : Array Value) (xo yo : Operand) : vBinO Tryz.prog .eql 185 xo yo (.func f x y) .nilFunc w KV = KV (.bool false) := be_fun Tryz.underlying185 f x y xo yo
theorem sz186 : Tryz.prog.szo 186 = some 1 := by kernel_rfl
theorem ldf186 (a : Addr) : vLoad Tryz.prog 186 (.pointer (some a)) w KV = ∃ v, w.cell? a = some v ∧ KV v := ld_fn 186 _ _ _ a Tryz.underlying186
theorem fe186 (f : Fn) (x y : Array Value) (xo yo : Operand) : vBinO Tryz.prog .eql 186 xo yo (.func f x y) .nilFunc w KV = KV (.bool false) := be_fun Tryz.underlying186 f x y xo yo
theorem sz187 : Tryz.prog.szo 187 = some 1 := by kernel_rfl
theorem ldf187 (a : Addr) : vLoad Tryz.prog 187 (.pointer (some a)) w KV = ∃ v, w.cell? a = some v ∧ KV v := ld_fn 187 _ _ _ a Tryz.underlying187
theorem fe187 (f : Fn) (x y : Array Value) (xo yo : Operand) : vBinO Tryz.prog .eql 187 xo yo (.func f x y) .nilFunc w KV = KV (.bool false) := be_fun Tryz.underlying187 f x y xo yo
theorem sz188 : Tryz.prog.szo 188 = some 1 := by kernel_rfl
theorem ldf188 (a : Addr) : vLoad Tryz.prog 188 (.pointer (some a)) w KV = ∃ v, w.cell? a = some v ∧ KV v := ld_fn 188 _ _ _ a Tryz.underlying188
theorem fe188 (f : Fn) (x y : Array Value) (xo yo : Operand) : vBinO Tryz.prog .eql 188 xo yo (.func f x y) .nilFunc w KV = KV (.bool false) := be_fun Tryz.underlying188 f x y xo yo
theorem sz189 : Tryz.prog.szo 189 = some 1 := by kernel_rfl
theorem ldf189 (a : Addr) : vLoad Tryz.prog 189 (.pointer (some a)) w KV = ∃ v, w.cell? a = some v ∧ KV v := ld_fn 189 _ _ _ a Tryz.underlying189
theorem fe189 (f : Fn) (x y : Array Value) (xo yo : Operand) : vBinO Tryz.prog .eql 189 xo yo (.func f x y) .nilFunc w KV = KV (.bool false) := be_fun Tryz.underlying189 f x y xo yo
theorem sz191 : Tryz.prog.szo 191 = some 1 := by kernel_rfl
theorem ldf191 (a : Addr) : vLoad Tryz.prog 191 (.pointer (some a)) w KV = ∃ v, w.cell? a = some v ∧ KV v := ld_fn 191 _ _ _ a Tryz.underlying191
theorem fe191 (f : Fn) (x y : Array Value) (xo yo : Operand) : vBinO Tryz.prog .eql 191 xo yo (.func f x y) .nilFunc w KV = KV (.bool false) := be_fun Tryz.underlying191 f x y xo yo
theorem sz192 : Tryz.prog.szo 192 = some 1 := by kernel_rfl
theorem ldf192 (a : Addr) : vLoad Tryz.prog 192 (.pointer (some a)) w KV = ∃ v, w.cell? a = some v ∧ KV v := ld_fn 192 _ _ _ a Tryz.underlying192
theorem fe192 (f : Fn) (x y : Array Value) (xo yo : Operand) : vBinO Tryz.prog .eql 192 xo yo (.func f x y) .nilFunc w KV = KV (.bool false) := be_fun Tryz.underlying192 f x y xo yo
theorem sz193 : Tryz.prog.szo 193 = some 1 := by kernel_rfl
theorem ldf193 (a : Addr) : vLoad Tryz.prog 193 (.pointer (some a)) w KV = ∃ v, w.cell? a = some v ∧ KV v := ld_fn 193 _ _ _ a Tryz.underlying193
theorem fe193 (f : Fn) (x y : Array Value) (xo yo : Operand) : vBinO Tryz.prog .eql 193 xo yo (.func f x y) .nilFunc w KV = KV (.bool false) := be_fun Tryz.underlying193 f x y xo yo
theorem sz194 : Tryz.prog.szo 194 = some 1 := by kernel_rfl
theorem ldf194 (a : Addr) : vLoad Tryz.prog 194 (.pointer (some a)) w KV = ∃ v, w.cell? a = some v ∧ KV v := ld_fn 194 _ _ _ a Tryz.underlying194
theorem fe194 (f : Fn) (x y : Array Value) (xo yo : Operand) : vBinO Tryz.prog .eql 194 xo yo (.func f x y) .nilFunc w KV = KV (.bool false) := be_fun Tryz.underlying194 f x y xo yo
theorem sz196 : Tryz.prog.szo 196 = some 1 := by kernel_rfl
theorem ldf196 (a : Addr) : vLoad Tryz.prog 196 (.pointer (some a)) w KV = ∃ v, w.cell? a = some v ∧ KV v := ld_fn 196 _ _ _ a Tryz.underlying196
theorem fe196 (f : Fn) (x y : Array Value) (xo yo : Operand) : vBinO Tryz.prog .eql 196 xo yo (.func f x y) .nilFunc w KV = KV (.bool false) := be_fun Tryz.underlying196 f x y xo yo
theorem sz197 : Tryz.prog.szo 197 = some 5 := by kernel_rfl
theorem ld197 (a : Addr) : vLoad Tryz.prog 197 (.pointer (some a)) w KV = ∃ cs : List Value, (cs.length = 5 ∧ Reads w a cs) ∧ KV (.agg cs.toArray) := ld_ar 197 5 5 9 a Tryz.underlying197 (by kernel_rfl)
theorem ln197 (v : Value) : vLen Tryz.prog 197 v KV = KV (.int .i64 ((5 : Nat) : Int)) := ln_ar 197 v Tryz.underlying197
theorem ixa197 (l : List Value) (k : IntKind) (i : Int) : vIndex Tryz.prog 197 (.agg l.toArray) (.int k i) KV = ((0 ≤ i ∧ i < ((5 : Nat) : Int)) ∧ vNth l i.toNat KV) := ix_agg 197 l k i Tryz.underlying197 (by kernel_rfl) (by kernel_rfl) (by kernel_rfl)
theorem ia197 (a : Addr) (k : IntKind) (i : Int) : vIndexAddr Tryz.prog 197 (.pointer (some a)) (.int k i) KV = ((0 ≤ i ∧ i < ((5 : Nat) : Int)) ∧ KV (.pointer (some (a.add (i.toNat * 1))))) := ia_ar 197 9 a 5 1 k i Tryz.underlying197 (by kernel_rfl)
theorem sz198 : Tryz.prog.szo 198 = some 1 := by kernel_rfl
theorem pe198 (a : Option Addr) (xo yo : Operand) : vBinO Tryz.prog .eql 198 xo yo (.pointer a) (.pointer none) w KV = KV (.bool a.isNone) := be_ptr Tryz.underlying198 a xo yo
theorem pn198 (a : Option Addr) (xo yo : Operand) : vBinO Tryz.prog .neq 198 xo yo (.pointer a) (.pointer none) w KV = KV (.bool !a.isNone) := bn_ptr Tryz.underlying198 a xo yo
theorem ld198 (a : Addr) : vLoad Tryz.prog 198 (.pointer (some a)) w KV = ∃ v, w.cell? a = some v ∧ KV v := ld_ptr 198 202 a Tryz.underlying198
theorem sz199 : Tryz.prog.szo 199 = some 1 := by kernel_rfl
theorem ld199 (a : Addr) : vLoad Tryz.prog 199 (.pointer (some a)) w KV = ∃ cs : List Value, (cs.length = 1 ∧ Reads w a cs) ∧ KV (.agg cs.toArray) := ld_st 199 1 a _ Tryz.underlying199 (by kernel_rfl)
theorem bd199 (s0 : ByteArray) : vBuild Tryz.prog 199 [(0, .string s0)] KV = KV (.agg #[.string s0]) := bd_of (by kernel_rfl)
theorem bz199 : vBuild Tryz.prog 199 [] KV = KV (.agg #[.string ⟨#[]⟩]) := bd_of (by kernel_rfl)
theorem fd199_0 (l : List Value) : vField Tryz.prog 199 (.agg l.toArray) 0 KV = vNth l 0 KV := fd_cell 199 0 l Tryz.underlying199 rfl (by kernel_rfl) (by kernel_rfl) (by kernel_rfl)
theorem fa199_0 (a : Addr) : vFieldAddr Tryz.prog 199 (.pointer (some a)) 0 KV = KV (.pointer (some (a.add 0))) := fa_st 199 0 a (m := 0) Tryz.underlying199 rfl (by kernel_rfl)
theorem sz200 : Tryz.prog.szo 200 = some 1 := by kernel_rfl
theorem ld200 (a : Addr) : vLoad Tryz.prog 200 (.pointer (some a)) w KV = ∃ cs : List Value, (cs.length = 1 ∧ Reads w a cs) ∧ KV (.agg cs.toArray) := ld_st 200 1 a _ Tryz.underlying200 (by kernel_rfl)
theorem bd200 (s0 : ByteArray) : vBuild Tryz.prog 200 [(0, .string s0)] KV = KV (.agg #[.string s0]) := bd_of (by kernel_rfl)
theorem bz200 : vBuild Tryz.prog 200 [] KV = KV (.agg #[.string ⟨#[]⟩]) := bd_of (by kernel_rfl)
theorem fd200_0 (l : List Value) : vField Tryz.prog 200 (.agg l.toArray) 0 KV = vNth l 0 KV := fd_cell 200 0 l Tryz.underlying200 rfl (by kernel_rfl) (by kernel_rfl) (by kernel_rfl)
theorem fa200_0 (a : Addr) : vFieldAddr Tryz.prog 200 (.pointer (some a)) 0 KV = KV (.pointer (some (a.add 0))) := fa_st 200 0 a (m := 0) Tryz.underlying200 rfl (by kernel_rfl)
theorem sz201 : Tryz.prog.szo 201 = some 1 := by kernel_rfl
theorem ld201 (a : Addr) : vLoad Tryz.prog 201 (.pointer (some a)) w KV = ∃ cs : List Value, (cs.length = 1 ∧ Reads w a cs) ∧ KV (.agg cs.toArray) := ld_st 201 1 a _ Tryz.underlying201 (by kernel_rfl)
theorem fd201_0 (l : List Value) : vField Tryz.prog 201 (.agg l.toArray) 0 KV = KV (.agg ((l.take 1).drop 0).toArray) := fd_agg 201 0 l 1 Tryz.underlying201 rfl (by kernel_rfl) (by kernel_rfl) (by kernel_rfl)
theorem fa201_0 (a : Addr) : vFieldAddr Tryz.prog 201 (.pointer (some a)) 0 KV = KV (.pointer (some (a.add 0))) := fa_st 201 0 a (m := 0) Tryz.underlying201 rfl (by kernel_rfl)
theorem sz202 : Tryz.prog.szo 202 = some 1 := by kernel_rfl
theorem ld202 (a : Addr) : vLoad Tryz.prog 202 (.pointer (some a)) w KV = ∃ cs : List Value, (cs.length = 1 ∧ Reads w a cs) ∧ KV (.agg cs.toArray) := ld_st 202 1 a _ Tryz.underlying202 (by kernel_rfl)
theorem fd202_0 (l : List Value) : vField Tryz.prog 202 (.agg l.toArray) 0 KV = KV (.agg ((l.take 1).drop 0).toArray) := fd_agg 202 0 l 1 Tryz.underlying202 rfl (by kernel_rfl) (by kernel_rfl) (by kernel_rfl)
theorem fa202_0 (a : Addr) : vFieldAddr Tryz.prog 202 (.pointer (some a)) 0 KV = KV (.pointer (some (a.add 0))) := fa_st 202 0 a (m := 0) Tryz.underlying202 rfl (by kernel_rfl)
theorem sz203 : Tryz.prog.szo 203 = some 1 := by kernel_rfl
theorem ldf203 (a : Addr) : vLoad Tryz.prog 203 (.pointer (some a)) w KV = ∃ v, w.cell? a = some v ∧ KV v := ld_fn 203 _ _ _ a Tryz.underlying203
theorem fe203 (f : Fn) (x y : Array Value) (xo yo : Operand) : vBinO Tryz.prog .eql 203 xo yo (.func f x y) .nilFunc w KV = KV (.bool false) := be_fun Tryz.underlying203 f x y xo yo
theorem sz204 : Tryz.prog.szo 204 = some 1 := by kernel_rfl
theorem ldf204 (a : Addr) : vLoad Tryz.prog 204 (.pointer (some a)) w KV = ∃ v, w.cell? a = some v ∧ KV v := ld_fn 204 _ _ _ a Tryz.underlying204
theorem fe204 (f : Fn) (x y : Array Value) (xo yo : Operand) : vBinO Tryz.prog .eql 204 xo yo (.func f x y) .nilFunc w KV = KV (.bool false) := be_fun Tryz.underlying204 f x y xo yo
theorem sz205 : Tryz.prog.szo 205 = some 1 := by kernel_rfl
theorem pe205 (a : Option Addr) (xo yo : Operand) : vBinO Tryz.prog .eql 205 xo yo (.pointer a) (.pointer none) w KV = KV (.bool a.isNone) := be_ptr Tryz.underlying205 a xo yo
theorem pn205 (a : Option Addr) (xo yo : Operand) : vBinO Tryz.prog .neq 205 xo yo (.pointer a) (.pointer none) w KV = KV (.bool !a.isNone) := bn_ptr Tryz.underlying205 a xo yo
theorem ld205 (a : Addr) : vLoad Tryz.prog 205 (.pointer (some a)) w KV = ∃ v, w.cell? a = some v ∧ KV v := ld_ptr 205 207 a Tryz.underlying205
theorem sz206 : Tryz.prog.szo 206 = some 2 := by kernel_rfl
theorem ld206 (a : Addr) : vLoad Tryz.prog 206 (.pointer (some a)) w KV = ∃ cs : List Value, (cs.length = 2 ∧ Reads w a cs) ∧ KV (.agg cs.toArray) := ld_st 206 2 a _ Tryz.underlying206 (by kernel_rfl)
theorem bd206 (s0 : ByteArray) (b1 : Bool) : vBuild Tryz.prog 206 [(0, .string s0), (1, .bool b1)] KV = KV (.agg #[.string s0, .bool b1]) := bd_of (by kernel_rfl)
theorem bz206 : vBuild Tryz.prog 206 [] KV = KV (.agg #[.string ⟨#[]⟩, .bool false]) := bd_of (by kernel_rfl)
theorem fd206_0 (l : List Value) : vField Tryz.prog 206 (.agg l.toArray) 0 KV = vNth l 0 KV := fd_cell 206 0 l Tryz.underlying206 rfl (by kernel_rfl) (by kernel_rfl) (by kernel_rfl)
theorem fa206_0 (a : Addr) : vFieldAddr Tryz.prog 206 (.pointer (some a)) 0 KV = KV (.pointer (some (a.add 0))) := fa_st 206 0 a (m := 0) Tryz.underlying206 rfl (by kernel_rfl)
theorem fd206_1 (l : List Value) : vField Tryz.prog 206 (.agg l.toArray) 1 KV = vNth l 1 KV := fd_cell 206 1 l Tryz.underlying206 rfl (by kernel_rfl) (by kernel_rfl) (by kernel_rfl)
theorem fa206_1 (a : Addr) : vFieldAddr Tryz.prog 206 (.pointer (some a)) 1 KV = KV (.pointer (some (a.add 1))) := fa_st 206 1 a (m := 0) Tryz.underlying206 rfl (by kernel_rfl)
theorem sz207 : Tryz.prog.szo 207 = some 2 := by kernel_rfl
theorem ld207 (a : Addr) : vLoad Tryz.prog 207 (.pointer (some a)) w KV = ∃ cs : List Value, (cs.length = 2 ∧ Reads w a cs) ∧ KV (.agg cs.toArray) := ld_st 207 2 a _ Tryz.underlying207 (by kernel_rfl)
theorem bd207 (s0 : ByteArray) (b1 : Bool) : vBuild Tryz.prog 207 [(0, .string s0), (1, .bool b1)] KV = KV (.agg #[.string s0, .bool b1]) := bd_of (by kernel_rfl)
theorem bz207 : vBuild Tryz.prog 207 [] KV = KV (.agg #[.string ⟨#[]⟩, .bool false]) := bd_of (by kernel_rfl)
theorem fd207_0 (l : List Value) : vField Tryz.prog 207 (.agg l.toArray) 0 KV = vNth l 0 KV := fd_cell 207 0 l Tryz.underlying207 rfl (by kernel_rfl) (by kernel_rfl) (by kernel_rfl)
theorem fa207_0 (a : Addr) : vFieldAddr Tryz.prog 207 (.pointer (some a)) 0 KV = KV (.pointer (some (a.add 0))) := fa_st 207 0 a (m := 0) Tryz.underlying207 rfl (by kernel_rfl)
theorem fd207_1 (l : List Value) : vField Tryz.prog 207 (.agg l.toArray) 1 KV = vNth l 1 KV := fd_cell 207 1 l Tryz.underlying207 rfl (by kernel_rfl) (by kernel_rfl) (by kernel_rfl)
theorem fa207_1 (a : Addr) : vFieldAddr Tryz.prog 207 (.pointer (some a)) 1 KV = KV (.pointer (some (a.add 1))) := fa_st 207 1 a (m := 0) Tryz.underlying207 rfl (by kernel_rfl)
theorem sz208 : Tryz.prog.szo 208 = some 1 := by kernel_rfl
theorem pe208 (a : Option Addr) (xo yo : Operand) : vBinO Tryz.prog .eql 208 xo yo (.pointer a) (.pointer none) w KV = KV (.bool a.isNone) := be_ptr Tryz.underlying208 a xo yo
theorem pn208 (a : Option Addr) (xo yo : Operand) : vBinO Tryz.prog .neq 208 xo yo (.pointer a) (.pointer none) w KV = KV (.bool !a.isNone) := bn_ptr Tryz.underlying208 a xo yo
theorem ld208 (a : Addr) : vLoad Tryz.prog 208 (.pointer (some a)) w KV = ∃ v, w.cell? a = some v ∧ KV v := ld_ptr 208 256 a Tryz.underlying208
theorem sz209 : Tryz.prog.szo 209 = some 1 := by kernel_rfl
theorem ldf209 (a : Addr) : vLoad Tryz.prog 209 (.pointer (some a)) w KV = ∃ v, w.cell? a = some v ∧ KV v := ld_fn 209 _ _ _ a Tryz.underlying209
theorem fe209 (f : Fn) (x y : Array Value) (xo yo : Operand) : vBinO Tryz.prog .eql 209 xo yo (.func f x y) .nilFunc w KV = KV (.bool false) := be_fun Tryz.underlying209 f x y xo yo
theorem sz210 : Tryz.prog.szo 210 = some 1 := by kernel_rfl
theorem ldf210 (a : Addr) : vLoad Tryz.prog 210 (.pointer (some a)) w KV = ∃ v, w.cell? a = some v ∧ KV v := ld_fn 210 _ _ _ a Tryz.underlying210
theorem fe210 (f : Fn) (x y : Array Value) (xo yo : Operand) : vBinO Tryz.prog .eql 210 xo yo (.func f x y) .nilFunc w KV = KV (.bool false) := be_fun Tryz.underlying210 f x y xo yo
theorem sz212 : Tryz.prog.szo 212 = some 1 := by kernel_rfl
theorem ldf212 (a : Addr) : vLoad Tryz.prog 212 (.pointer (some a)) w KV = ∃ v, w.cell? a = some v ∧ KV v := ld_fn 212 _ _ _ a Tryz.underlying212
theorem fe212 (f : Fn) (x y : Array Value) (xo yo : Operand) : vBinO Tryz.prog .eql 212 xo yo (.func f x y) .nilFunc w KV = KV (.bool false) := be_fun Tryz.underlying212 f x y xo yo
theorem sz213 : Tryz.prog.szo 213 = some 1 := by kernel_rfl
theorem ln213 (a : Option Addr) (n c : Nat) : vLen Tryz.prog 213 (.slice a n c) KV = KV (.int .i64 n) := ln_sl 213 214 a n c Tryz.underlying213
theorem snn213 (a : Option Addr) (n c : Nat) : vSlice Tryz.prog 213 (.slice a n c) none none KV = (n ≤ c ∧ KV (.slice a n c)) := sl_nn 213 214 a n c 1 Tryz.underlying213 (by kernel_rfl)
theorem sln213 (a : Option Addr) (n c : Nat) (k : IntKind) (l : Int) : vSlice Tryz.prog 213 (.slice a n c) (some (.int k l)) none KV = ((0 ≤ l ∧ l ≤ n ∧ n ≤ c) ∧ KV (.slice (if c = l.toNat then a else a.map (·.add (l.toNat * 1))) (n - l.toNat) (c - l.toNat))) := sl_ln 213 214 a n c 1 k l Tryz.underlying213 (by kernel_rfl)
theorem snh213 (a : Option Addr) (n c : Nat) (k : IntKind) (l : Int) : vSlice Tryz.prog 213 (.slice a n c) none (some (.int k l)) KV = ((0 ≤ l ∧ l ≤ c) ∧ KV (.slice a l.toNat c)) := sl_nh 213 214 a n c 1 k l Tryz.underlying213 (by kernel_rfl)
theorem slh213 (a : Option Addr) (n c : Nat) (k k' : IntKind) (l m : Int) : vSlice Tryz.prog 213 (.slice a n c) (some (.int k l)) (some (.int k' m)) KV = ((0 ≤ l ∧ l ≤ m ∧ m ≤ c) ∧ KV (.slice (if c = l.toNat then a else a.map (·.add (l.toNat * 1))) (m.toNat - l.toNat) (c - l.toNat))) := sl_lh 213 214 a n c 1 k k' l m Tryz.underlying213 (by kernel_rfl)
theorem ia213 (a : Addr) (n c : Nat) (k : IntKind) (i : Int) : vIndexAddr Tryz.prog 213 (.slice (some a) n c) (.int k i) KV = ((0 ≤ i ∧ i < n) ∧ KV (.pointer (some (a.add (i.toNat * 1))))) := ia_sl 213 214 a n c 1 k i Tryz.underlying213 (by kernel_rfl)
theorem ld213 (a : Addr) : vLoad Tryz.prog 213 (.pointer (some a)) w KV = ∃ v, w.cell? a = some v ∧ KV v := ld_sl 213 214 a Tryz.underlying213
theorem sz214 : Tryz.prog.szo 214 = some 1 := by kernel_rfl
theorem ln214 (a : Option Addr) (n c : Nat) : vLen Tryz.prog 214 (.slice a n c) KV = KV (.int .i64 n) := ln_sl 214 3 a n c Tryz.underlying214
theorem snn214 (a : Option Addr) (n c : Nat) : vSlice Tryz.prog 214 (.slice a n c) none none KV = (n ≤ c ∧ KV (.slice a n c)) := sl_nn 214 3 a n c 1 Tryz.underlying214 (by kernel_rfl)
theorem sln214 (a : Option Addr) (n c : Nat) (k : IntKind) (l : Int) : vSlice Tryz.prog 214 (.slice a n c) (some (.int k l)) none KV = ((0 ≤ l ∧ l ≤ n ∧ n ≤ c) ∧ KV (.slice (if c = l.toNat then a else a.map (·.add (l.toNat * 1))) (n - l.toNat) (c - l.toNat))) := sl_ln 214 3 a n c 1 k l Tryz.underlying214 (by kernel_rfl)
theorem snh214 (a : Option Addr) (n c : Nat) (k : IntKind) (l : Int) : vSlice Tryz.prog 214 (.slice a n c) none (some (.int k l)) KV = ((0 ≤ l ∧ l ≤ c) ∧ KV (.slice a l.toNat c)) := sl_nh 214 3 a n c 1 k l Tryz.underlying214 (by kernel_rfl)
theorem slh214 (a : Option Addr) (n c : Nat) (k k' : IntKind) (l m : Int) : vSlice Tryz.prog 214 (.slice a n c) (some (.int k l)) (some (.int k' m)) KV = ((0 ≤ l ∧ l ≤ m ∧ m ≤ c) ∧ KV (.slice (if c = l.toNat then a else a.map (·.add (l.toNat * 1))) (m.toNat - l.toNat) (c - l.toNat))) := sl_lh 214 3 a n c 1 k k' l m Tryz.underlying214 (by kernel_rfl)
theorem ia214 (a : Addr) (n c : Nat) (k : IntKind) (i : Int) : vIndexAddr Tryz.prog 214 (.slice (some a) n c) (.int k i) KV = ((0 ≤ i ∧ i < n) ∧ KV (.pointer (some (a.add (i.toNat * 1))))) := ia_sl 214 3 a n c 1 k i Tryz.underlying214 (by kernel_rfl)
theorem ld214 (a : Addr) : vLoad Tryz.prog 214 (.pointer (some a)) w KV = ∃ v, w.cell? a = some v ∧ KV v := ld_sl 214 3 a Tryz.underlying214
theorem sz215 : Tryz.prog.szo 215 = some 2 := by kernel_rfl
theorem ld215 (a : Addr) : vLoad Tryz.prog 215 (.pointer (some a)) w KV = ∃ cs : List Value, (cs.length = 2 ∧ Reads w a cs) ∧ KV (.agg cs.toArray) := ld_st 215 2 a _ Tryz.underlying215 (by kernel_rfl)
theorem bd215 (a0 : Option Addr) (n0 c0 : Nat) (a1 : Option Addr) (n1 c1 : Nat) : vBuild Tryz.prog 215 [(0, .slice a0 n0 c0), (1, .slice a1 n1 c1)] KV = KV (.agg #[.slice a0 n0 c0, .slice a1 n1 c1]) := bd_of (by kernel_rfl)
theorem bz215 : vBuild Tryz.prog 215 [] KV = KV (.agg #[.slice none 0 0, .slice none 0 0]) := bd_of (by kernel_rfl)
theorem fd215_0 (l : List Value) : vField Tryz.prog 215 (.agg l.toArray) 0 KV = vNth l 0 KV := fd_cell 215 0 l Tryz.underlying215 rfl (by kernel_rfl) (by kernel_rfl) (by kernel_rfl)
theorem fa215_0 (a : Addr) : vFieldAddr Tryz.prog 215 (.pointer (some a)) 0 KV = KV (.pointer (some (a.add 0))) := fa_st 215 0 a (m := 0) Tryz.underlying215 rfl (by kernel_rfl)
theorem fd215_1 (l : List Value) : vField Tryz.prog 215 (.agg l.toArray) 1 KV = vNth l 1 KV := fd_cell 215 1 l Tryz.underlying215 rfl (by kernel_rfl) (by kernel_rfl) (by kernel_rfl)
theorem fa215_1 (a : Addr) : vFieldAddr Tryz.prog 215 (.pointer (some a)) 1 KV = KV (.pointer (some (a.add 1))) := fa_st 215 1 a (m := 0) Tryz.underlying215 rfl (by kernel_rfl)
theorem sz216 : Tryz.prog.szo 216 = some 2 := by kernel_rfl
theorem ld216 (a : Addr) : vLoad Tryz.prog 216 (.pointer (some a)) w KV = ∃ cs : List Value, (cs.length = 2 ∧ Reads w a cs) ∧ KV (.agg cs.toArray) := ld_st 216 2 a _ Tryz.underlying216 (by kernel_rfl)
theorem bd216 (a0 : Option Addr) (n0 c0 : Nat) (a1 : Option Addr) (n1 c1 : Nat) : vBuild Tryz.prog 216 [(0, .slice a0 n0 c0), (1, .slice a1 n1 c1)] KV = KV (.agg #[.slice a0 n0 c0, .slice a1 n1 c1]) := bd_of (by kernel_rfl)
theorem bz216 : vBuild Tryz.prog 216 [] KV = KV (.agg #[.slice none 0 0, .slice none 0 0]) := bd_of (by kernel_rfl)
theorem fd216_0 (l : List Value) : vField Tryz.prog 216 (.agg l.toArray) 0 KV = vNth l 0 KV := fd_cell 216 0 l Tryz.underlying216 rfl (by kernel_rfl) (by kernel_rfl) (by kernel_rfl)
theorem fa216_0 (a : Addr) : vFieldAddr Tryz.prog 216 (.pointer (some a)) 0 KV = KV (.pointer (some (a.add 0))) := fa_st 216 0 a (m := 0) Tryz.underlying216 rfl (by kernel_rfl)
theorem fd216_1 (l : List Value) : vField Tryz.prog 216 (.agg l.toArray) 1 KV = vNth l 1 KV := fd_cell 216 1 l Tryz.underlying216 rfl (by kernel_rfl) (by kernel_rfl) (by kernel_rfl)
theorem fa216_1 (a : Addr) : vFieldAddr Tryz.prog 216 (.pointer (some a)) 1 KV = KV (.pointer (some (a.add 1))) := fa_st 216 1 a (m := 0) Tryz.underlying216 rfl (by kernel_rfl)
theorem sz218 : Tryz.prog.szo 218 = some 1 := by kernel_rfl
theorem ldf218 (a : Addr) : vLoad Tryz.prog 218 (.pointer (some a)) w KV = ∃ v, w.cell? a = some v ∧ KV v := ld_fn 218 _ _ _ a Tryz.underlying218
theorem fe218 (f : Fn) (x y : Array Value) (xo yo : Operand) : vBinO Tryz.prog .eql 218 xo yo (.func f x y) .nilFunc w KV = KV (.bool false) := be_fun Tryz.underlying218 f x y xo yo
theorem sz220 : Tryz.prog.szo 220 = some 1 := by kernel_rfl
theorem ldf220 (a : Addr) : vLoad Tryz.prog 220 (.pointer (some a)) w KV = ∃ v, w.cell? a = some v ∧ KV v := ld_fn 220 _ _ _ a Tryz.underlying220
theorem fe220 (f : Fn) (x y : Array Value) (xo yo : Operand) : vBinO Tryz.prog .eql 220 xo yo (.func f x y) .nilFunc w KV = KV (.bool false) := be_fun Tryz.underlying220 f x y xo yo
theorem sz221 : Tryz.prog.szo 221 = some 1 := by kernel_rfl
theorem ldf221 (a : Addr) : vLoad Tryz.prog 221 (.pointer (some a)) w KV = ∃ v, w.cell? a = some v ∧ KV v := ld_fn 221 _ _ _ a Tryz.underlying221
theorem fe221 (f : Fn) (x y : Array Value) (xo yo : Operand) : vBinO Tryz.prog .eql 221 xo yo (.func f x y) .nilFunc w KV = KV (.bool false) := be_fun Tryz.underlying221 f x y xo yo
theorem sz222 : Tryz.prog.szo 222 = some 1 := by kernel_rfl
theorem ldf222 (a : Addr) : vLoad Tryz.prog 222 (.pointer (some a)) w KV = ∃ v, w.cell? a = some v ∧ KV v := ld_fn 222 _ _ _ a Tryz.underlying222
theorem fe222 (f : Fn) (x y : Array Value) (xo yo : Operand) : vBinO Tryz.prog .eql 222 xo yo (.func f x y) .nilFunc w KV = KV (.bool false) := be_fun Tryz.underlying222 f x y xo yo
theorem sz223 : Tryz.prog.szo 223 = some 1 := by kernel_rfl
theorem ldf223 (a : Addr) : vLoad Tryz.prog 223 (.pointer (some a)) w KV = ∃ v, w.cell? a = some v ∧ KV v := ld_fn 223 _ _ _ a Tryz.underlying223
theorem fe223 (f : Fn) (x y : Array Value) (xo yo : Operand) : vBinO Tryz.prog .eql 223 xo yo (.func f x y) .nilFunc w KV = KV (.bool false) := be_fun Tryz.underlying223 f x y xo yo
theorem sz224 : Tryz.prog.szo 224 = some 1 := by kernel_rfl
theorem ld224 (a : Addr) : vLoad Tryz.prog 224 (.pointer (some a)) w KV = ∃ v, w.cell? a = some v ∧ KV v := ld_int 224 a .i64 Tryz.underlying224
theorem cv224_2 (k : IntKind) (n : Int) : vConv Tryz.prog 224 2 (.int k n) w KV = vWrap .i64 n KV := cv_int 224 2 _ .i64 k n Tryz.underlying224 Tryz.underlying2
theorem cp224_2 : convPure Tryz.prog 224 2 = true := by kernel_rfl
theorem cv224_3 (k : IntKind) (n : Int) : vConv Tryz.prog 224 3 (.int k n) w KV = vWrap .i64 n KV := cv_int 224 3 _ .i64 k n Tryz.underlying224 Tryz.underlying3
theorem cp224_3 : convPure Tryz.prog 224 3 = true := by kernel_rfl
theorem cv224_5 (k : IntKind) (n : Int) : vConv Tryz.prog 224 5 (.int k n) w KV = vWrap .u8 n KV := cv_int 224 5 _ .u8 k n Tryz.underlying224 Tryz.underlying5
theorem cp224_5 : convPure Tryz.prog 224 5 = true := by kernel_rfl
theorem cv224_12 (k : IntKind) (n : Int) : vConv Tryz.prog 224 12 (.int k n) w KV = vWrap .u64 n KV := cv_int 224 12 _ .u64 k n Tryz.underlying224 Tryz.underlying12
theorem cp224_12 : convPure Tryz.prog 224 12 = true := by kernel_rfl
theorem cv224_21 (k : IntKind) (n : Int) : vConv Tryz.prog 224 21 (.int k n) w KV = vWrap .i32 n KV := cv_int 224 21 _ .i32 k n Tryz.underlying224 Tryz.underlying21
theorem cp224_21 : convPure Tryz.prog 224 21 = true := by kernel_rfl
theorem cv224_30 (k : IntKind) (n : Int) : vConv Tryz.prog 224 30 (.int k n) w KV = vWrap .i64 n KV := cv_int 224 30 _ .i64 k n Tryz.underlying224 Tryz.underlying30
theorem cp224_30 : convPure Tryz.prog 224 30 = true := by kernel_rfl
theorem cv224_46 (k : IntKind) (n : Int) : vConv Tryz.prog 224 46 (.int k n) w KV = vWrap .u32 n KV := cv_int 224 46 _ .u32 k n Tryz.underlying224 Tryz.underlying46
theorem cp224_46 : convPure Tryz.prog 224 46 = true := by kernel_rfl
theorem cv224_121 (k : IntKind) (n : Int) : vConv Tryz.prog 224 121 (.int k n) w KV = vWrap .u64 n KV := cv_int 224 121 _ .u64 k n Tryz.underlying224 Tryz.underlying121
theorem cp224_121 : convPure Tryz.prog 224 121 = true := by kernel_rfl
theorem cv224_161 (k : IntKind) (n : Int) : vConv Tryz.prog 224 161 (.int k n) w KV = vWrap .u64 n KV := cv_int 224 161 _ .u64 k n Tryz.underlying224 Tryz.underlying161
theorem cp224_161 : convPure Tryz.prog 224 161 = true := by kernel_rfl
theorem cv224_224 (k : IntKind) (n : Int) : vConv Tryz.prog 224 224 (.int k n) w KV = vWrap .i64 n KV := cv_int 224 224 _ .i64 k n Tryz.underlying224 Tryz.underlying224
theorem cp224_224 : convPure Tryz.prog 224 224 = true := by kernel_rfl
theorem cv224_271 (k : IntKind) (n : Int) : vConv Tryz.prog 224 271 (.int k n) w KV = vWrap .u64 n KV := cv_int 224 271 _ .u64 k n Tryz.underlying224 Tryz.underlying271
theorem cp224_271 : convPure Tryz.prog 224 271 = true := by kernel_rfl
theorem sz226 : Tryz.prog.szo 226 = some 1 := by kernel_rfl
theorem ldf226 (a : Addr) : vLoad Tryz.prog 226 (.pointer (some a)) w KV = ∃ v, w.cell? a = some v ∧ KV v := ld_fn 226 _ _ _ a Tryz.underlying226
theorem fe226 (f : Fn) (x y : Array Value) (xo yo : Operand) : vBinO Tryz.prog .eql 226 xo yo (.func f x y) .nilFunc w KV = KV (.bool false) := be_fun Tryz.underlying226 f x y xo yo
theorem sz227 : Tryz.prog.szo 227 = some 1 := by kernel_rfl
theorem ldf227 (a : Addr) : vLoad Tryz.prog 227 (.pointer (some a)) w KV = ∃ v, w.cell? a = some v ∧ KV v := ld_fn 227 _ _ _ a Tryz.underlying227
theorem fe227 (f : Fn) (x y : Array Value) (xo yo : Operand) : vBinO Tryz.prog .eql 227 xo yo (.func f x y) .nilFunc w KV = KV (.bool false) := be_fun Tryz.underlying227 f x y xo yo
theorem sz228 : Tryz.prog.szo 228 = some 1 := by kernel_rfl
theorem ldf228 (a : Addr) : vLoad Tryz.prog 228 (.pointer (some a)) w KV = ∃ v, w.cell? a = some v ∧ KV v := ld_fn 228 _ _ _ a Tryz.underlying228
theorem fe228 (f : Fn) (x y : Array Value) (xo yo : Operand) : vBinO Tryz.prog .eql 228 xo yo (.func f x y) .nilFunc w KV = KV (.bool false) := be_fun Tryz.underlying228 f x y xo yo
theorem sz230 : Tryz.prog.szo 230 = some 1 := by kernel_rfl
theorem ldf230 (a : Addr) : vLoad Tryz.prog 230 (.pointer (some a)) w KV = ∃ v, w.cell? a = some v ∧ KV v := ld_fn 230 _ _ _ a Tryz.underlying230
theorem fe230 (f : Fn) (x y : Array Value) (xo yo : Operand) : vBinO Tryz.prog .eql 230 xo yo (.func f x y) .nilFunc w KV = KV (.bool false) := be_fun Tryz.underlying230 f x y xo yo
theorem sz231 : Tryz.prog.szo 231 = some 1 := by kernel_rfl
theorem ldf231 (a : Addr) : vLoad Tryz.prog 231 (.pointer (some a)) w KV = ∃ v, w.cell? a = some v ∧ KV v := ld_fn 231 _ _ _ a Tryz.underlying231
theorem fe231 (f : Fn) (x y : Array Value) (xo yo : Operand) : vBinO Tryz.prog .eql 231 xo yo (.func f x y) .nilFunc w KV = KV (.bool false) := be_fun Tryz.underlying231 f x y xo yo
theorem sz232 : Tryz.prog.szo 232 = some 1 := by kernel_rfl
theorem ldf232 (a : Addr) : vLoad Tryz.prog 232 (.pointer (some a)) w KV = ∃ v, w.cell? a = some v ∧ KV v := ld_fn 232 _ _ _ a Tryz.underlying232
theorem fe232 (f : Fn) (x y : Array Value) (xo yo : Operand) : vBinO Tryz.prog .eql 232 xo yo (.func f x y) .nilFunc w KV = KV (.bool false) := be_fun Tryz.underlying232 f x y xo yo
theorem sz233 : Tryz.prog.szo 233 = some 1 := by kernel_rfl
theorem ldf233 (a : Addr) : vLoad Tryz.prog 233 (.pointer (some a)) w KV = ∃ v, w.cell? a = some v ∧ KV v := ld_fn 233 _ _ _ a Tryz.underlying233
theorem fe233 (f : Fn) (x y : Array Value) (xo yo : Operand) : vBinO Tryz.prog .eql 233 xo yo (.func f x y) .nilFunc w KV = KV (.bool false) := be_fun Tryz.underlying233 f x y xo yo
theorem sz234 : Tryz.prog.szo 234 = some 1 := by kernel_rfl
theorem ldf234 (a : Addr) : vLoad Tryz.prog 234 (.pointer (some a)) w KV = ∃ v, w.cell? a = some v ∧ KV v := ld_fn 234 _ _ _ a Tryz.underlying234
theorem fe234 (f : Fn) (x y : Array Value) (xo yo : Operand) : vBinO Tryz.prog .eql 234 xo yo (.func f x y) .nilFunc w KV = KV (.bool false) := be_fun Tryz.underlying234 f x y xo yo
theorem sz235 : Tryz.prog.szo 235 = some 1 := by kernel_rfl
theorem ldf235 (a : Addr) : vLoad Tryz.prog 235 (.pointer (some a)) w KV = ∃ v, w.cell? a = some v ∧ KV v := ld_fn 235 _ _ _ a Tryz.underlying235
theorem fe235 (f : Fn) (x y : Array Value) (xo yo : Operand) : vBinO Tryz.prog .eql 235 xo yo (.func f x y) .nilFunc w KV = KV (.bool false) := be_fun Tryz.underlying235 f x y xo yo
theorem sz236 : Tryz.prog.szo 236 = some 1 := by kernel_rfl
theorem ldf236 (a : Addr) : vLoad Tryz.prog 236 (.pointer (some a)) w KV = ∃ v, w.cell? a = some v ∧ KV v := ld_fn 236 _ _ _ a Tryz.underlying236
theorem fe236 (f : Fn) (x y : Array Value) (xo yo : Operand) : vBinO Tryz.prog .eql 236 xo yo (.func f x y) .nilFunc w KV = KV (.bool false) := be_fun Tryz.underlying236 f x y xo yo
theorem sz238 : Tryz.prog.szo 238 = some 1 := by kernel_rfl
theorem ldf238 (a : Addr) : vLoad Tryz.prog 238 (.pointer (some a)) w KV = ∃ v, w.cell? a = some v ∧ KV v := ld_fn 238 _ _ _ a Tryz.underlying238
theorem fe238 (f : Fn) (x y : Array Value) (xo yo : Operand) : vBinO Tryz.prog .eql 238 xo yo (.func f x y) .nilFunc w KV = KV (.bool false) := be_fun Tryz.underlying238 f x y xo yo
theorem sz239 : Tryz.prog.szo 239 = some 1 := by kernel_rfl
theorem ldf239 (a : Addr) : vLoad Tryz.prog 239 (.pointer (some a)) w KV = ∃ v, w.cell? a = some v ∧ KV v := ld_fn 239 _ _ _ a Tryz.underlying239
theorem fe239 (f : Fn) (x y : Array Value) (xo yo : Operand) : vBinO Tryz.prog .eql 239 xo yo (.func f x y) .nilFunc w KV = KV (.bool false) := be_fun Tryz.underlying239 f x y xo yo
theorem sz241 : Tryz.prog.szo 241 = some 1 := by kernel_rfl
theorem ldf241 (a : Addr) : vLoad Tryz.prog 241 (.pointer (some a)) w KV = ∃ v, w.cell? a = some v ∧ KV v := ld_fn 241 _ _ _ a Tryz.underlying241
theorem fe241 (f : Fn) (x y : Array Value) (xo yo : Operand) : vBinO Tryz.prog .eql 241 xo yo (.func f x y) .nilFunc w KV = KV (.bool false) := be_fun Tryz.underlying241 f x y xo yo
theorem sz242 : Tryz.prog.szo 242 = some 1 := by kernel_rfl
theorem ldf242 (a : Addr) : vLoad Tryz.prog 242 (.pointer (some a)) w KV = ∃ v, w.cell? a = some v ∧ KV v := ld_fn 242 _ _ _ a Tryz.underlying242
theorem fe242 (f : Fn) (x y : Array Value) (xo yo : Operand) : vBinO Tryz.prog .eql 242 xo yo (.func f x y) .nilFunc w KV = KV (.bool false) := be_fun Tryz.underlying242 f x y xo yo
theorem sz243 : Tryz.prog.szo 243 = some 1 := by kernel_rfl
theorem ldf243 (a : Addr) : vLoad Tryz.prog 243 (.pointer (some a)) w KV = ∃ v, w.cell? a = some v ∧ KV v := ld_fn 243 _ _ _ a Tryz.underlying243
theorem fe243 (f : Fn) (x y : Array Value) (xo yo : Operand) : vBinO Tryz.prog .eql 243 xo yo (.func f x y) .nilFunc w KV = KV (.bool false) := be_fun Tryz.underlying243 f x y xo yo
theorem sz244 : Tryz.prog.szo 244 = some 1 := by kernel_rfl
theorem ldf244 (a : Addr) : vLoad Tryz.prog 244 (.pointer (some a)) w KV = ∃ v, w.cell? a = some v ∧ KV v := ld_fn 244 _ _ _ a Tryz.underlying244
theorem fe244 (f : Fn) (x y : Array Value) (xo yo : Operand) : vBinO Tryz.prog .eql 244 xo yo (.func f x y) .nilFunc w KV = KV (.bool false) := be_fun Tryz.underlying244 f x y xo yo
theorem sz245 : Tryz.prog.szo 245 = some 2 := by kernel_rfl
theorem ld245 (a : Addr) : vLoad Tryz.prog 245 (.pointer (some a)) w KV = ∃ cs : List Value, (cs.length = 2 ∧ Reads w a cs) ∧ KV (.agg cs.toArray) := ld_st 245 2 a _ Tryz.underlying245 (by kernel_rfl)
theorem bd245 (a0 : Option Addr) (n0 c0 : Nat) (n1 : Int) : vBuild Tryz.prog 245 [(0, .slice a0 n0 c0), (1, .int .i64 n1)] KV = KV (.agg #[.slice a0 n0 c0, .int .i64 n1]) := bd_of (by kernel_rfl)
theorem bz245 : vBuild Tryz.prog 245 [] KV = KV (.agg #[.slice none 0 0, .int .i64 0]) := bd_of (by kernel_rfl)
theorem fd245_0 (l : List Value) : vField Tryz.prog 245 (.agg l.toArray) 0 KV = vNth l 0 KV := fd_cell 245 0 l Tryz.underlying245 rfl (by kernel_rfl) (by kernel_rfl) (by kernel_rfl)
theorem fa245_0 (a : Addr) : vFieldAddr Tryz.prog 245 (.pointer (some a)) 0 KV = KV (.pointer (some (a.add 0))) := fa_st 245 0 a (m := 0) Tryz.underlying245 rfl (by kernel_rfl)
theorem fd245_1 (l : List Value) : vField Tryz.prog 245 (.agg l.toArray) 1 KV = vNth l 1 KV := fd_cell 245 1 l Tryz.underlying245 rfl (by kernel_rfl) (by kernel_rfl) (by kernel_rfl)
theorem fa245_1 (a : Addr) : vFieldAddr Tryz.prog 245 (.pointer (some a)) 1 KV = KV (.pointer (some (a.add 1))) := fa_st 245 1 a (m := 0) Tryz.underlying245 rfl (by kernel_rfl)
theorem sz246 : Tryz.prog.szo 246 = some 2 := by kernel_rfl
theorem ld246 (a : Addr) : vLoad Tryz.prog 246 (.pointer (some a)) w KV = ∃ cs : List Value, (cs.length = 2 ∧ Reads w a cs) ∧ KV (.agg cs.toArray) := ld_st 246 2 a _ Tryz.underlying246 (by kernel_rfl)
theorem bd246 (a0 : Option Addr) (n0 c0 : Nat) (n1 : Int) : vBuild Tryz.prog 246 [(0, .slice a0 n0 c0), (1, .int .i64 n1)] KV = KV (.agg #[.slice a0 n0 c0, .int .i64 n1]) := bd_of (by kernel_rfl)
theorem bz246 : vBuild Tryz.prog 246 [] KV = KV (.agg #[.slice none 0 0, .int .i64 0]) := bd_of (by kernel_rfl)
theorem fd246_0 (l : List Value) : vField Tryz.prog 246 (.agg l.toArray) 0 KV = vNth l 0 KV := fd_cell 246 0 l Tryz.underlying246 rfl (by kernel_rfl) (by kernel_rfl) (by kernel_rfl)
theorem fa246_0 (a : Addr) : vFieldAddr Tryz.prog 246 (.pointer (some a)) 0 KV = KV (.pointer (some (a.add 0))) := fa_st 246 0 a (m := 0) Tryz.underlying246 rfl (by kernel_rfl)
theorem fd246_1 (l : List Value) : vField Tryz.prog 246 (.agg l.toArray) 1 KV = vNth l 1 KV := fd_cell 246 1 l Tryz.underlying246 rfl (by kernel_rfl) (by kernel_rfl) (by kernel_rfl)
theorem fa246_1 (a : Addr) : vFieldAddr Tryz.prog 246 (.pointer (some a)) 1 KV = KV (.pointer (some (a.add 1))) := fa_st 246 1 a (m := 0) Tryz.underlying246 rfl (by kernel_rfl)
theorem sz247 : Tryz.prog.szo 247 = some 1 := by kernel_rfl
theorem ldf247 (a : Addr) : vLoad Tryz.prog 247 (.pointer (some a)) w KV = ∃ v, w.cell? a = some v ∧ KV v := ld_fn 247 _ _ _ a Tryz.underlying247
theorem fe247 (f : Fn) (x y : Array Value) (xo yo : Operand) : vBinO Tryz.prog .eql 247 xo yo (.func f x y) .nilFunc w KV = KV (.bool false) := be_fun Tryz.underlying247 f x y xo yo
theorem sz249 : Tryz.prog.szo 249 = some 1 := by kernel_rfl
theorem ldf249 (a : Addr) : vLoad Tryz.prog 249 (.pointer (some a)) w KV = ∃ v, w.cell? a = some v ∧ KV v := ld_fn 249 _ _ _ a Tryz.underlying249
theorem fe249 (f : Fn) (x y : Array Value) (xo yo : Operand) : vBinO Tryz.prog .eql 249 xo yo (.func f x y) .nilFunc w KV = KV (.bool false) := be_fun Tryz.underlying249 f x y xo yo
theorem sz250 : Tryz.prog.szo 250 = some 1 := by kernel_rfl
theorem ldf250 (a : Addr) : vLoad Tryz.prog 250 (.pointer (some a)) w KV = ∃ v, w.cell? a = some v ∧ KV v := ld_fn 250 _ _ _ a Tryz.underlying250
theorem fe250 (f : Fn) (x y : Array Value) (xo yo : Operand) : vBinO Tryz.prog .eql 250 xo yo (.func f x y) .nilFunc w KV = KV (.bool false) := be_fun Tryz.underlying250 f x y xo yo
theorem sz251 : Tryz.prog.szo 251 = some 1 := by kernel_rfl
theorem ldf251 (a : Addr) : vLoad Tryz.prog 251 (.pointer (some a)) w KV = ∃ v, w.cell? a = some v ∧ KV v := ld_fn 251 _ _ _ a Tryz.underlying251
theorem fe251 (f : Fn) (x y : Array Value) (xo yo : Operand) : vBinO Tryz.prog .eql 251 xo yo (.func f x y) .nilFunc w KV = KV (.bool false) := be_fun Tryz.underlying251 f x y xo yo
theorem sz252 : Tryz.prog.szo 252 = some 1 := by kernel_rfl
theorem pe252 (a : Option Addr) (xo yo : Operand) : vBinO Tryz.prog .eql 252 xo yo (.pointer a) (.pointer none) w KV = KV (.bool a.isNone) := be_ptr Tryz.underlying252 a xo yo
theorem pn252 (a : Option Addr) (xo yo : Operand) : vBinO Tryz.prog .neq 252 xo yo (.pointer a) (.pointer none) w KV = KV (.bool !a.isNone) := bn_ptr Tryz.underlying252 a xo yo
theorem ld252 (a : Addr) : vLoad Tryz.prog 252 (.pointer (some a)) w KV = ∃ v, w.cell? a = some v ∧ KV v := ld_ptr 252 200 a Tryz.underlying252
theorem sz253 : Tryz.prog.szo 253 = some 1 := by kernel_rfl
theorem ldf253 (a : Addr) : vLoad Tryz.prog 253 (.pointer (some a)) w KV = ∃ v, w.cell? a = some v ∧ KV v := ld_fn 253 _ _ _ a Tryz.underlying253
theorem fe253 (f : Fn) (x y : Array Value) (xo yo : Operand) : vBinO Tryz.prog .eql 253 xo yo (.func f x y) .nilFunc w KV = KV (.bool false) := be_fun Tryz.underlying253 f x y xo yo
theorem sz254 : Tryz.prog.szo 254 = some 1 := by kernel_rfl
theorem ldf254 (a : Addr) : vLoad Tryz.prog 254 (.pointer (some a)) w KV = ∃ v, w.cell? a = some v ∧ KV v := ld_fn 254 _ _ _ a Tryz.underlying254
theorem fe254 (f : Fn) (x y : Array Value) (xo yo : Operand) : vBinO Tryz.prog .eql 254 xo yo (.func f x y) .nilFunc w KV = KV (.bool false) := be_fun Tryz.underlying254 f x y xo yo
theorem sz255 : Tryz.prog.szo 255 = some 3 := by kernel_rfl
theorem ld255 (a : Addr) : vLoad Tryz.prog 255 (.pointer (some a)) w KV = ∃ cs : List Value, (cs.length = 3 ∧ Reads w a cs) ∧ KV (.agg cs.toArray) := ld_st 255 3 a _ Tryz.underlying255 (by kernel_rfl)
theorem bd255 (f0 : Fn) (x0 y0 : Array Value) (n1 : Int) (n2 : Int) : vBuild Tryz.prog 255 [(0, .func f0 x0 y0), (1, .int .i64 n1), (2, .int .i64 n2)] KV = KV (.agg #[.func f0 x0 y0, .int .i64 n1, .int .i64 n2]) := bd_of (by kernel_rfl)
theorem bz255 : vBuild Tryz.prog 255 [] KV = KV (.agg #[.nilFunc, .int .i64 0, .int .i64 0]) := bd_of (by kernel_rfl)
theorem fd255_0 (l : List Value) : vField Tryz.prog 255 (.agg l.toArray) 0 KV = vNth l 0 KV := fd_cell 255 0 l Tryz.underlying255 rfl (by kernel_rfl) (by kernel_rfl) (by kernel_rfl)
theorem fa255_0 (a : Addr) : vFieldAddr Tryz.prog 255 (.pointer (some a)) 0 KV = KV (.pointer (some (a.add 0))) := fa_st 255 0 a (m := 0) Tryz.underlying255 rfl (by kernel_rfl)
theorem fd255_1 (l : List Value) : vField Tryz.prog 255 (.agg l.toArray) 1 KV = vNth l 1 KV := fd_cell 255 1 l Tryz.underlying255 rfl (by kernel_rfl) (by kernel_rfl) (by kernel_rfl)
theorem fa255_1 (a : Addr) : vFieldAddr Tryz.prog 255 (.pointer (some a)) 1 KV = KV (.pointer (some (a.add 1))) := fa_st 255 1 a (m := 0) Tryz.underlying255 rfl (by kernel_rfl)
theorem fd255_2 (l : List Value) : vField Tryz.prog 255 (.agg l.toArray) 2 KV = vNth l 2 KV := fd_cell 255 2 l Tryz.underlying255 rfl (by kernel_rfl) (by kernel_rfl) (by kernel_rfl)
theorem fa255_2 (a : Addr) : vFieldAddr Tryz.prog 255 (.pointer (some a)) 2 KV = KV (.pointer (some (a.add 2))) := fa_st 255 2 a (m := 0) Tryz.underlying255 rfl (by kernel_rfl)
theorem sz256 : Tryz.prog.szo 256 = some 3 := by kernel_rfl
theorem ld256 (a : Addr) : vLoad Tryz.prog 256 (.pointer (some a)) w KV = ∃ cs : List Value, (cs.length = 3 ∧ Reads w a cs) ∧ KV (.agg cs.toArray) := ld_st 256 3 a _ Tryz.underlying256 (by kernel_rfl)
theorem bd256 (f0 : Fn) (x0 y0 : Array Value) (n1 : Int) (n2 : Int) : vBuild Tryz.prog 256 [(0, .func f0 x0 y0), (1, .int .i64 n1), (2, .int .i64 n2)] KV = KV (.agg #[.func f0 x0 y0, .int .i64 n1, .int .i64 n2]) := bd_of (by kernel_rfl)
theorem bz256 : vBuild Tryz.prog 256 [] KV = KV (.agg #[.nilFunc, .int .i64 0, .int .i64 0]) := bd_of (by kernel_rfl)
theorem fd256_0 (l : List Value) : vField Tryz.prog 256 (.agg l.toArray) 0 KV = vNth l 0 KV := fd_cell 256 0 l Tryz.underlying256 rfl (by kernel_rfl) (by kernel_rfl) (by kernel_rfl)
theorem fa256_0 (a : Addr) : vFieldAddr Tryz.prog 256 (.pointer (some a)) 0 KV = KV (.pointer (some (a.add 0))) := fa_st 256 0 a (m := 0) Tryz.underlying256 rfl (by kernel_rfl)
theorem fd256_1 (l : List Value) : vField Tryz.prog 256 (.agg l.toArray) 1 KV = vNth l 1 KV := fd_cell 256 1 l Tryz.underlying256 rfl (by kernel_rfl) (by kernel_rfl) (by kernel_rfl)
theorem fa256_1 (a : Addr) : vFieldAddr Tryz.prog 256 (.pointer (some a)) 1 KV = KV (.pointer (some (a.add 1))) := fa_st 256 1 a (m := 0) Tryz.underlying256 rfl (by kernel_rfl)
theorem fd256_2 (l : List Value) : vField Tryz.prog 256 (.agg l.toArray) 2 KV = vNth l 2 KV := fd_cell 256 2 l Tryz.underlying256 rfl (by kernel_rfl) (by kernel_rfl) (by kernel_rfl)
theorem fa256_2 (a : Addr) : vFieldAddr Tryz.prog 256 (.pointer (some a)) 2 KV = KV (.pointer (some (a.add 2))) := fa_st 256 2 a (m := 0) Tryz.underlying256 rfl (by kernel_rfl)
theorem sz257 : Tryz.prog.szo 257 = some 1 := by kernel_rfl
theorem ld257 (a : Addr) : vLoad Tryz.prog 257 (.pointer (some a)) w KV = ∃ cs : List Value, (cs.length = 1 ∧ Reads w a cs) ∧ KV (.agg cs.toArray) := ld_st 257 1 a _ Tryz.underlying257 (by kernel_rfl)
theorem bd257 (n0 : Int) : vBuild Tryz.prog 257 [(0, .int .i64 n0)] KV = KV (.agg #[.int .i64 n0]) := bd_of (by kernel_rfl)
theorem bz257 : vBuild Tryz.prog 257 [] KV = KV (.agg #[.int .i64 0]) := bd_of (by kernel_rfl)
theorem fd257_0 (l : List Value) : vField Tryz.prog 257 (.agg l.toArray) 0 KV = vNth l 0 KV := fd_cell 257 0 l Tryz.underlying257 rfl (by kernel_rfl) (by kernel_rfl) (by kernel_rfl)
theorem fa257_0 (a : Addr) : vFieldAddr Tryz.prog 257 (.pointer (some a)) 0 KV = KV (.pointer (some (a.add 0))) := fa_st 257 0 a (m := 0) Tryz.underlying257 rfl (by kernel_rfl)
theorem sz258 : Tryz.prog.szo 258 = some 1 := by kernel_rfl
theorem ld258 (a : Addr) : vLoad Tryz.prog 258 (.pointer (some a)) w KV = ∃ cs : List Value, (cs.length = 1 ∧ Reads w a cs) ∧ KV (.agg cs.toArray) := ld_st 258 1 a _ Tryz.underlying258 (by kernel_rfl)
theorem bd258 (n0 : Int) : vBuild Tryz.prog 258 [(0, .int .i64 n0)] KV = KV (.agg #[.int .i64 n0]) := bd_of (by kernel_rfl)
theorem bz258 : vBuild Tryz.prog 258 [] KV = KV (.agg #[.int .i64 0]) := bd_of (by kernel_rfl)
theorem fd258_0 (l : List Value) : vField Tryz.prog 258 (.agg l.toArray) 0 KV = vNth l 0 KV := fd_cell 258 0 l Tryz.underlying258 rfl (by kernel_rfl) (by kernel_rfl) (by kernel_rfl)
theorem fa258_0 (a : Addr) : vFieldAddr Tryz.prog 258 (.pointer (some a)) 0 KV = KV (.pointer (some (a.add 0))) := fa_st 258 0 a (m := 0) Tryz.underlying258 rfl (by kernel_rfl)
theorem sz260 : Tryz.prog.szo 260 = some 1 := by kernel_rfl
theorem ldf260 (a : Addr) : vLoad Tryz.prog 260 (.pointer (some a)) w KV = ∃ v, w.cell? a = some v ∧ KV v := ld_fn 260 _ _ _ a Tryz.underlying260
theorem fe260 (f : Fn) (x y : Array Value) (xo yo : Operand) : vBinO Tryz.prog .eql 260 xo yo (.func f x y) .nilFunc w KV = KV (.bool false) := be_fun Tryz.underlying260 f x y xo yo
theorem sz261 : Tryz.prog.szo 261 = some 1 := by kernel_rfl
theorem ldf261 (a : Addr) : vLoad Tryz.prog 261 (.pointer (some a)) w KV = ∃ v, w.cell? a = some v ∧ KV v := ld_fn 261 _ _ _ a Tryz.underlying261
theorem fe261 (f : Fn) (x y : Array Value) (xo yo : Operand) : vBinO Tryz.prog .eql 261 xo yo (.func f x y) .nilFunc w KV = KV (.bool false) := be_fun Tryz.underlying261 f x y xo yo
theorem sz262 : Tryz.prog.szo 262 = some 1 := by kernel_rfl
theorem ldf262 (a : Addr) : vLoad Tryz.prog 262 (.pointer (some a)) w KV = ∃ v, w.cell? a = some v ∧ KV v := ld_fn 262 _ _ _ a Tryz.underlying262
theorem fe262 (f : Fn) (x y : Array Value) (xo yo : Operand) : vBinO Tryz.prog .eql 262 xo yo (.func f x y) .nilFunc w KV = KV (.bool false) := be_fun Tryz.underlying262 f x y xo yo
theorem sz263 : Tryz.prog.szo 263 = some 1 := by kernel_rfl
theorem ldf263 (a : Addr) : vLoad Tryz.prog 263 (.pointer (some a)) w KV = ∃ v, w.cell? a = some v ∧ KV v := ld_fn 263 _ _ _ a Tryz.underlying263
theorem fe263 (f : Fn) (x y : Array Value) (xo yo : Operand) : vBinO Tryz.prog .eql 263 xo yo (.func f x y) .nilFunc w KV = KV (.bool false) := be_fun Tryz.underlying263 f x y xo yo
theorem sz264 : Tryz.prog.szo 264 = some 1 := by kernel_rfl
theorem ldf264 (a : Addr) : vLoad Tryz.prog 264 (.pointer (some a)) w KV = ∃ v, w.cell? a = some v ∧ KV v := ld_fn 264 _ _ _ a Tryz.underlying264
theorem fe264 (f : Fn) (x y : Array Value) (xo yo : Operand) : vBinO Tryz.prog .eql 264 xo yo (.func f x y) .nilFunc w KV = KV (.bool false) := be_fun Tryz.underlying264 f x y xo yo
theorem sz265 : Tryz.prog.szo 265 = some 1 := by kernel_rfl
theorem ldf265 (a : Addr) : vLoad Tryz.prog 265 (.pointer (some a)) w KV = ∃ v, w.cell? a = some v ∧ KV v := ld_fn 265 _ _ _ a Tryz.underlying265
theorem fe265 (f : Fn) (x y : Array Value) (xo yo : Operand) : vBinO Tryz.prog .eql 265 xo yo (.func f x y) .nilFunc w KV = KV (.bool false) := be_fun Tryz.underlying265 f x y xo yo
theorem sz266 : Tryz.prog.szo 266 = some 1 := by kernel_rfl
theorem ldf266 (a : Addr) : vLoad Tryz.prog 266 (.pointer (some a)) w KV = ∃ v, w.cell? a = some v ∧ KV v := ld_fn 266 _ _ _ a Tryz.underlying266
theorem fe266 (f : Fn) (x y : Array Value) (xo yo : Operand) : vBinO Tryz.prog .eql 266 xo yo (.func f x y) .nilFunc w KV = KV (.bool false) := be_fun Tryz.underlying266 f x y xo yo
theorem sz267 : Tryz.prog.szo 267 = some 1 := by kernel_rfl
theorem ldf267 (a : Addr) : vLoad Tryz.prog 267 (.pointer (some a)) w KV = ∃ v, w.cell? a = some v ∧ KV v := ld_fn 267 _ _ _ a Tryz.underlying267
theorem fe267 (f : Fn) (x y : Array Value) (xo yo : Operand) : vBinO Tryz.prog .eql 267 xo yo (.func f x y) .nilFunc w KV = KV (.bool false) := be_fun Tryz.underlying267 f x y xo yo
theorem sz268 : Tryz.prog.szo 268 = some 1 := by kernel_rfl
theorem ldf268 (a : Addr) : vLoad Tryz.prog 268 (.pointer (some a)) w KV = ∃ v, w.cell? a = some v ∧ KV v := ld_fn 268 _ _ _ a Tryz.underlying268
theorem fe268 (f : Fn) (x y : Array Value) (xo yo : Operand) : vBinO Tryz.prog .eql 268 xo yo (.func f x y) .nilFunc w KV = KV (.bool false) := be_fun Tryz.underlying268 f x y xo yo
theorem sz269 : Tryz.prog.szo 269 = some 1 := by kernel_rfl
theorem ldf269 (a : Addr) : vLoad Tryz.prog 269 (.pointer (some a)) w KV = ∃ v, w.cell? a = some v ∧ KV v := ld_fn 269 _ _ _ a Tryz.underlying269
theorem fe269 (f : Fn) (x y : Array Value) (xo yo : Operand) : vBinO Tryz.prog .eql 269 xo yo (.func f x y) .nilFunc w KV = KV (.bool false) := be_fun Tryz.underlying269 f x y xo yo
theorem sz270 : Tryz.prog.szo 270 = some 1 := by kernel_rfl
theorem ldf270 (a : Addr) : vLoad Tryz.prog 270 (.pointer (some a)) w KV = ∃ v, w.cell? a = some v ∧ KV v := ld_fn 270 _ _ _ a Tryz.underlying270
theorem fe270 (f : Fn) (x y : Array Value) (xo yo : Operand) : vBinO Tryz.prog .eql 270 xo yo (.func f x y) .nilFunc w KV = KV (.bool false) := be_fun Tryz.underlying270 f x y xo yo
theorem sz271 : Tryz.prog.szo 271 = some 1 := by kernel_rfl
theorem ld271 (a : Addr) : vLoad Tryz.prog 271 (.pointer (some a)) w KV = ∃ v, w.cell? a = some v ∧ KV v := ld_int 271 a .u64 Tryz.underlying271
theorem cv271_2 (k : IntKind) (n : Int) : vConv Tryz.prog 271 2 (.int k n) w KV = vWrap .i64 n KV := cv_int 271 2 _ .i64 k n Tryz.underlying271 Tryz.underlying2
theorem cp271_2 : convPure Tryz.prog 271 2 = true := by kernel_rfl
theorem cv271_3 (k : IntKind) (n : Int) : vConv Tryz.prog 271 3 (.int k n) w KV = vWrap .i64 n KV := cv_int 271 3 _ .i64 k n Tryz.underlying271 Tryz.underlying3
theorem cp271_3 : convPure Tryz.prog 271 3 = true := by kernel_rfl
theorem cv271_5 (k : IntKind) (n : Int) : vConv Tryz.prog 271 5 (.int k n) w KV = vWrap .u8 n KV := cv_int 271 5 _ .u8 k n Tryz.underlying271 Tryz.underlying5
theorem cp271_5 : convPure Tryz.prog 271 5 = true := by kernel_rfl
theorem cv271_12 (k : IntKind) (n : Int) : vConv Tryz.prog 271 12 (.int k n) w KV = vWrap .u64 n KV := cv_int 271 12 _ .u64 k n Tryz.underlying271 Tryz.underlying12
theorem cp271_12 : convPure Tryz.prog 271 12 = true := by kernel_rfl
theorem cv271_21 (k : IntKind) (n : Int) : vConv Tryz.prog 271 21 (.int k n) w KV = vWrap .i32 n KV := cv_int 271 21 _ .i32 k n Tryz.underlying271 Tryz.underlying21
theorem cp271_21 : convPure Tryz.prog 271 21 = true := by kernel_rfl
theorem cv271_30 (k : IntKind) (n : Int) : vConv Tryz.prog 271 30 (.int k n) w KV = vWrap .i64 n KV := cv_int 271 30 _ .i64 k n Tryz.underlying271 Tryz.underlying30
theorem cp271_30 : convPure Tryz.prog 271 30 = true := by kernel_rfl
theorem cv271_46 (k : IntKind) (n : Int) : vConv Tryz.prog 271 46 (.int k n) w KV = vWrap .u32 n KV := cv_int 271 46 _ .u32 k n Tryz.underlying271 Tryz.underlying46
theorem cp271_46 : convPure Tryz.prog 271 46 = true := by kernel_rfl
theorem cv271_121 (k : IntKind) (n : Int) : vConv Tryz.prog 271 121 (.int k n) w KV = vWrap .u64 n KV := cv_int 271 121 _ .u64 k n Tryz.underlying271 Tryz.underlying121
theorem cp271_121 : convPure Tryz.prog 271 121 = true := by kernel_rfl
theorem cv271_161 (k : IntKind) (n : Int) : vConv Tryz.prog 271 161 (.int k n) w KV = vWrap .u64 n KV := cv_int 271 161 _ .u64 k n Tryz.underlying271 Tryz.underlying161
theorem cp271_161 : convPure Tryz.prog 271 161 = true := by kernel_rfl
theorem cv271_224 (k : IntKind) (n : Int) : vConv Tryz.prog 271 224 (.int k n) w KV = vWrap .i64 n KV := cv_int 271 224 _ .i64 k n Tryz.underlying271 Tryz.underlying224
theorem cp271_224 : convPure Tryz.prog 271 224 = true := by kernel_rfl
theorem cv271_271 (k : IntKind) (n : Int) : vConv Tryz.prog 271 271 (.int k n) w KV = vWrap .u64 n KV := cv_int 271 271 _ .u64 k n Tryz.underlying271 Tryz.underlying271
theorem cp271_271 : convPure Tryz.prog 271 271 = true := by kernel_rfl
theorem sz272 : Tryz.prog.szo 272 = some 1 := by kernel_rfl
theorem ldf272 (a : Addr) : vLoad Tryz.prog 272 (.pointer (some a)) w KV = ∃ v, w.cell? a = some v ∧ KV v := ld_fn 272 _ _ _ a Tryz.underlying272
theorem fe272 (f : Fn) (x y : Array Value) (xo yo : Operand) : vBinO Tryz.prog .eql 272 xo yo (.func f x y) .nilFunc w KV = KV (.bool false) := be_fun Tryz.underlying272 f x y xo yo
theorem sz273 : Tryz.prog.szo 273 = some 1 := by kernel_rfl
theorem ldf273 (a : Addr) : vLoad Tryz.prog 273 (.pointer (some a)) w KV = ∃ v, w.cell? a = some v ∧ KV v := ld_fn 273 _ _ _ a Tryz.underlying273
theorem fe273 (f : Fn) (x y : Array Value) (xo yo : Operand) : vBinO Tryz.prog .eql 273 xo yo (.func f x y) .nilFunc w KV = KV (.bool false) := be_fun Tryz.underlying273 f x y xo yo
theorem sz274 : Tryz.prog.szo 274 = some 1 := by kernel_rfl
theorem ldf274 (a : Addr) : vLoad Tryz.prog 274 (.pointer (some a)) w KV = ∃ v, w.cell? a = some v ∧ KV v := ld_fn 274 _ _ _ a Tryz.underlying274
theorem fe274 (f : Fn) (x y : Array Value) (xo yo : Operand) : vBinO Tryz.prog .eql 274 xo yo (.func f x y) .nilFunc w KV = KV (.bool false) := be_fun Tryz.underlying274 f x y xo yo
theorem sz275 : Tryz.prog.szo 275 = some 1 := by kernel_rfl
theorem pe275 (a : Option Addr) (xo yo : Operand) : vBinO Tryz.prog .eql 275 xo yo (.pointer a) (.pointer none) w KV = KV (.bool a.isNone) := be_ptr Tryz.underlying275 a xo yo
theorem pn275 (a : Option Addr) (xo yo : Operand) : vBinO Tryz.prog .neq 275 xo yo (.pointer a) (.pointer none) w KV = KV (.bool !a.isNone) := bn_ptr Tryz.underlying275 a xo yo
theorem ld275 (a : Addr) : vLoad Tryz.prog 275 (.pointer (some a)) w KV = ∃ v, w.cell? a = some v ∧ KV v := ld_ptr 275 3 a Tryz.underlying275
theorem sz276 : Tryz.prog.szo 276 = some 1 := by kernel_rfl
theorem ldf276 (a : Addr) : vLoad Tryz.prog 276 (.pointer (some a)) w KV = ∃ v, w.cell? a = some v ∧ KV v := ld_fn 276 _ _ _ a Tryz.underlying276
theorem fe276 (f : Fn) (x y : Array Value) (xo yo : Operand) : vBinO Tryz.prog .eql 276 xo yo (.func f x y) .nilFunc w KV = KV (.bool false) := be_fun Tryz.underlying276 f x y xo yo
theorem sz277 : Tryz.prog.szo 277 = some 1 := by kernel_rfl
theorem ldf277 (a : Addr) : vLoad Tryz.prog 277 (.pointer (some a)) w KV = ∃ v, w.cell? a = some v ∧ KV v := ld_fn 277 _ _ _ a Tryz.underlying277
theorem fe277 (f : Fn) (x y : Array Value) (xo yo : Operand) : vBinO Tryz.prog .eql 277 xo yo (.func f x y) .nilFunc w KV = KV (.bool false) := be_fun Tryz.underlying277 f x y xo yo
theorem sz278 : Tryz.prog.szo 278 = some 1 := by kernel_rfl
theorem ldf278 (a : Addr) : vLoad Tryz.prog 278 (.pointer (some a)) w KV = ∃ v, w.cell? a = some v ∧ KV v := ld_fn 278 _ _ _ a Tryz.underlying278
theorem fe278 (f : Fn) (x y : Array Value) (xo yo : Operand) : vBinO Tryz.prog .eql 278 xo yo (.func f x y) .nilFunc w KV = KV (.bool false) := be_fun Tryz.underlying278 f x y xo yo
theorem sz279 : Tryz.prog.szo 279 = some 2 := by kernel_rfl
theorem ld279 (a : Addr) : vLoad Tryz.prog 279 (.pointer (some a)) w KV = ∃ cs : List Value, (cs.length = 2 ∧ Reads w a cs) ∧ KV (.agg cs.toArray) := ld_st 279 2 a _ Tryz.underlying279 (by kernel_rfl)
theorem bd279 (s0 : ByteArray) (n1 : Int) : vBuild Tryz.prog 279 [(0, .string s0), (1, .int .i64 n1)] KV = KV (.agg #[.string s0, .int .i64 n1]) := bd_of (by kernel_rfl)
theorem bz279 : vBuild Tryz.prog 279 [] KV = KV (.agg #[.string ⟨#[]⟩, .int .i64 0]) := bd_of (by kernel_rfl)
theorem fd279_0 (l : List Value) : vField Tryz.prog 279 (.agg l.toArray) 0 KV = vNth l 0 KV := fd_cell 279 0 l Tryz.underlying279 rfl (by kernel_rfl) (by kernel_rfl) (by kernel_rfl)
theorem fa279_0 (a : Addr) : vFieldAddr Tryz.prog 279 (.pointer (some a)) 0 KV = KV (.pointer (some (a.add 0))) := fa_st 279 0 a (m := 0) Tryz.underlying279 rfl (by kernel_rfl)
theorem fd279_1 (l : List Value) : vField Tryz.prog 279 (.agg l.toArray) 1 KV = vNth l 1 KV := fd_cell 279 1 l Tryz.underlying279 rfl (by kernel_rfl) (by kernel_rfl) (by kernel_rfl)
theorem fa279_1 (a : Addr) : vFieldAddr Tryz.prog 279 (.pointer (some a)) 1 KV = KV (.pointer (some (a.add 1))) := fa_st 279 1 a (m := 0) Tryz.underlying279 rfl (by kernel_rfl)
theorem sz280 : Tryz.prog.szo 280 = some 2 := by kernel_rfl
theorem ld280 (a : Addr) : vLoad Tryz.prog 280 (.pointer (some a)) w KV = ∃ cs : List Value, (cs.length = 2 ∧ Reads w a cs) ∧ KV (.agg cs.toArray) := ld_st 280 2 a _ Tryz.underlying280 (by kernel_rfl)
theorem bd280 (s0 : ByteArray) (n1 : Int) : vBuild Tryz.prog 280 [(0, .string s0), (1, .int .i64 n1)] KV = KV (.agg #[.string s0, .int .i64 n1]) := bd_of (by kernel_rfl)
theorem bz280 : vBuild Tryz.prog 280 [] KV = KV (.agg #[.string ⟨#[]⟩, .int .i64 0]) := bd_of (by kernel_rfl)
theorem fd280_0 (l : List Value) : vField Tryz.prog 280 (.agg l.toArray) 0 KV = vNth l 0 KV := fd_cell 280 0 l Tryz.underlying280 rfl (by kernel_rfl) (by kernel_rfl) (by kernel_rfl)
theorem fa280_0 (a : Addr) : vFieldAddr Tryz.prog 280 (.pointer (some a)) 0 KV = KV (.pointer (some (a.add 0))) := fa_st 280 0 a (m := 0) Tryz.underlying280 rfl (by kernel_rfl)
theorem fd280_1 (l : List Value) : vField Tryz.prog 280 (.agg l.toArray) 1 KV = vNth l 1 KV := fd_cell 280 1 l Tryz.underlying280 rfl (by kernel_rfl) (by kernel_rfl) (by kernel_rfl)
theorem fa280_1 (a : Addr) : vFieldAddr Tryz.prog 280 (.pointer (some a)) 1 KV = KV (.pointer (some (a.add 1))) := fa_st 280 1 a (m := 0) Tryz.underlying280 rfl (by kernel_rfl)
theorem sz281 : Tryz.prog.szo 281 = some 1 := by kernel_rfl
theorem ldf281 (a : Addr) : vLoad Tryz.prog 281 (.pointer (some a)) w KV = ∃ v, w.cell? a = some v ∧ KV v := ld_fn 281 _ _ _ a Tryz.underlying281
theorem fe281 (f : Fn) (x y : Array Value) (xo yo : Operand) : vBinO Tryz.prog .eql 281 xo yo (.func f x y) .nilFunc w KV = KV (.bool false) := be_fun Tryz.underlying281 f x y xo yo
theorem sz282 : Tryz.prog.szo 282 = some 1 := by kernel_rfl
theorem ldf282 (a : Addr) : vLoad Tryz.prog 282 (.pointer (some a)) w KV = ∃ v, w.cell? a = some v ∧ KV v := ld_fn 282 _ _ _ a Tryz.underlying282
theorem fe282 (f : Fn) (x y : Array Value) (xo yo : Operand) : vBinO Tryz.prog .eql 282 xo yo (.func f x y) .nilFunc w KV = KV (.bool false) := be_fun Tryz.underlying282 f x y xo yo
theorem sz283 : Tryz.prog.szo 283 = some 1 := by kernel_rfl
theorem ldf283 (a : Addr) : vLoad Tryz.prog 283 (.pointer (some a)) w KV = ∃ v, w.cell? a = some v ∧ KV v := ld_fn 283 _ _ _ a Tryz.underlying283
theorem fe283 (f : Fn) (x y : Array Value) (xo yo : Operand) : vBinO Tryz.prog .eql 283 xo yo (.func f x y) .nilFunc w KV = KV (.bool false) := be_fun Tryz.underlying283 f x y xo yo
theorem sz284 : Tryz.prog.szo 284 = some 1 := by kernel_rfl
theorem ldf284 (a : Addr) : vLoad Tryz.prog 284 (.pointer (some a)) w KV = ∃ v, w.cell? a = some v ∧ KV v := ld_fn 284 _ _ _ a Tryz.underlying284
theorem fe284 (f : Fn) (x y : Array Value) (xo yo : Operand) : vBinO Tryz.prog .eql 284 xo yo (.func f x y) .nilFunc w KV = KV (.bool false) := be_fun Tryz.underlying284 f x y xo yo
theorem sz285 : Tryz.prog.szo 285 = some 256 := by kernel_rfl
theorem ld285 (a : Addr) : vLoad Tryz.prog 285 (.pointer (some a)) w KV = ∃ cs : List Value, (cs.length = 256 ∧ Reads w a cs) ∧ KV (.agg cs.toArray) := ld_ar 285 256 256 4 a Tryz.underlying285 (by kernel_rfl)
theorem ln285 (v : Value) : vLen Tryz.prog 285 v KV = KV (.int .i64 ((256 : Nat) : Int)) := ln_ar 285 v Tryz.underlying285
theorem ixa285 (l : List Value) (k : IntKind) (i : Int) : vIndex Tryz.prog 285 (.agg l.toArray) (.int k i) KV = ((0 ≤ i ∧ i < ((256 : Nat) : Int)) ∧ vNth l i.toNat KV) := ix_agg 285 l k i Tryz.underlying285 (by kernel_rfl) (by kernel_rfl) (by kernel_rfl)
theorem ia285 (a : Addr) (k : IntKind) (i : Int) : vIndexAddr Tryz.prog 285 (.pointer (some a)) (.int k i) KV = ((0 ≤ i ∧ i < ((256 : Nat) : Int)) ∧ KV (.pointer (some (a.add (i.toNat * 1))))) := ia_ar 285 4 a 256 1 k i Tryz.underlying285 (by kernel_rfl)
theorem sz286 : Tryz.prog.szo 286 = some 1 := by kernel_rfl
theorem ldf286 (a : Addr) : vLoad Tryz.prog 286 (.pointer (some a)) w KV = ∃ v, w.cell? a = some v ∧ KV v := ld_fn 286 _ _ _ a Tryz.underlying286
theorem fe286 (f : Fn) (x y : Array Value) (xo yo : Operand) : vBinO Tryz.prog .eql 286 xo yo (.func f x y) .nilFunc w KV = KV (.bool false) := be_fun Tryz.underlying286 f x y xo yo
theorem sz287 : Tryz.prog.szo 287 = some 1 := by kernel_rfl
theorem ldf287 (a : Addr) : vLoad Tryz.prog 287 (.pointer (some a)) w KV = ∃ v, w.cell? a = some v ∧ KV v := ld_fn 287 _ _ _ a Tryz.underlying287
theorem fe287 (f : Fn) (x y : Array Value) (xo yo : Operand) : vBinO Tryz.prog .eql 287 xo yo (.func f x y) .nilFunc w KV = KV (.bool false) := be_fun Tryz.underlying287 f x y xo yo
theorem sz288 : Tryz.prog.szo 288 = some 16 := by kernel_rfl
theorem ld288 (a : Addr) : vLoad Tryz.prog 288 (.pointer (some a)) w KV = ∃ cs : List Value, (cs.length = 16 ∧ Reads w a cs) ∧ KV (.agg cs.toArray) := ld_ar 288 16 16 161 a Tryz.underlying288 (by kernel_rfl)
theorem ln288 (v : Value) : vLen Tryz.prog 288 v KV = KV (.int .i64 ((16 : Nat) : Int)) := ln_ar 288 v Tryz.underlying288
theorem ixa288 (l : List Value) (k : IntKind) (i : Int) : vIndex Tryz.prog 288 (.agg l.toArray) (.int k i) KV = ((0 ≤ i ∧ i < ((16 : Nat) : Int)) ∧ vNth l i.toNat KV) := ix_agg 288 l k i Tryz.underlying288 (by kernel_rfl) (by kernel_rfl) (by kernel_rfl)
theorem ia288 (a : Addr) (k : IntKind) (i : Int) : vIndexAddr Tryz.prog 288 (.pointer (some a)) (.int k i) KV = ((0 ≤ i ∧ i < ((16 : Nat) : Int)) ∧ KV (.pointer (some (a.add (i.toNat * 1))))) := ia_ar 288 161 a 16 1 k i Tryz.underlying288 (by kernel_rfl)
theorem sz289 : Tryz.prog.szo 289 = some 1 := by kernel_rfl
theorem ldf289 (a : Addr) : vLoad Tryz.prog 289 (.pointer (some a)) w KV = ∃ v, w.cell? a = some v ∧ KV v := ld_fn 289 _ _ _ a Tryz.underlying289
theorem fe289 (f : Fn) (x y : Array Value) (xo yo : Operand) : vBinO Tryz.prog .eql 289 xo yo (.func f x y) .nilFunc w KV = KV (.bool false) := be_fun Tryz.underlying289 f x y xo yo
theorem sz290 : Tryz.prog.szo 290 = some 1 := by kernel_rfl
theorem ldf290 (a : Addr) : vLoad Tryz.prog 290 (.pointer (some a)) w KV = ∃ v, w.cell? a = some v ∧ KV v := ld_fn 290 _ _ _ a Tryz.underlying290
theorem fe290 (f : Fn) (x y : Array Value) (xo yo : Operand) : vBinO Tryz.prog .eql 290 xo yo (.func f x y) .nilFunc w KV = KV (.bool false) := be_fun Tryz.underlying290 f x y xo yo
theorem sz292 : Tryz.prog.szo 292 = some 1 := by kernel_rfl
theorem ldf292 (a : Addr) : vLoad Tryz.prog 292 (.pointer (some a)) w KV = ∃ v, w.cell? a = some v ∧ KV v := ld_fn 292 _ _ _ a Tryz.underlying292
theorem fe292 (f : Fn) (x y : Array Value) (xo yo : Operand) : vBinO Tryz.prog .eql 292 xo yo (.func f x y) .nilFunc w KV = KV (.bool false) := be_fun Tryz.underlying292 f x y xo yo
theorem sz294 : Tryz.prog.szo 294 = some 1 := by kernel_rfl
theorem ldf294 (a : Addr) : vLoad Tryz.prog 294 (.pointer (some a)) w KV = ∃ v, w.cell? a = some v ∧ KV v := ld_fn 294 _ _ _ a Tryz.underlying294
theorem fe294 (f : Fn) (x y : Array Value) (xo yo : Operand) : vBinO Tryz.prog .eql 294 xo yo (.func f x y) .nilFunc w KV = KV (.bool false) := be_fun Tryz.underlying294 f x y xo yo
theorem sz295 : Tryz.prog.szo 295 = some 1 := by kernel_rfl
theorem ldf295 (a : Addr) : vLoad Tryz.prog 295 (.pointer (some a)) w KV = ∃ v, w.cell? a = some v ∧ KV v := ld_fn 295 _ _ _ a Tryz.underlying295
theorem fe295 (f : Fn) (x y : Array Value) (xo yo : Operand) : vBinO Tryz.prog .eql 295 xo yo (.func f x y) .nilFunc w KV = KV (.bool false) := be_fun Tryz.underlying295 f x y xo yo
theorem sz296 : Tryz.prog.szo 296 = some 1 := by kernel_rfl
theorem ldf296 (a : Addr) : vLoad Tryz.prog 296 (.pointer (some a)) w KV = ∃ v, w.cell? a = some v ∧ KV v := ld_fn 296 _ _ _ a Tryz.underlying296
theorem fe296 (f : Fn) (x y : Array Value) (xo yo : Operand) : vBinO Tryz.prog .eql 296 xo yo (.func f x y) .nilFunc w KV = KV (.bool false) := be_fun Tryz.underlying296 f x y xo yo
theorem sz297 : Tryz.prog.szo 297 = some 1 := by kernel_rfl
theorem ldf297 (a : Addr) : vLoad Tryz.prog 297 (.pointer (some a)) w KV = ∃ v, w.cell? a = some v ∧ KV v := ld_fn 297 _ _ _ a Tryz.underlying297
theorem fe297 (f : Fn) (x y : Array Value) (xo yo : Operand) : vBinO Tryz.prog .eql 297 xo yo (.func f x y) .nilFunc w KV = KV (.bool false) := be_fun Tryz.underlying297 f x y xo yo
theorem sz298 : Tryz.prog.szo 298 = some 1 := by kernel_rfl
theorem ldf298 (a : Addr) : vLoad Tryz.prog 298 (.pointer (some a)) w KV = ∃ v, w.cell? a = some v ∧ KV v := ld_fn 298 _ _ _ a Tryz.underlying298
theorem fe298 (f : Fn) (x y : Array Value) (xo yo : Operand) : vBinO Tryz.prog .eql 298 xo yo (.func f x y) .nilFunc w KV = KV (.bool false) := be_fun Tryz.underlying298 f x y xo yo
theorem sz299 : Tryz.prog.szo 299 = some 1 := by kernel_rfl
theorem ldf299 (a : Addr) : vLoad Tryz.prog 299 (.pointer (some a)) w KV = ∃ v, w.cell? a = some v ∧ KV v := ld_fn 299 _ _ _ a Tryz.underlying299
theorem fe299 (f : Fn) (x y : Array Value) (xo yo : Operand) : vBinO Tryz.prog .eql 299 xo yo (.func f x y) .nilFunc w KV = KV (.bool false) := be_fun Tryz.underlying299 f x y xo yo
theorem sz300 : Tryz.prog.szo 300 = some 1 := by kernel_rfl
theorem ldf300 (a : Addr) : vLoad Tryz.prog 300 (.pointer (some a)) w KV = ∃ v, w.cell? a = some v ∧ KV v := ld_fn 300 _ _ _ a Tryz.underlying300
theorem fe300 (f : Fn) (x y : Array Value) (xo yo : Operand) : vBinO Tryz.prog .eql 300 xo yo (.func f x y) .nilFunc w KV = KV (.bool false) := be_fun Tryz.underlying300 f x y xo yo
theorem sz301 : Tryz.prog.szo 301 = some 1 := by kernel_rfl
theorem ldf301 (a : Addr) : vLoad Tryz.prog 301 (.pointer (some a)) w KV = ∃ v, w.cell? a = some v ∧ KV v := ld_fn 301 _ _ _ a Tryz.underlying301
theorem fe301 (f : Fn) (x y : Array Value) (xo yo : Operand) : vBinO Tryz.prog .eql 301 xo yo (.func f x y) .nilFunc w KV = KV (.bool false) := be_fun Tryz.underlying301 f x y xo yo
theorem sz302 : Tryz.prog.szo 302 = some 1 := by kernel_rfl
theorem ldf302 (a : Addr) : vLoad Tryz.prog 302 (.pointer (some a)) w KV = ∃ v, w.cell? a = some v ∧ KV v := ld_fn 302 _ _ _ a Tryz.underlying302
theorem fe302 (f : Fn) (x y : Array Value) (xo yo : Operand) : vBinO Tryz.prog .eql 302 xo yo (.func f x y) .nilFunc w KV = KV (.bool false) := be_fun Tryz.underlying302 f x y xo yo
theorem sz303 : Tryz.prog.szo 303 = some 1 := by kernel_rfl
theorem pe303 (a : Option Addr) (xo yo : Operand) : vBinO Tryz.prog .eql 303 xo yo (.pointer a) (.pointer none) w KV = KV (.bool a.isNone) := be_ptr Tryz.underlying303 a xo yo
theorem pn303 (a : Option Addr) (xo yo : Operand) : vBinO Tryz.prog .neq 303 xo yo (.pointer a) (.pointer none) w KV = KV (.bool !a.isNone) := bn_ptr Tryz.underlying303 a xo yo
theorem ld303 (a : Addr) : vLoad Tryz.prog 303 (.pointer (some a)) w KV = ∃ v, w.cell? a = some v ∧ KV v := ld_ptr 303 334 a Tryz.underlying303
theorem sz305 : Tryz.prog.szo 305 = some 1 := by kernel_rfl
theorem ldf305 (a : Addr) : vLoad Tryz.prog 305 (.pointer (some a)) w KV = ∃ v, w.cell? a = some v ∧ KV v := ld_fn 305 _ _ _ a Tryz.underlying305
theorem fe305 (f : Fn) (x y : Array Value) (xo yo : Operand) : vBinO Tryz.prog .eql 305 xo yo (.func f x y) .nilFunc w KV = KV (.bool false) := be_fun Tryz.underlying305 f x y xo yo
theorem sz306 : Tryz.prog.szo 306 = some 1 := by kernel_rfl
theorem ldf306 (a : Addr) : vLoad Tryz.prog 306 (.pointer (some a)) w KV = ∃ v, w.cell? a = some v ∧ KV v := ld_fn 306 _ _ _ a Tryz.underlying306
theorem fe306 (f : Fn) (x y : Array Value) (xo yo : Operand) : vBinO Tryz.prog .eql 306 xo yo (.func f x y) .nilFunc w KV = KV (.bool false) := be_fun Tryz.underlying306 f x y xo yo
theorem sz307 : Tryz.prog.szo 307 = some 1 := by kernel_rfl
theorem ldf307 (a : Addr) : vLoad Tryz.prog 307 (.pointer (some a)) w KV = ∃ v, w.cell? a = some v ∧ KV v := ld_fn 307 _ _ _ a Tryz.underlying307
theorem fe307 (f : Fn) (x y : Array Value) (xo yo : Operand) : vBinO Tryz.prog .eql 307 xo yo (.func f x y) .nilFunc w KV = KV (.bool false) := be_fun Tryz.underlying307 f x y xo yo
theorem sz308 : Tryz.prog.szo 308 = some 256 := by kernel_rfl
theorem ld308 (a : Addr) : vLoad Tryz.prog 308 (.pointer (some a)) w KV = ∃ cs : List Value, (cs.length = 256 ∧ Reads w a cs) ∧ KV (.agg cs.toArray) := ld_ar 308 256 256 3 a Tryz.underlying308 (by kernel_rfl)
theorem ln308 (v : Value) : vLen Tryz.prog 308 v KV = KV (.int .i64 ((256 : Nat) : Int)) := ln_ar 308 v Tryz.underlying308
theorem ixa308 (l : List Value) (k : IntKind) (i : Int) : vIndex Tryz.prog 308 (.agg l.toArray) (.int k i) KV = ((0 ≤ i ∧ i < ((256 : Nat) : Int)) ∧ vNth l i.toNat KV) := ix_agg 308 l k i Tryz.underlying308 (by kernel_rfl) (by kernel_rfl) (by kernel_rfl)
theorem ia308 (a : Addr) (k : IntKind) (i : Int) : vIndexAddr Tryz.prog 308 (.pointer (some a)) (.int k i) KV = ((0 ≤ i ∧ i < ((256 : Nat) : Int)) ∧ KV (.pointer (some (a.add (i.toNat * 1))))) := ia_ar 308 3 a 256 1 k i Tryz.underlying308 (by kernel_rfl)
theorem sz309 : Tryz.prog.szo 309 = some 2 := by kernel_rfl
theorem ld309 (a : Addr) : vLoad Tryz.prog 309 (.pointer (some a)) w KV = ∃ cs : List Value, (cs.length = 2 ∧ Reads w a cs) ∧ KV (.agg cs.toArray) := ld_st 309 2 a _ Tryz.underlying309 (by kernel_rfl)
theorem bd309 (f0 : Fn) (x0 y0 : Array Value) (n1 : Int) : vBuild Tryz.prog 309 [(0, .func f0 x0 y0), (1, .int .i64 n1)] KV = KV (.agg #[.func f0 x0 y0, .int .i64 n1]) := bd_of (by kernel_rfl)
theorem bz309 : vBuild Tryz.prog 309 [] KV = KV (.agg #[.nilFunc, .int .i64 0]) := bd_of (by kernel_rfl)
theorem fd309_0 (l : List Value) : vField Tryz.prog 309 (.agg l.toArray) 0 KV = vNth l 0 KV := fd_cell 309 0 l Tryz.underlying309 rfl (by kernel_rfl) (by kernel_rfl) (by kernel_rfl)
theorem fa309_0 (a : Addr) : vFieldAddr Tryz.prog 309 (.pointer (some a)) 0 KV = KV (.pointer (some (a.add 0))) := fa_st 309 0 a (m := 0) Tryz.underlying309 rfl (by kernel_rfl)
theorem fd309_1 (l : List Value) : vField Tryz.prog 309 (.agg l.toArray) 1 KV = vNth l 1 KV := fd_cell 309 1 l Tryz.underlying309 rfl (by kernel_rfl) (by kernel_rfl) (by kernel_rfl)
theorem fa309_1 (a : Addr) : vFieldAddr Tryz.prog 309 (.pointer (some a)) 1 KV = KV (.pointer (some (a.add 1))) := fa_st 309 1 a (m := 0) Tryz.underlying309 rfl (by kernel_rfl)
theorem sz310 : Tryz.prog.szo 310 = some 2 := by kernel_rfl
theorem ld310 (a : Addr) : vLoad Tryz.prog 310 (.pointer (some a)) w KV = ∃ cs : List Value, (cs.length = 2 ∧ Reads w a cs) ∧ KV (.agg cs.toArray) := ld_st 310 2 a _ Tryz.underlying310 (by kernel_rfl)
theorem bd310 (f0 : Fn) (x0 y0 : Array Value) (n1 : Int) : vBuild Tryz.prog 310 [(0, .func f0 x0 y0), (1, .int .i64 n1)] KV = KV (.agg #[.func f0 x0 y0, .int .i64 n1]) := bd_of (by kernel_rfl)
theorem bz310 : vBuild Tryz.prog 310 [] KV = KV (.agg #[.nilFunc, .int .i64 0]) := bd_of (by kernel_rfl)
theorem fd310_0 (l : List Value) : vField Tryz.prog 310 (.agg l.toArray) 0 KV = vNth l 0 KV := fd_cell 310 0 l Tryz.underlying310 rfl (by kernel_rfl) (by kernel_rfl) (by kernel_rfl)
theorem fa310_0 (a : Addr) : vFieldAddr Tryz.prog 310 (.pointer (some a)) 0 KV = KV (.pointer (some (a.add 0))) := fa_st 310 0 a (m := 0) Tryz.underlying310 rfl (by kernel_rfl)
theorem fd310_1 (l : List Value) : vField Tryz.prog 310 (.agg l.toArray) 1 KV = vNth l 1 KV := fd_cell 310 1 l Tryz.underlying310 rfl (by kernel_rfl) (by kernel_rfl) (by kernel_rfl)
theorem fa310_1 (a : Addr) : vFieldAddr Tryz.prog 310 (.pointer (some a)) 1 KV = KV (.pointer (some (a.add 1))) := fa_st 310 1 a (m := 0) Tryz.underlying310 rfl (by kernel_rfl)
theorem sz311 : Tryz.prog.szo 311 = some 1 := by kernel_rfl
theorem ldf311 (a : Addr) : vLoad Tryz.prog 311 (.pointer (some a)) w KV = ∃ v, w.cell? a = some v ∧ KV v := ld_fn 311 _ _ _ a Tryz.underlying311
theorem fe311 (f : Fn) (x y : Array Value) (xo yo : Operand) : vBinO Tryz.prog .eql 311 xo yo (.func f x y) .nilFunc w KV = KV (.bool false) := be_fun Tryz.underlying311 f x y xo yo
theorem sz312 : Tryz.prog.szo 312 = some 1 := by kernel_rfl
theorem pe312 (a : Option Addr) (xo yo : Operand) : vBinO Tryz.prog .eql 312 xo yo (.pointer a) (.pointer none) w KV = KV (.bool a.isNone) := be_ptr Tryz.underlying312 a xo yo
theorem pn312 (a : Option Addr) (xo yo : Operand) : vBinO Tryz.prog .neq 312 xo yo (.pointer a) (.pointer none) w KV = KV (.bool !a.isNone) := bn_ptr Tryz.underlying312 a xo yo
theorem ld312 (a : Addr) : vLoad Tryz.prog 312 (.pointer (some a)) w KV = ∃ v, w.cell? a = some v ∧ KV v := ld_ptr 312 271 a Tryz.underlying312
theorem sz314 : Tryz.prog.szo 314 = some 1 := by kernel_rfl
theorem ldf314 (a : Addr) : vLoad Tryz.prog 314 (.pointer (some a)) w KV = ∃ v, w.cell? a = some v ∧ KV v := ld_fn 314 _ _ _ a Tryz.underlying314
theorem fe314 (f : Fn) (x y : Array Value) (xo yo : Operand) : vBinO Tryz.prog .eql 314 xo yo (.func f x y) .nilFunc w KV = KV (.bool false) := be_fun Tryz.underlying314 f x y xo yo
theorem sz315 : Tryz.prog.szo 315 = some 1 := by kernel_rfl
theorem ldf315 (a : Addr) : vLoad Tryz.prog 315 (.pointer (some a)) w KV = ∃ v, w.cell? a = some v ∧ KV v := ld_fn 315 _ _ _ a Tryz.underlying315
theorem fe315 (f : Fn) (x y : Array Value) (xo yo : Operand) : vBinO Tryz.prog .eql 315 xo yo (.func f x y) .nilFunc w KV = KV (.bool false) := be_fun Tryz.underlying315 f x y xo yo
theorem sz316 : Tryz.prog.szo 316 = some 1 := by kernel_rfl
theorem ln316 (a : Option Addr) (n c : Nat) : vLen Tryz.prog 316 (.slice a n c) KV = KV (.int .i64 n) := ln_sl 316 280 a n c Tryz.underlying316
theorem snn316 (a : Option Addr) (n c : Nat) : vSlice Tryz.prog 316 (.slice a n c) none none KV = (n ≤ c ∧ KV (.slice a n c)) := sl_nn 316 280 a n c 2 Tryz.underlying316 (by kernel_rfl)
theorem sln316 (a : Option Addr) (n c : Nat) (k : IntKind) (l : Int) : vSlice Tryz.prog 316 (.slice a n c) (some (.int k l)) none KV = ((0 ≤ l ∧ l ≤ n ∧ n ≤ c) ∧ KV (.slice (if c = l.toNat then a else a.map (·.add (l.toNat * 2))) (n - l.toNat) (c - l.toNat))) := sl_ln 316 280 a n c 2 k l Tryz.underlying316 (by kernel_rfl)
theorem snh316 (a : Option Addr) (n c : Nat) (k : IntKind) (l : Int) : vSlice Tryz.prog 316 (.slice a n c) none (some (.int k l)) KV = ((0 ≤ l ∧ l ≤ c) ∧ KV (.slice a l.toNat c)) := sl_nh 316 280 a n c 2 k l Tryz.underlying316 (by kernel_rfl)
theorem slh316 (a : Option Addr) (n c : Nat) (k k' : IntKind) (l m : Int) : vSlice Tryz.prog 316 (.slice a n c) (some (.int k l)) (some (.int k' m)) KV = ((0 ≤ l ∧ l ≤ m ∧ m ≤ c) ∧ KV (.slice (if c = l.toNat then a else a.map (·.add (l.toNat * 2))) (m.toNat - l.toNat) (c - l.toNat))) := sl_lh 316 280 a n c 2 k k' l m Tryz.underlying316 (by kernel_rfl)
theorem ia316 (a : Addr) (n c : Nat) (k : IntKind) (i : Int) : vIndexAddr Tryz.prog 316 (.slice (some a) n c) (.int k i) KV = ((0 ≤ i ∧ i < n) ∧ KV (.pointer (some (a.add (i.toNat * 2))))) := ia_sl 316 280 a n c 2 k i Tryz.underlying316 (by kernel_rfl)
theorem ld316 (a : Addr) : vLoad Tryz.prog 316 (.pointer (some a)) w KV = ∃ v, w.cell? a = some v ∧ KV v := ld_sl 316 280 a Tryz.underlying316
theorem sz317 : Tryz.prog.szo 317 = some 2 := by kernel_rfl
theorem ld317 (a : Addr) : vLoad Tryz.prog 317 (.pointer (some a)) w KV = ∃ cs : List Value, (cs.length = 2 ∧ Reads w a cs) ∧ KV (.agg cs.toArray) := ld_st 317 2 a _ Tryz.underlying317 (by kernel_rfl)
theorem bd317 (a0 : Option Addr) (n0 c0 : Nat) (n1 : Int) : vBuild Tryz.prog 317 [(0, .slice a0 n0 c0), (1, .int .i64 n1)] KV = KV (.agg #[.slice a0 n0 c0, .int .i64 n1]) := bd_of (by kernel_rfl)
theorem bz317 : vBuild Tryz.prog 317 [] KV = KV (.agg #[.slice none 0 0, .int .i64 0]) := bd_of (by kernel_rfl)
theorem fd317_0 (l : List Value) : vField Tryz.prog 317 (.agg l.toArray) 0 KV = vNth l 0 KV := fd_cell 317 0 l Tryz.underlying317 rfl (by kernel_rfl) (by kernel_rfl) (by kernel_rfl)
theorem fa317_0 (a : Addr) : vFieldAddr Tryz.prog 317 (.pointer (some a)) 0 KV = KV (.pointer (some (a.add 0))) := fa_st 317 0 a (m := 0) Tryz.underlying317 rfl (by kernel_rfl)
theorem fd317_1 (l : List Value) : vField Tryz.prog 317 (.agg l.toArray) 1 KV = vNth l 1 KV := fd_cell 317 1 l Tryz.underlying317 rfl (by kernel_rfl) (by kernel_rfl) (by kernel_rfl)
theorem fa317_1 (a : Addr) : vFieldAddr Tryz.prog 317 (.pointer (some a)) 1 KV = KV (.pointer (some (a.add 1))) := fa_st 317 1 a (m := 0) Tryz.underlying317 rfl (by kernel_rfl)
theorem sz318 : Tryz.prog.szo 318 = some 2 := by kernel_rfl
theorem ld318 (a : Addr) : vLoad Tryz.prog 318 (.pointer (some a)) w KV = ∃ cs : List Value, (cs.length = 2 ∧ Reads w a cs) ∧ KV (.agg cs.toArray) := ld_st 318 2 a _ Tryz.underlying318 (by kernel_rfl)
theorem bd318 (a0 : Option Addr) (n0 c0 : Nat) (n1 : Int) : vBuild Tryz.prog 318 [(0, .slice a0 n0 c0), (1, .int .i64 n1)] KV = KV (.agg #[.slice a0 n0 c0, .int .i64 n1]) := bd_of (by kernel_rfl)
theorem bz318 : vBuild Tryz.prog 318 [] KV = KV (.agg #[.slice none 0 0, .int .i64 0]) := bd_of (by kernel_rfl)
theorem fd318_0 (l : List Value) : vField Tryz.prog 318 (.agg l.toArray) 0 KV = vNth l 0 KV := fd_cell 318 0 l Tryz.underlying318 rfl (by kernel_rfl) (by kernel_rfl) (by kernel_rfl)
theorem fa318_0 (a : Addr) : vFieldAddr Tryz.prog 318 (.pointer (some a)) 0 KV = KV (.pointer (some (a.add 0))) := fa_st 318 0 a (m := 0) Tryz.underlying318 rfl (by kernel_rfl)
theorem fd318_1 (l : List Value) : vField Tryz.prog 318 (.agg l.toArray) 1 KV = vNth l 1 KV := fd_cell 318 1 l Tryz.underlying318 rfl (by kernel_rfl) (by kernel_rfl) (by kernel_rfl)
theorem fa318_1 (a : Addr) : vFieldAddr Tryz.prog 318 (.pointer (some a)) 1 KV = KV (.pointer (some (a.add 1))) := fa_st 318 1 a (m := 0) Tryz.underlying318 rfl (by kernel_rfl)
theorem sz319 : Tryz.prog.szo 319 = some 1 := by kernel_rfl
theorem ldf319 (a : Addr) : vLoad Tryz.prog 319 (.pointer (some a)) w KV = ∃ v, w.cell? a = some v ∧ KV v := ld_fn 319 _ _ _ a Tryz.underlying319
theorem fe319 (f : Fn) (x y : Array Value) (xo yo : Operand) : vBinO Tryz.prog .eql 319 xo yo (.func f x y) .nilFunc w KV = KV (.bool false) := be_fun Tryz.underlying319 f x y xo yo
theorem sz320 : Tryz.prog.szo 320 = some 1 := by kernel_rfl
theorem ldf320 (a : Addr) : vLoad Tryz.prog 320 (.pointer (some a)) w KV = ∃ v, w.cell? a = some v ∧ KV v := ld_fn 320 _ _ _ a Tryz.underlying320
theorem fe320 (f : Fn) (x y : Array Value) (xo yo : Operand) : vBinO Tryz.prog .eql 320 xo yo (.func f x y) .nilFunc w KV = KV (.bool false) := be_fun Tryz.underlying320 f x y xo yo
theorem sz321 : Tryz.prog.szo 321 = some 1 := by kernel_rfl
theorem ldf321 (a : Addr) : vLoad Tryz.prog 321 (.pointer (some a)) w KV = ∃ v, w.cell? a = some v ∧ KV v := ld_fn 321 _ _ _ a Tryz.underlying321
theorem fe321 (f : Fn) (x y : Array Value) (xo yo : Operand) : vBinO Tryz.prog .eql 321 xo yo (.func f x y) .nilFunc w KV = KV (.bool false) := be_fun Tryz.underlying321 f x y xo yo
theorem sz322 : Tryz.prog.szo 322 = some 1 := by kernel_rfl
theorem ldf322 (a : Addr) : vLoad Tryz.prog 322 (.pointer (some a)) w KV = ∃ v, w.cell? a = some v ∧ KV v := ld_fn 322 _ _ _ a Tryz.underlying322
theorem fe322 (f : Fn) (x y : Array Value) (xo yo : Operand) : vBinO Tryz.prog .eql 322 xo yo (.func f x y) .nilFunc w KV = KV (.bool false) := be_fun Tryz.underlying322 f x y xo yo
theorem sz323 : Tryz.prog.szo 323 = some 1 := by kernel_rfl
theorem ldf323 (a : Addr) : vLoad Tryz.prog 323 (.pointer (some a)) w KV = ∃ v, w.cell? a = some v ∧ KV v := ld_fn 323 _ _ _ a Tryz.underlying323
theorem fe323 (f : Fn) (x y : Array Value) (xo yo : Operand) : vBinO Tryz.prog .eql 323 xo yo (.func f x y) .nilFunc w KV = KV (.bool false) := be_fun Tryz.underlying323 f x y xo yo
theorem sz324 : Tryz.prog.szo 324 = some 1 := by kernel_rfl
theorem ldf324 (a : Addr) : vLoad Tryz.prog 324 (.pointer (some a)) w KV = ∃ v, w.cell? a = some v ∧ KV v := ld_fn 324 _ _ _ a Tryz.underlying324
theorem fe324 (f : Fn) (x y : Array Value) (xo yo : Operand) : vBinO Tryz.prog .eql 324 xo yo (.func f x y) .nilFunc w KV = KV (.bool false) := be_fun Tryz.underlying324 f x y xo yo
theorem sz325 : Tryz.prog.szo 325 = some 1 := by kernel_rfl
theorem ldf325 (a : Addr) : vLoad Tryz.prog 325 (.pointer (some a)) w KV = ∃ v, w.cell? a = some v ∧ KV v := ld_fn 325 _ _ _ a Tryz.underlying325
theorem fe325 (f : Fn) (x y : Array Value) (xo yo : Operand) : vBinO Tryz.prog .eql 325 xo yo (.func f x y) .nilFunc w KV = KV (.bool false) := be_fun Tryz.underlying325 f x y xo yo
theorem sz326 : Tryz.prog.szo 326 = some 1 := by kernel_rfl
theorem ldf326 (a : Addr) : vLoad Tryz.prog 326 (.pointer (some a)) w KV = ∃ v, w.cell? a = some v ∧ KV v := ld_fn 326 _ _ _ a Tryz.underlying326
theorem fe326 (f : Fn) (x y : Array Value) (xo yo : Operand) : vBinO Tryz.prog .eql 326 xo yo (.func f x y) .nilFunc w KV = KV (.bool false) := be_fun Tryz.underlying326 f x y xo yo
theorem sz327 : Tryz.prog.szo 327 = some 1 := by kernel_rfl
theorem ldf327 (a : Addr) : vLoad Tryz.prog 327 (.pointer (some a)) w KV = ∃ v, w.cell? a = some v ∧ KV v := ld_fn 327 _ _ _ a Tryz.underlying327
theorem fe327 (f : Fn) (x y : Array Value) (xo yo : Operand) : vBinO Tryz.prog .eql 327 xo yo (.func f x y) .nilFunc w KV = KV (.bool false) := be_fun Tryz.underlying327 f x y xo yo
theorem sz328 : Tryz.prog.szo 328 = some 1 := by kernel_rfl
theorem ldf328 (a : Addr) : vLoad Tryz.prog 328 (.pointer (some a)) w KV = ∃ v, w.cell? a = some v ∧ KV v := ld_fn 328 _ _ _ a Tryz.underlying328
theorem fe328 (f : Fn) (x y : Array Value) (xo yo : Operand) : vBinO Tryz.prog .eql 328 xo yo (.func f x y) .nilFunc w KV = KV (.bool false) := be_fun Tryz.underlying328 f x y xo yo
theorem sz329 : Tryz.prog.szo 329 = some 1 := by kernel_rfl
theorem ldf329 (a : Addr) : vLoad Tryz.prog 329 (.pointer (some a)) w KV = ∃ v, w.cell? a = some v ∧ KV v := ld_fn 329 _ _ _ a Tryz.underlying329
theorem fe329 (f : Fn) (x y : Array Value) (xo yo : Operand) : vBinO Tryz.prog .eql 329 xo yo (.func f x y) .nilFunc w KV = KV (.bool false) := be_fun Tryz.underlying329 f x y xo yo
theorem sz330 : Tryz.prog.szo 330 = some 1 := by kernel_rfl
theorem ld330 (a : Addr) : vLoad Tryz.prog 330 (.pointer (some a)) w KV = ∃ cs : List Value, (cs.length = 1 ∧ Reads w a cs) ∧ KV (.agg cs.toArray) := ld_st 330 1 a _ Tryz.underlying330 (by kernel_rfl)
theorem bd330 (a0 : Option Addr) (n0 c0 : Nat) : vBuild Tryz.prog 330 [(0, .slice a0 n0 c0)] KV = KV (.agg #[.slice a0 n0 c0]) := bd_of (by kernel_rfl)
theorem bz330 : vBuild Tryz.prog 330 [] KV = KV (.agg #[.slice none 0 0]) := bd_of (by kernel_rfl)
theorem fd330_0 (l : List Value) : vField Tryz.prog 330 (.agg l.toArray) 0 KV = vNth l 0 KV := fd_cell 330 0 l Tryz.underlying330 rfl (by kernel_rfl) (by kernel_rfl) (by kernel_rfl)
theorem fa330_0 (a : Addr) : vFieldAddr Tryz.prog 330 (.pointer (some a)) 0 KV = KV (.pointer (some (a.add 0))) := fa_st 330 0 a (m := 0) Tryz.underlying330 rfl (by kernel_rfl)
theorem sz331 : Tryz.prog.szo 331 = some 1 := by kernel_rfl
theorem ld331 (a : Addr) : vLoad Tryz.prog 331 (.pointer (some a)) w KV = ∃ cs : List Value, (cs.length = 1 ∧ Reads w a cs) ∧ KV (.agg cs.toArray) := ld_st 331 1 a _ Tryz.underlying331 (by kernel_rfl)
theorem bd331 (a0 : Option Addr) (n0 c0 : Nat) : vBuild Tryz.prog 331 [(0, .slice a0 n0 c0)] KV = KV (.agg #[.slice a0 n0 c0]) := bd_of (by kernel_rfl)
theorem bz331 : vBuild Tryz.prog 331 [] KV = KV (.agg #[.slice none 0 0]) := bd_of (by kernel_rfl)
theorem fd331_0 (l : List Value) : vField Tryz.prog 331 (.agg l.toArray) 0 KV = vNth l 0 KV := fd_cell 331 0 l Tryz.underlying331 rfl (by kernel_rfl) (by kernel_rfl) (by kernel_rfl)
theorem fa331_0 (a : Addr) : vFieldAddr Tryz.prog 331 (.pointer (some a)) 0 KV = KV (.pointer (some (a.add 0))) := fa_st 331 0 a (m := 0) Tryz.underlying331 rfl (by kernel_rfl)
theorem sz332 : Tryz.prog.szo 332 = some 22 := by kernel_rfl
theorem ld332 (a : Addr) : vLoad Tryz.prog 332 (.pointer (some a)) w KV = ∃ cs : List Value, (cs.length = 22 ∧ Reads w a cs) ∧ KV (.agg cs.toArray) := ld_ar 332 22 22 3 a Tryz.underlying332 (by kernel_rfl)
theorem ln332 (v : Value) : vLen Tryz.prog 332 v KV = KV (.int .i64 ((22 : Nat) : Int)) := ln_ar 332 v Tryz.underlying332
theorem ixa332 (l : List Value) (k : IntKind) (i : Int) : vIndex Tryz.prog 332 (.agg l.toArray) (.int k i) KV = ((0 ≤ i ∧ i < ((22 : Nat) : Int)) ∧ vNth l i.toNat KV) := ix_agg 332 l k i Tryz.underlying332 (by kernel_rfl) (by kernel_rfl) (by kernel_rfl)
theorem ia332 (a : Addr) (k : IntKind) (i : Int) : vIndexAddr Tryz.prog 332 (.pointer (some a)) (.int k i) KV = ((0 ≤ i ∧ i < ((22 : Nat) : Int)) ∧ KV (.pointer (some (a.add (i.toNat * 1))))) := ia_ar 332 3 a 22 1 k i Tryz.underlying332 (by kernel_rfl)
theorem sz333 : Tryz.prog.szo 333 = some 68 := by kernel_rfl
theorem ld333 (a : Addr) : vLoad Tryz.prog 333 (.pointer (some a)) w KV = ∃ cs : List Value, (cs.length = 68 ∧ Reads w a cs) ∧ KV (.agg cs.toArray) := ld_st 333 68 a _ Tryz.underlying333 (by kernel_rfl)
theorem fd333_0 (l : List Value) : vField Tryz.prog 333 (.agg l.toArray) 0 KV = KV (.agg ((l.take 1).drop 0).toArray) := fd_agg 333 0 l 1 Tryz.underlying333 rfl (by kernel_rfl) (by kernel_rfl) (by kernel_rfl)
theorem fa333_0 (a : Addr) : vFieldAddr Tryz.prog 333 (.pointer (some a)) 0 KV = KV (.pointer (some (a.add 0))) := fa_st 333 0 a (m := 0) Tryz.underlying333 rfl (by kernel_rfl)
theorem fd333_1 (l : List Value) : vField Tryz.prog 333 (.agg l.toArray) 1 KV = vNth l 1 KV := fd_cell 333 1 l Tryz.underlying333 rfl (by kernel_rfl) (by kernel_rfl) (by kernel_rfl)
theorem fa333_1 (a : Addr) : vFieldAddr Tryz.prog 333 (.pointer (some a)) 1 KV = KV (.pointer (some (a.add 1))) := fa_st 333 1 a (m := 0) Tryz.underlying333 rfl (by kernel_rfl)
theorem fd333_2 (l : List Value) : vField Tryz.prog 333 (.agg l.toArray) 2 KV = KV (.agg ((l.take 24).drop 2).toArray) := fd_agg 333 2 l 22 Tryz.underlying333 rfl (by kernel_rfl) (by kernel_rfl) (by kernel_rfl)
theorem fa333_2 (a : Addr) : vFieldAddr Tryz.prog 333 (.pointer (some a)) 2 KV = KV (.pointer (some (a.add 2))) := fa_st 333 2 a (m := 21) Tryz.underlying333 rfl (by kernel_rfl)
theorem fd333_3 (l : List Value) : vField Tryz.prog 333 (.agg l.toArray) 3 KV = KV (.agg ((l.take 46).drop 24).toArray) := fd_agg 333 3 l 22 Tryz.underlying333 rfl (by kernel_rfl) (by kernel_rfl) (by kernel_rfl)
theorem fa333_3 (a : Addr) : vFieldAddr Tryz.prog 333 (.pointer (some a)) 3 KV = KV (.pointer (some (a.add 24))) := fa_st 333 3 a (m := 21) Tryz.underlying333 rfl (by kernel_rfl)
theorem fd333_4 (l : List Value) : vField Tryz.prog 333 (.agg l.toArray) 4 KV = KV (.agg ((l.take 68).drop 46).toArray) := fd_agg 333 4 l 22 Tryz.underlying333 rfl (by kernel_rfl) (by kernel_rfl) (by kernel_rfl)
theorem fa333_4 (a : Addr) : vFieldAddr Tryz.prog 333 (.pointer (some a)) 4 KV = KV (.pointer (some (a.add 46))) := fa_st 333 4 a (m := 21) Tryz.underlying333 rfl (by kernel_rfl)
theorem sz334 : Tryz.prog.szo 334 = some 68 := by kernel_rfl
theorem ld334 (a : Addr) : vLoad Tryz.prog 334 (.pointer (some a)) w KV = ∃ cs : List Value, (cs.length = 68 ∧ Reads w a cs) ∧ KV (.agg cs.toArray) := ld_st 334 68 a _ Tryz.underlying334 (by kernel_rfl)
theorem fd334_0 (l : List Value) : vField Tryz.prog 334 (.agg l.toArray) 0 KV = KV (.agg ((l.take 1).drop 0).toArray) := fd_agg 334 0 l 1 Tryz.underlying334 rfl (by kernel_rfl) (by kernel_rfl) (by kernel_rfl)
theorem fa334_0 (a : Addr) : vFieldAddr Tryz.prog 334 (.pointer (some a)) 0 KV = KV (.pointer (some (a.add 0))) := fa_st 334 0 a (m := 0) Tryz.underlying334 rfl (by kernel_rfl)
theorem fd334_1 (l : List Value) : vField Tryz.prog 334 (.agg l.toArray) 1 KV = vNth l 1 KV := fd_cell 334 1 l Tryz.underlying334 rfl (by kernel_rfl) (by kernel_rfl) (by kernel_rfl)
theorem fa334_1 (a : Addr) : vFieldAddr Tryz.prog 334 (.pointer (some a)) 1 KV = KV (.pointer (some (a.add 1))) := fa_st 334 1 a (m := 0) Tryz.underlying334 rfl (by kernel_rfl)
theorem fd334_2 (l : List Value) : vField Tryz.prog 334 (.agg l.toArray) 2 KV = KV (.agg ((l.take 24).drop 2).toArray) := fd_agg 334 2 l 22 Tryz.underlying334 rfl (by kernel_rfl) (by kernel_rfl) (by kernel_rfl)
theorem fa334_2 (a : Addr) : vFieldAddr Tryz.prog 334 (.pointer (some a)) 2 KV = KV (.pointer (some (a.add 2))) := fa_st 334 2 a (m := 21) Tryz.underlying334 rfl (by kernel_rfl)
theorem fd334_3 (l : List Value) : vField Tryz.prog 334 (.agg l.toArray) 3 KV = KV (.agg ((l.take 46).drop 24).toArray) := fd_agg 334 3 l 22 Tryz.underlying334 rfl (by kernel_rfl) (by kernel_rfl) (by kernel_rfl)
theorem fa334_3 (a : Addr) : vFieldAddr Tryz.prog 334 (.pointer (some a)) 3 KV = KV (.pointer (some (a.add 24))) := fa_st 334 3 a (m := 21) Tryz.underlying334 rfl (by kernel_rfl)
theorem fd334_4 (l : List Value) : vField Tryz.prog 334 (.agg l.toArray) 4 KV = KV (.agg ((l.take 68).drop 46).toArray) := fd_agg 334 4 l 22 Tryz.underlying334 rfl (by kernel_rfl) (by kernel_rfl) (by kernel_rfl)
theorem fa334_4 (a : Addr) : vFieldAddr Tryz.prog 334 (.pointer (some a)) 4 KV = KV (.pointer (some (a.add 46))) := fa_st 334 4 a (m := 21) Tryz.underlying334 rfl (by kernel_rfl)
theorem sz335 : Tryz.prog.szo 335 = some 1 := by kernel_rfl
theorem ldf335 (a : Addr) : vLoad Tryz.prog 335 (.pointer (some a)) w KV = ∃ v, w.cell? a = some v ∧ KV v := ld_fn 335 _ _ _ a Tryz.underlying335
theorem fe335 (f : Fn) (x y : Array Value) (xo yo : Operand) : vBinO Tryz.prog .eql 335 xo yo (.func f x y) .nilFunc w KV = KV (.bool false) := be_fun Tryz.underlying335 f x y xo yo
theorem sz336 : Tryz.prog.szo 336 = some 1 := by kernel_rfl
theorem pe336 (a : Option Addr) (xo yo : Operand) : vBinO Tryz.prog .eql 336 xo yo (.pointer a) (.pointer none) w KV = KV (.bool a.isNone) := be_ptr Tryz.underlying336 a xo yo
theorem pn336 (a : Option Addr) (xo yo : Operand) : vBinO Tryz.prog .neq 336 xo yo (.pointer a) (.pointer none) w KV = KV (.bool !a.isNone) := bn_ptr Tryz.underlying336 a xo yo
theorem ld336 (a : Addr) : vLoad Tryz.prog 336 (.pointer (some a)) w KV = ∃ v, w.cell? a = some v ∧ KV v := ld_ptr 336 310 a Tryz.underlying336
theorem sz337 : Tryz.prog.szo 337 = some 1 := by kernel_rfl
theorem ldf337 (a : Addr) : vLoad Tryz.prog 337 (.pointer (some a)) w KV = ∃ v, w.cell? a = some v ∧ KV v := ld_fn 337 _ _ _ a Tryz.underlying337
theorem fe337 (f : Fn) (x y : Array Value) (xo yo : Operand) : vBinO Tryz.prog .eql 337 xo yo (.func f x y) .nilFunc w KV = KV (.bool false) := be_fun Tryz.underlying337 f x y xo yo
theorem sz339 : Tryz.prog.szo 339 = some 1 := by kernel_rfl
theorem ldf339 (a : Addr) : vLoad Tryz.prog 339 (.pointer (some a)) w KV = ∃ v, w.cell? a = some v ∧ KV v := ld_fn 339 _ _ _ a Tryz.underlying339
theorem fe339 (f : Fn) (x y : Array Value) (xo yo : Operand) : vBinO Tryz.prog .eql 339 xo yo (.func f x y) .nilFunc w KV = KV (.bool false) := be_fun Tryz.underlying339 f x y xo yo
theorem sz340 : Tryz.prog.szo 340 = some 1 := by kernel_rfl
theorem ldf340 (a : Addr) : vLoad Tryz.prog 340 (.pointer (some a)) w KV = ∃ v, w.cell? a = some v ∧ KV v := ld_fn 340 _ _ _ a Tryz.underlying340
theorem fe340 (f : Fn) (x y : Array Value) (xo yo : Operand) : vBinO Tryz.prog .eql 340 xo yo (.func f x y) .nilFunc w KV = KV (.bool false) := be_fun Tryz.underlying340 f x y xo yo
theorem sz341 : Tryz.prog.szo 341 = some 1 := by kernel_rfl
theorem ldf341 (a : Addr) : vLoad Tryz.prog 341 (.pointer (some a)) w KV = ∃ v, w.cell? a = some v ∧ KV v := ld_fn 341 _ _ _ a Tryz.underlying341
theorem fe341 (f : Fn) (x y : Array Value) (xo yo : Operand) : vBinO Tryz.prog .eql 341 xo yo (.func f x y) .nilFunc w KV = KV (.bool false) := be_fun Tryz.underlying341 f x y xo yo
theorem sz342 : Tryz.prog.szo 342 = some 4 := by kernel_rfl
theorem ld342 (a : Addr) : vLoad Tryz.prog 342 (.pointer (some a)) w KV = ∃ cs : List Value, (cs.length = 4 ∧ Reads w a cs) ∧ KV (.agg cs.toArray) := ld_ar 342 4 4 3 a Tryz.underlying342 (by kernel_rfl)
theorem ln342 (v : Value) : vLen Tryz.prog 342 v KV = KV (.int .i64 ((4 : Nat) : Int)) := ln_ar 342 v Tryz.underlying342
theorem ixa342 (l : List Value) (k : IntKind) (i : Int) : vIndex Tryz.prog 342 (.agg l.toArray) (.int k i) KV = ((0 ≤ i ∧ i < ((4 : Nat) : Int)) ∧ vNth l i.toNat KV) := ix_agg 342 l k i Tryz.underlying342 (by kernel_rfl) (by kernel_rfl) (by kernel_rfl)
theorem ia342 (a : Addr) (k : IntKind) (i : Int) : vIndexAddr Tryz.prog 342 (.pointer (some a)) (.int k i) KV = ((0 ≤ i ∧ i < ((4 : Nat) : Int)) ∧ KV (.pointer (some (a.add (i.toNat * 1))))) := ia_ar 342 3 a 4 1 k i Tryz.underlying342 (by kernel_rfl)
theorem sz343 : Tryz.prog.szo 343 = some 1 := by kernel_rfl
theorem ldf343 (a : Addr) : vLoad Tryz.prog 343 (.pointer (some a)) w KV = ∃ v, w.cell? a = some v ∧ KV v := ld_fn 343 _ _ _ a Tryz.underlying343
theorem fe343 (f : Fn) (x y : Array Value) (xo yo : Operand) : vBinO Tryz.prog .eql 343 xo yo (.func f x y) .nilFunc w KV = KV (.bool false) := be_fun Tryz.underlying343 f x y xo yo
theorem sz344 : Tryz.prog.szo 344 = some 1 := by kernel_rfl
theorem ldf344 (a : Addr) : vLoad Tryz.prog 344 (.pointer (some a)) w KV = ∃ v, w.cell? a = some v ∧ KV v := ld_fn 344 _ _ _ a Tryz.underlying344
theorem fe344 (f : Fn) (x y : Array Value) (xo yo : Operand) : vBinO Tryz.prog .eql 344 xo yo (.func f x y) .nilFunc w KV = KV (.bool false) := be_fun Tryz.underlying344 f x y xo yo
theorem sz345 : Tryz.prog.szo 345 = some 1 := by kernel_rfl
theorem ln345 (a : Option Addr) (n c : Nat) : vLen Tryz.prog 345 (.slice a n c) KV = KV (.int .i64 n) := ln_sl 345 347 a n c Tryz.underlying345
theorem snn345 (a : Option Addr) (n c : Nat) : vSlice Tryz.prog 345 (.slice a n c) none none KV = (n ≤ c ∧ KV (.slice a n c)) := sl_nn 345 347 a n c 2 Tryz.underlying345 (by kernel_rfl)
theorem sln345 (a : Option Addr) (n c : Nat) (k : IntKind) (l : Int) : vSlice Tryz.prog 345 (.slice a n c) (some (.int k l)) none KV = ((0 ≤ l ∧ l ≤ n ∧ n ≤ c) ∧ KV (.slice (if c = l.toNat then a else a.map (·.add (l.toNat * 2))) (n - l.toNat) (c - l.toNat))) := sl_ln 345 347 a n c 2 k l Tryz.underlying345 (by kernel_rfl)
theorem snh345 (a : Option Addr) (n c : Nat) (k : IntKind) (l : Int) : vSlice Tryz.prog 345 (.slice a n c) none (some (.int k l)) KV = ((0 ≤ l ∧ l ≤ c) ∧ KV (.slice a l.toNat c)) := sl_nh 345 347 a n c 2 k l Tryz.underlying345 (by kernel_rfl)
theorem slh345 (a : Option Addr) (n c : Nat) (k k' : IntKind) (l m : Int) : vSlice Tryz.prog 345 (.slice a n c) (some (.int k l)) (some (.int k' m)) KV = ((0 ≤ l ∧ l ≤ m ∧ m ≤ c) ∧ KV (.slice (if c = l.toNat then a else a.map (·.add (l.toNat * 2))) (m.toNat - l.toNat) (c - l.toNat))) := sl_lh 345 347 a n c 2 k k' l m Tryz.underlying345 (by kernel_rfl)
theorem ia345 (a : Addr) (n c : Nat) (k : IntKind) (i : Int) : vIndexAddr Tryz.prog 345 (.slice (some a) n c) (.int k i) KV = ((0 ≤ i ∧ i < n) ∧ KV (.pointer (some (a.add (i.toNat * 2))))) := ia_sl 345 347 a n c 2 k i Tryz.underlying345 (by kernel_rfl)
theorem ld345 (a : Addr) : vLoad Tryz.prog 345 (.pointer (some a)) w KV = ∃ v, w.cell? a = some v ∧ KV v := ld_sl 345 347 a Tryz.underlying345
theorem sz346 : Tryz.prog.szo 346 = some 2 := by kernel_rfl
theorem ld346 (a : Addr) : vLoad Tryz.prog 346 (.pointer (some a)) w KV = ∃ cs : List Value, (cs.length = 2 ∧ Reads w a cs) ∧ KV (.agg cs.toArray) := ld_st 346 2 a _ Tryz.underlying346 (by kernel_rfl)
theorem bd346 (n0 : Int) (n1 : Int) : vBuild Tryz.prog 346 [(0, .int .i64 n0), (1, .int .i64 n1)] KV = KV (.agg #[.int .i64 n0, .int .i64 n1]) := bd_of (by kernel_rfl)
theorem bz346 : vBuild Tryz.prog 346 [] KV = KV (.agg #[.int .i64 0, .int .i64 0]) := bd_of (by kernel_rfl)
theorem fd346_0 (l : List Value) : vField Tryz.prog 346 (.agg l.toArray) 0 KV = vNth l 0 KV := fd_cell 346 0 l Tryz.underlying346 rfl (by kernel_rfl) (by kernel_rfl) (by kernel_rfl)
theorem fa346_0 (a : Addr) : vFieldAddr Tryz.prog 346 (.pointer (some a)) 0 KV = KV (.pointer (some (a.add 0))) := fa_st 346 0 a (m := 0) Tryz.underlying346 rfl (by kernel_rfl)
theorem fd346_1 (l : List Value) : vField Tryz.prog 346 (.agg l.toArray) 1 KV = vNth l 1 KV := fd_cell 346 1 l Tryz.underlying346 rfl (by kernel_rfl) (by kernel_rfl) (by kernel_rfl)
theorem fa346_1 (a : Addr) : vFieldAddr Tryz.prog 346 (.pointer (some a)) 1 KV = KV (.pointer (some (a.add 1))) := fa_st 346 1 a (m := 0) Tryz.underlying346 rfl (by kernel_rfl)
theorem sz347 : Tryz.prog.szo 347 = some 2 := by kernel_rfl
theorem ld347 (a : Addr) : vLoad Tryz.prog 347 (.pointer (some a)) w KV = ∃ cs : List Value, (cs.length = 2 ∧ Reads w a cs) ∧ KV (.agg cs.toArray) := ld_st 347 2 a _ Tryz.underlying347 (by kernel_rfl)
theorem bd347 (n0 : Int) (n1 : Int) : vBuild Tryz.prog 347 [(0, .int .i64 n0), (1, .int .i64 n1)] KV = KV (.agg #[.int .i64 n0, .int .i64 n1]) := bd_of (by kernel_rfl)
theorem bz347 : vBuild Tryz.prog 347 [] KV = KV (.agg #[.int .i64 0, .int .i64 0]) := bd_of (by kernel_rfl)
theorem fd347_0 (l : List Value) : vField Tryz.prog 347 (.agg l.toArray) 0 KV = vNth l 0 KV := fd_cell 347 0 l Tryz.underlying347 rfl (by kernel_rfl) (by kernel_rfl) (by kernel_rfl)
theorem fa347_0 (a : Addr) : vFieldAddr Tryz.prog 347 (.pointer (some a)) 0 KV = KV (.pointer (some (a.add 0))) := fa_st 347 0 a (m := 0) Tryz.underlying347 rfl (by kernel_rfl)
theorem fd347_1 (l : List Value) : vField Tryz.prog 347 (.agg l.toArray) 1 KV = vNth l 1 KV := fd_cell 347 1 l Tryz.underlying347 rfl (by kernel_rfl) (by kernel_rfl) (by kernel_rfl)
theorem fa347_1 (a : Addr) : vFieldAddr Tryz.prog 347 (.pointer (some a)) 1 KV = KV (.pointer (some (a.add 1))) := fa_st 347 1 a (m := 0) Tryz.underlying347 rfl (by kernel_rfl)
theorem sz348 : Tryz.prog.szo 348 = some 1 := by kernel_rfl
theorem ldf348 (a : Addr) : vLoad Tryz.prog 348 (.pointer (some a)) w KV = ∃ v, w.cell? a = some v ∧ KV v := ld_fn 348 _ _ _ a Tryz.underlying348
theorem fe348 (f : Fn) (x y : Array Value) (xo yo : Operand) : vBinO Tryz.prog .eql 348 xo yo (.func f x y) .nilFunc w KV = KV (.bool false) := be_fun Tryz.underlying348 f x y xo yo
theorem sz349 : Tryz.prog.szo 349 = some 1 := by kernel_rfl
theorem ldf349 (a : Addr) : vLoad Tryz.prog 349 (.pointer (some a)) w KV = ∃ v, w.cell? a = some v ∧ KV v := ld_fn 349 _ _ _ a Tryz.underlying349
theorem fe349 (f : Fn) (x y : Array Value) (xo yo : Operand) : vBinO Tryz.prog .eql 349 xo yo (.func f x y) .nilFunc w KV = KV (.bool false) := be_fun Tryz.underlying349 f x y xo yo
theorem sz350 : Tryz.prog.szo 350 = some 1 := by kernel_rfl
theorem ldf350 (a : Addr) : vLoad Tryz.prog 350 (.pointer (some a)) w KV = ∃ v, w.cell? a = some v ∧ KV v := ld_fn 350 _ _ _ a Tryz.underlying350
theorem fe350 (f : Fn) (x y : Array Value) (xo yo : Operand) : vBinO Tryz.prog .eql 350 xo yo (.func f x y) .nilFunc w KV = KV (.bool false) := be_fun Tryz.underlying350 f x y xo yo
theorem sz351 : Tryz.prog.szo 351 = some 24 := by kernel_rfl
theorem ld351 (a : Addr) : vLoad Tryz.prog 351 (.pointer (some a)) w KV = ∃ cs : List Value, (cs.length = 24 ∧ Reads w a cs) ∧ KV (.agg cs.toArray) := ld_ar 351 24 24 5 a Tryz.underlying351 (by kernel_rfl)
theorem ln351 (v : Value) : vLen Tryz.prog 351 v KV = KV (.int .i64 ((24 : Nat) : Int)) := ln_ar 351 v Tryz.underlying351
theorem ixa351 (l : List Value) (k : IntKind) (i : Int) : vIndex Tryz.prog 351 (.agg l.toArray) (.int k i) KV = ((0 ≤ i ∧ i < ((24 : Nat) : Int)) ∧ vNth l i.toNat KV) := ix_agg 351 l k i Tryz.underlying351 (by kernel_rfl) (by kernel_rfl) (by kernel_rfl)
theorem ia351 (a : Addr) (k : IntKind) (i : Int) : vIndexAddr Tryz.prog 351 (.pointer (some a)) (.int k i) KV = ((0 ≤ i ∧ i < ((24 : Nat) : Int)) ∧ KV (.pointer (some (a.add (i.toNat * 1))))) := ia_ar 351 5 a 24 1 k i Tryz.underlying351 (by kernel_rfl)
theorem sz352 : Tryz.prog.szo 352 = some 1 := by kernel_rfl
theorem ldf352 (a : Addr) : vLoad Tryz.prog 352 (.pointer (some a)) w KV = ∃ v, w.cell? a = some v ∧ KV v := ld_fn 352 _ _ _ a Tryz.underlying352
theorem fe352 (f : Fn) (x y : Array Value) (xo yo : Operand) : vBinO Tryz.prog .eql 352 xo yo (.func f x y) .nilFunc w KV = KV (.bool false) := be_fun Tryz.underlying352 f x y xo yo
theorem sz354 : Tryz.prog.szo 354 = some 1 := by kernel_rfl
theorem ldf354 (a : Addr) : vLoad Tryz.prog 354 (.pointer (some a)) w KV = ∃ v, w.cell? a = some v ∧ KV v := ld_fn 354 _ _ _ a Tryz.underlying354
theorem fe354 (f : Fn) (x y : Array Value) (xo yo : Operand) : vBinO Tryz.prog .eql 354 xo yo (.func f x y) .nilFunc w KV = KV (.bool false) := be_fun Tryz.underlying354 f x y xo yo
theorem sz355 : Tryz.prog.szo 355 = some 1 := by kernel_rfl
theorem ldf355 (a : Addr) : vLoad Tryz.prog 355 (.pointer (some a)) w KV = ∃ v, w.cell? a = some v ∧ KV v := ld_fn 355 _ _ _ a Tryz.underlying355
theorem fe355 (f : Fn) (x y : Array Value) (xo yo : Operand) : vBinO Tryz.prog .eql 355 xo yo (.func f x y) .nilFunc w KV = KV (.bool false) := be_fun Tryz.underlying355 f x y xo yo
theorem sz356 : Tryz.prog.szo 356 = some 1 := by kernel_rfl
theorem ldf356 (a : Addr) : vLoad Tryz.prog 356 (.pointer (some a)) w KV = ∃ v, w.cell? a = some v ∧ KV v := ld_fn 356 _ _ _ a Tryz.underlying356
theorem fe356 (f : Fn) (x y : Array Value) (xo yo : Operand) : vBinO Tryz.prog .eql 356 xo yo (.func f x y) .nilFunc w KV = KV (.bool false) := be_fun Tryz.underlying356 f x y xo yo
theorem sz357 : Tryz.prog.szo 357 = some 1 := by kernel_rfl
theorem ldf357 (a : Addr) : vLoad Tryz.prog 357 (.pointer (some a)) w KV = ∃ v, w.cell? a = some v ∧ KV v := ld_fn 357 _ _ _ a Tryz.underlying357
theorem fe357 (f : Fn) (x y : Array Value) (xo yo : Operand) : vBinO Tryz.prog .eql 357 xo yo (.func f x y) .nilFunc w KV = KV (.bool false) := be_fun Tryz.underlying357 f x y xo yo
theorem sz358 : Tryz.prog.szo 358 = some 1 := by kernel_rfl
theorem ldf358 (a : Addr) : vLoad Tryz.prog 358 (.pointer (some a)) w KV = ∃ v, w.cell? a = some v ∧ KV v := ld_fn 358 _ _ _ a Tryz.underlying358
theorem fe358 (f : Fn) (x y : Array Value) (xo yo : Operand) : vBinO Tryz.prog .eql 358 xo yo (.func f x y) .nilFunc w KV = KV (.bool false) := be_fun Tryz.underlying358 f x y xo yo
theorem sz359 : Tryz.prog.szo 359 = some 1 := by kernel_rfl
theorem ldf359 (a : Addr) : vLoad Tryz.prog 359 (.pointer (some a)) w KV = ∃ v, w.cell? a = some v ∧ KV v := ld_fn 359 _ _ _ a Tryz.underlying359
theorem fe359 (f : Fn) (x y : Array Value) (xo yo : Operand) : vBinO Tryz.prog .eql 359 xo yo (.func f x y) .nilFunc w KV = KV (.bool false) := be_fun Tryz.underlying359 f x y xo yo
theorem sz360 : Tryz.prog.szo 360 = some 1 := by kernel_rfl
theorem ldf360 (a : Addr) : vLoad Tryz.prog 360 (.pointer (some a)) w KV = ∃ v, w.cell? a = some v ∧ KV v := ld_fn 360 _ _ _ a Tryz.underlying360
theorem fe360 (f : Fn) (x y : Array Value) (xo yo : Operand) : vBinO Tryz.prog .eql 360 xo yo (.func f x y) .nilFunc w KV = KV (.bool false) := be_fun Tryz.underlying360 f x y xo yo
theorem sz361 : Tryz.prog.szo 361 = some 1 := by kernel_rfl
theorem ldf361 (a : Addr) : vLoad Tryz.prog 361 (.pointer (some a)) w KV = ∃ v, w.cell? a = some v ∧ KV v := ld_fn 361 _ _ _ a Tryz.underlying361
theorem fe361 (f : Fn) (x y : Array Value) (xo yo : Operand) : vBinO Tryz.prog .eql 361 xo yo (.func f x y) .nilFunc w KV = KV (.bool false) := be_fun Tryz.underlying361 f x y xo yo
theorem sz362 : Tryz.prog.szo 362 = some 1 := by kernel_rfl
theorem ldf362 (a : Addr) : vLoad Tryz.prog 362 (.pointer (some a)) w KV = ∃ v, w.cell? a = some v ∧ KV v := ld_fn 362 _ _ _ a Tryz.underlying362
theorem fe362 (f : Fn) (x y : Array Value) (xo yo : Operand) : vBinO Tryz.prog .eql 362 xo yo (.func f x y) .nilFunc w KV = KV (.bool false) := be_fun Tryz.underlying362 f x y xo yo
theorem sz363 : Tryz.prog.szo 363 = some 1 := by kernel_rfl
theorem ldf363 (a : Addr) : vLoad Tryz.prog 363 (.pointer (some a)) w KV = ∃ v, w.cell? a = some v ∧ KV v := ld_fn 363 _ _ _ a Tryz.underlying363
theorem fe363 (f : Fn) (x y : Array Value) (xo yo : Operand) : vBinO Tryz.prog .eql 363 xo yo (.func f x y) .nilFunc w KV = KV (.bool false) := be_fun Tryz.underlying363 f x y xo yo
theorem sz364 : Tryz.prog.szo 364 = some 256 := by kernel_rfl
theorem ld364 (a : Addr) : vLoad Tryz.prog 364 (.pointer (some a)) w KV = ∃ cs : List Value, (cs.length = 256 ∧ Reads w a cs) ∧ KV (.agg cs.toArray) := ld_ar 364 256 256 5 a Tryz.underlying364 (by kernel_rfl)
theorem ln364 (v : Value) : vLen Tryz.prog 364 v KV = KV (.int .i64 ((256 : Nat) : Int)) := ln_ar 364 v Tryz.underlying364
theorem ixa364 (l : List Value) (k : IntKind) (i : Int) : vIndex Tryz.prog 364 (.agg l.toArray) (.int k i) KV = ((0 ≤ i ∧ i < ((256 : Nat) : Int)) ∧ vNth l i.toNat KV) := ix_agg 364 l k i Tryz.underlying364 (by kernel_rfl) (by kernel_rfl) (by kernel_rfl)
theorem ia364 (a : Addr) (k : IntKind) (i : Int) : vIndexAddr Tryz.prog 364 (.pointer (some a)) (.int k i) KV = ((0 ≤ i ∧ i < ((256 : Nat) : Int)) ∧ KV (.pointer (some (a.add (i.toNat * 1))))) := ia_ar 364 5 a 256 1 k i Tryz.underlying364 (by kernel_rfl)
theorem sz365 : Tryz.prog.szo 365 = some 2 := by kernel_rfl
theorem ld365 (a : Addr) : vLoad Tryz.prog 365 (.pointer (some a)) w KV = ∃ cs : List Value, (cs.length = 2 ∧ Reads w a cs) ∧ KV (.agg cs.toArray) := ld_st 365 2 a _ Tryz.underlying365 (by kernel_rfl)
theorem bd365 (n0 : Int) (n1 : Int) : vBuild Tryz.prog 365 [(0, .int .u8 n0), (1, .int .u8 n1)] KV = KV (.agg #[.int .u8 n0, .int .u8 n1]) := bd_of (by kernel_rfl)
theorem bz365 : vBuild Tryz.prog 365 [] KV = KV (.agg #[.int .u8 0, .int .u8 0]) := bd_of (by kernel_rfl)
theorem fd365_0 (l : List Value) : vField Tryz.prog 365 (.agg l.toArray) 0 KV = vNth l 0 KV := fd_cell 365 0 l Tryz.underlying365 rfl (by kernel_rfl) (by kernel_rfl) (by kernel_rfl)
theorem fa365_0 (a : Addr) : vFieldAddr Tryz.prog 365 (.pointer (some a)) 0 KV = KV (.pointer (some (a.add 0))) := fa_st 365 0 a (m := 0) Tryz.underlying365 rfl (by kernel_rfl)
theorem fd365_1 (l : List Value) : vField Tryz.prog 365 (.agg l.toArray) 1 KV = vNth l 1 KV := fd_cell 365 1 l Tryz.underlying365 rfl (by kernel_rfl) (by kernel_rfl) (by kernel_rfl)
theorem fa365_1 (a : Addr) : vFieldAddr Tryz.prog 365 (.pointer (some a)) 1 KV = KV (.pointer (some (a.add 1))) := fa_st 365 1 a (m := 0) Tryz.underlying365 rfl (by kernel_rfl)
theorem sz366 : Tryz.prog.szo 366 = some 2 := by kernel_rfl
theorem ld366 (a : Addr) : vLoad Tryz.prog 366 (.pointer (some a)) w KV = ∃ cs : List Value, (cs.length = 2 ∧ Reads w a cs) ∧ KV (.agg cs.toArray) := ld_st 366 2 a _ Tryz.underlying366 (by kernel_rfl)
theorem bd366 (n0 : Int) (n1 : Int) : vBuild Tryz.prog 366 [(0, .int .u8 n0), (1, .int .u8 n1)] KV = KV (.agg #[.int .u8 n0, .int .u8 n1]) := bd_of (by kernel_rfl)
theorem bz366 : vBuild Tryz.prog 366 [] KV = KV (.agg #[.int .u8 0, .int .u8 0]) := bd_of (by kernel_rfl)
theorem fd366_0 (l : List Value) : vField Tryz.prog 366 (.agg l.toArray) 0 KV = vNth l 0 KV := fd_cell 366 0 l Tryz.underlying366 rfl (by kernel_rfl) (by kernel_rfl) (by kernel_rfl)
theorem fa366_0 (a : Addr) : vFieldAddr Tryz.prog 366 (.pointer (some a)) 0 KV = KV (.pointer (some (a.add 0))) := fa_st 366 0 a (m := 0) Tryz.underlying366 rfl (by kernel_rfl)
theorem fd366_1 (l : List Value) : vField Tryz.prog 366 (.agg l.toArray) 1 KV = vNth l 1 KV := fd_cell 366 1 l Tryz.underlying366 rfl (by kernel_rfl) (by kernel_rfl) (by kernel_rfl)
theorem fa366_1 (a : Addr) : vFieldAddr Tryz.prog 366 (.pointer (some a)) 1 KV = KV (.pointer (some (a.add 1))) := fa_st 366 1 a (m := 0) Tryz.underlying366 rfl (by kernel_rfl)
theorem sz367 : Tryz.prog.szo 367 = some 32 := by kernel_rfl
theorem ld367 (a : Addr) : vLoad Tryz.prog 367 (.pointer (some a)) w KV = ∃ cs : List Value, (cs.length = 32 ∧ Reads w a cs) ∧ KV (.agg cs.toArray) := ld_ar 367 32 16 366 a Tryz.underlying367 (by kernel_rfl)
theorem ln367 (v : Value) : vLen Tryz.prog 367 v KV = KV (.int .i64 ((16 : Nat) : Int)) := ln_ar 367 v Tryz.underlying367
theorem ia367 (a : Addr) (k : IntKind) (i : Int) : vIndexAddr Tryz.prog 367 (.pointer (some a)) (.int k i) KV = ((0 ≤ i ∧ i < ((16 : Nat) : Int)) ∧ KV (.pointer (some (a.add (i.toNat * 2))))) := ia_ar 367 366 a 16 2 k i Tryz.underlying367 (by kernel_rfl)
theorem sz368 : Tryz.prog.szo 368 = some 1 := by kernel_rfl
theorem ldf368 (a : Addr) : vLoad Tryz.prog 368 (.pointer (some a)) w KV = ∃ v, w.cell? a = some v ∧ KV v := ld_fn 368 _ _ _ a Tryz.underlying368
theorem fe368 (f : Fn) (x y : Array Value) (xo yo : Operand) : vBinO Tryz.prog .eql 368 xo yo (.func f x y) .nilFunc w KV = KV (.bool false) := be_fun Tryz.underlying368 f x y xo yo
theorem sz369 : Tryz.prog.szo 369 = some 20 := by kernel_rfl
theorem ld369 (a : Addr) : vLoad Tryz.prog 369 (.pointer (some a)) w KV = ∃ cs : List Value, (cs.length = 20 ∧ Reads w a cs) ∧ KV (.agg cs.toArray) := ld_ar 369 20 20 161 a Tryz.underlying369 (by kernel_rfl)
theorem ln369 (v : Value) : vLen Tryz.prog 369 v KV = KV (.int .i64 ((20 : Nat) : Int)) := ln_ar 369 v Tryz.underlying369
theorem ixa369 (l : List Value) (k : IntKind) (i : Int) : vIndex Tryz.prog 369 (.agg l.toArray) (.int k i) KV = ((0 ≤ i ∧ i < ((20 : Nat) : Int)) ∧ vNth l i.toNat KV) := ix_agg 369 l k i Tryz.underlying369 (by kernel_rfl) (by kernel_rfl) (by kernel_rfl)
theorem ia369 (a : Addr) (k : IntKind) (i : Int) : vIndexAddr Tryz.prog 369 (.pointer (some a)) (.int k i) KV = ((0 ≤ i ∧ i < ((20 : Nat) : Int)) ∧ KV (.pointer (some (a.add (i.toNat * 1))))) := ia_ar 369 161 a 20 1 k i Tryz.underlying369 (by kernel_rfl)
theorem sz370 : Tryz.prog.szo 370 = some 65 := by kernel_rfl
theorem ld370 (a : Addr) : vLoad Tryz.prog 370 (.pointer (some a)) w KV = ∃ cs : List Value, (cs.length = 65 ∧ Reads w a cs) ∧ KV (.agg cs.toArray) := ld_ar 370 65 65 5 a Tryz.underlying370 (by kernel_rfl)
theorem ln370 (v : Value) : vLen Tryz.prog 370 v KV = KV (.int .i64 ((65 : Nat) : Int)) := ln_ar 370 v Tryz.underlying370
theorem ixa370 (l : List Value) (k : IntKind) (i : Int) : vIndex Tryz.prog 370 (.agg l.toArray) (.int k i) KV = ((0 ≤ i ∧ i < ((65 : Nat) : Int)) ∧ vNth l i.toNat KV) := ix_agg 370 l k i Tryz.underlying370 (by kernel_rfl) (by kernel_rfl) (by kernel_rfl)
theorem ia370 (a : Addr) (k : IntKind) (i : Int) : vIndexAddr Tryz.prog 370 (.pointer (some a)) (.int k i) KV = ((0 ≤ i ∧ i < ((65 : Nat) : Int)) ∧ KV (.pointer (some (a.add (i.toNat * 1))))) := ia_ar 370 5 a 65 1 k i Tryz.underlying370 (by kernel_rfl)
theorem sz371 : Tryz.prog.szo 371 = some 1 := by kernel_rfl
theorem ldf371 (a : Addr) : vLoad Tryz.prog 371 (.pointer (some a)) w KV = ∃ v, w.cell? a = some v ∧ KV v := ld_fn 371 _ _ _ a Tryz.underlying371
theorem fe371 (f : Fn) (x y : Array Value) (xo yo : Operand) : vBinO Tryz.prog .eql 371 xo yo (.func f x y) .nilFunc w KV = KV (.bool false) := be_fun Tryz.underlying371 f x y xo yo
theorem sz372 : Tryz.prog.szo 372 = some 1 := by kernel_rfl
theorem ldf372 (a : Addr) : vLoad Tryz.prog 372 (.pointer (some a)) w KV = ∃ v, w.cell? a = some v ∧ KV v := ld_fn 372 _ _ _ a Tryz.underlying372
theorem fe372 (f : Fn) (x y : Array Value) (xo yo : Operand) : vBinO Tryz.prog .eql 372 xo yo (.func f x y) .nilFunc w KV = KV (.bool false) := be_fun Tryz.underlying372 f x y xo yo
theorem sz373 : Tryz.prog.szo 373 = some 1 := by kernel_rfl
theorem ldf373 (a : Addr) : vLoad Tryz.prog 373 (.pointer (some a)) w KV = ∃ v, w.cell? a = some v ∧ KV v := ld_fn 373 _ _ _ a Tryz.underlying373
theorem fe373 (f : Fn) (x y : Array Value) (xo yo : Operand) : vBinO Tryz.prog .eql 373 xo yo (.func f x y) .nilFunc w KV = KV (.bool false) := be_fun Tryz.underlying373 f x y xo yo
theorem sz374 : Tryz.prog.szo 374 = some 1 := by kernel_rfl
theorem ldf374 (a : Addr) : vLoad Tryz.prog 374 (.pointer (some a)) w KV = ∃ v, w.cell? a = some v ∧ KV v := ld_fn 374 _ _ _ a Tryz.underlying374
theorem fe374 (f : Fn) (x y : Array Value) (xo yo : Operand) : vBinO Tryz.prog .eql 374 xo yo (.func f x y) .nilFunc w KV = KV (.bool false) := be_fun Tryz.underlying374 f x y xo yo
theorem sz375 : Tryz.prog.szo 375 = some 1 := by kernel_rfl
theorem ldf375 (a : Addr) : vLoad Tryz.prog 375 (.pointer (some a)) w KV = ∃ v, w.cell? a = some v ∧ KV v := ld_fn 375 _ _ _ a Tryz.underlying375
theorem fe375 (f : Fn) (x y : Array Value) (xo yo : Operand) : vBinO Tryz.prog .eql 375 xo yo (.func f x y) .nilFunc w KV = KV (.bool false) := be_fun Tryz.underlying375 f x y xo yo
theorem sz376 : Tryz.prog.szo 376 = some 1 := by kernel_rfl
theorem ldf376 (a : Addr) : vLoad Tryz.prog 376 (.pointer (some a)) w KV = ∃ v, w.cell? a = some v ∧ KV v := ld_fn 376 _ _ _ a Tryz.underlying376
theorem fe376 (f : Fn) (x y : Array Value) (xo yo : Operand) : vBinO Tryz.prog .eql 376 xo yo (.func f x y) .nilFunc w KV = KV (.bool false) := be_fun Tryz.underlying376 f x y xo yo
theorem sz377 : Tryz.prog.szo 377 = some 1 := by kernel_rfl
theorem ldf377 (a : Addr) : vLoad Tryz.prog 377 (.pointer (some a)) w KV = ∃ v, w.cell? a = some v ∧ KV v := ld_fn 377 _ _ _ a Tryz.underlying377
theorem fe377 (f : Fn) (x y : Array Value) (xo yo : Operand) : vBinO Tryz.prog .eql 377 xo yo (.func f x y) .nilFunc w KV = KV (.bool false) := be_fun Tryz.underlying377 f x y xo yo
theorem sz378 : Tryz.prog.szo 378 = some 1 := by kernel_rfl
theorem ldf378 (a : Addr) : vLoad Tryz.prog 378 (.pointer (some a)) w KV = ∃ v, w.cell? a = some v ∧ KV v := ld_fn 378 _ _ _ a Tryz.underlying378
theorem fe378 (f : Fn) (x y : Array Value) (xo yo : Operand) : vBinO Tryz.prog .eql 378 xo yo (.func f x y) .nilFunc w KV = KV (.bool false) := be_fun Tryz.underlying378 f x y xo yo
theorem sz379 : Tryz.prog.szo 379 = some 1 := by kernel_rfl
theorem ldf379 (a : Addr) : vLoad Tryz.prog 379 (.pointer (some a)) w KV = ∃ v, w.cell? a = some v ∧ KV v := ld_fn 379 _ _ _ a Tryz.underlying379
theorem fe379 (f : Fn) (x y : Array Value) (xo yo : Operand) : vBinO Tryz.prog .eql 379 xo yo (.func f x y) .nilFunc w KV = KV (.bool false) := be_fun Tryz.underlying379 f x y xo yo
theorem sz380 : Tryz.prog.szo 380 = some 1 := by kernel_rfl
theorem ldf380 (a : Addr) : vLoad Tryz.prog 380 (.pointer (some a)) w KV = ∃ v, w.cell? a = some v ∧ KV v := ld_fn 380 _ _ _ a Tryz.underlying380
theorem fe380 (f : Fn) (x y : Array Value) (xo yo : Operand) : vBinO Tryz.prog .eql 380 xo yo (.func f x y) .nilFunc w KV = KV (.bool false) := be_fun Tryz.underlying380 f x y xo yo
theorem sz381 : Tryz.prog.szo 381 = some 32 := by kernel_rfl
theorem ld381 (a : Addr) : vLoad Tryz.prog 381 (.pointer (some a)) w KV = ∃ cs : List Value, (cs.length = 32 ∧ Reads w a cs) ∧ KV (.agg cs.toArray) := ld_ar 381 32 32 5 a Tryz.underlying381 (by kernel_rfl)
theorem ln381 (v : Value) : vLen Tryz.prog 381 v KV = KV (.int .i64 ((32 : Nat) : Int)) := ln_ar 381 v Tryz.underlying381
theorem ixa381 (l : List Value) (k : IntKind) (i : Int) : vIndex Tryz.prog 381 (.agg l.toArray) (.int k i) KV = ((0 ≤ i ∧ i < ((32 : Nat) : Int)) ∧ vNth l i.toNat KV) := ix_agg 381 l k i Tryz.underlying381 (by kernel_rfl) (by kernel_rfl) (by kernel_rfl)
theorem ia381 (a : Addr) (k : IntKind) (i : Int) : vIndexAddr Tryz.prog 381 (.pointer (some a)) (.int k i) KV = ((0 ≤ i ∧ i < ((32 : Nat) : Int)) ∧ KV (.pointer (some (a.add (i.toNat * 1))))) := ia_ar 381 5 a 32 1 k i Tryz.underlying381 (by kernel_rfl)
theorem sz382 : Tryz.prog.szo 382 = some 64 := by kernel_rfl
theorem ld382 (a : Addr) : vLoad Tryz.prog 382 (.pointer (some a)) w KV = ∃ cs : List Value, (cs.length = 64 ∧ Reads w a cs) ∧ KV (.agg cs.toArray) := ld_ar 382 64 64 5 a Tryz.underlying382 (by kernel_rfl)
theorem ln382 (v : Value) : vLen Tryz.prog 382 v KV = KV (.int .i64 ((64 : Nat) : Int)) := ln_ar 382 v Tryz.underlying382
theorem ixa382 (l : List Value) (k : IntKind) (i : Int) : vIndex Tryz.prog 382 (.agg l.toArray) (.int k i) KV = ((0 ≤ i ∧ i < ((64 : Nat) : Int)) ∧ vNth l i.toNat KV) := ix_agg 382 l k i Tryz.underlying382 (by kernel_rfl) (by kernel_rfl) (by kernel_rfl)
theorem ia382 (a : Addr) (k : IntKind) (i : Int) : vIndexAddr Tryz.prog 382 (.pointer (some a)) (.int k i) KV = ((0 ≤ i ∧ i < ((64 : Nat) : Int)) ∧ KV (.pointer (some (a.add (i.toNat * 1))))) := ia_ar 382 5 a 64 1 k i Tryz.underlying382 (by kernel_rfl)
theorem sz383 : Tryz.prog.szo 383 = some 1 := by kernel_rfl
theorem ldf383 (a : Addr) : vLoad Tryz.prog 383 (.pointer (some a)) w KV = ∃ v, w.cell? a = some v ∧ KV v := ld_fn 383 _ _ _ a Tryz.underlying383
theorem fe383 (f : Fn) (x y : Array Value) (xo yo : Operand) : vBinO Tryz.prog .eql 383 xo yo (.func f x y) .nilFunc w KV = KV (.bool false) := be_fun Tryz.underlying383 f x y xo yo
theorem sz389 : Tryz.prog.szo 389 = some 1 := by kernel_rfl
theorem sz390 : Tryz.prog.szo 390 = some 1 := by kernel_rfl
theorem sz391 : Tryz.prog.szo 391 = some 1 := by kernel_rfl
theorem ldf391 (a : Addr) : vLoad Tryz.prog 391 (.pointer (some a)) w KV = ∃ v, w.cell? a = some v ∧ KV v := ld_fn 391 _ _ _ a Tryz.underlying391
theorem fe391 (f : Fn) (x y : Array Value) (xo yo : Operand) : vBinO Tryz.prog .eql 391 xo yo (.func f x y) .nilFunc w KV = KV (.bool false) := be_fun Tryz.underlying391 f x y xo yo
theorem sz392 : Tryz.prog.szo 392 = some 1 := by kernel_rfl
theorem sz393 : Tryz.prog.szo 393 = some 1 := by kernel_rfl
end
attribute [go_sem ↓] ldf1 fe1 ld2 cv2_2 cv2_3 cv2_5 cv2_12 cv2_21 cv2_30 cv2_46 cv2_121 cv2_161 cv2_224 cv2_271 ld3 cv3_2 cv3_3 cv3_5 cv3_12 cv3_21 cv3_30 cv3_46 cv3_121 cv3_161 cv3_224 cv3_271 ld4 beql4 bneq4 ld5 cv5_2 cv5_3 cv5_5 cv5_12 cv5_21 cv5_30 cv5_46 cv5_121 cv5_161 cv5_224 cv5_271 ln9 ix9 snn9 sln9 snh9 slh9 ld9 ld12 cv12_2 cv12_3 cv12_5 cv12_12 cv12_21 cv12_30 cv12_46 cv12_121 cv12_161 cv12_224 cv12_271 ld21 cv21_2 cv21_3 cv21_5 cv21_12 cv21_21 cv21_30 cv21_46 cv21_121 cv21_161 cv21_224 cv21_271 pe22 pn22 ld22 pe23 pn23 ld23 ln24 snn24 sln24 snh24 slh24 ia24 ld24 ld25 bd25 bz25 fd25_0 fa25_0 fd25_1 fa25_1 fd25_2 fa25_2 fd25_3 fa25_3 fd25_4 fa25_4 ld26 bd26 bz26 fd26_0 fa26_0 fd26_1 fa26_1 fd26_2 fa26_2 fd26_3 fa26_3 fd26_4 fa26_4 ld27 fd27_0 fa27_0 ld28 fd28_0 fa28_0 ln29 snn29 sln29 snh29 slh29 ia29 ld29 ld30 cv30_2 cv30_3 cv30_5 cv30_12 cv30_21 cv30_30 cv30_46 cv30_121 cv30_161 cv30_224 cv30_271 ldf32 fe32 ldf33 fe33 ldf34 fe34 ldf35 fe35 ldf36 fe36 ldf37 fe37 ln38 snn38 sln38 snh38 slh38 ia38 ld38 ldf39 fe39 ldf40 fe40 ldf41 fe41 ldf43 fe43 ldf44 fe44 ldf45 fe45 ld46 cv46_2 cv46_3 cv46_5 cv46_12 cv46_21 cv46_30 cv46_46 cv46_121 cv46_161 cv46_224 cv46_271 ld47 bd47 bz47 fd47_0 fa47_0 fd47_1 fa47_1 fd47_2 fa47_2 fd47_3 fa47_3 fd47_4 fa47_4 ld48 bd48 bz48 fd48_0 fa48_0 fd48_1 fa48_1 fd48_2 fa48_2 fd48_3 fa48_3 fd48_4 fa48_4 ldf50 fe50 pe51 pn51 ld51 ln52 snn52 sln52 snh52 slh52 ia52 ld52 cv52_9 ld53 bd53 bz53 fd53_0 fa53_0 fd53_1 fa53_1 ld54 bd54 bz54 fd54_0 fa54_0 fd54_1 fa54_1 ldf55 fe55 ldf59 fe59 ld60 bd60 bz60 fd60_0 fa60_0 fd60_1 fa60_1 ld61 bd61 bz61 fd61_0 fa61_0 fd61_1 fa61_1 ldf63 fe63 ldf64 fe64 ldf65 fe65 ln66 snn66 sln66 snh66 slh66 ia66 ld66 ln67 snn67 sln67 snh67 slh67 ia67 ld67 ld69 fd69_0 fa69_0 fd69_1 fa69_1 ld70 fd70_0 fa70_0 fd70_1 fa70_1 ldf71 fe71 ln72 snn72 sln72 snh72 slh72 ia72 ld72 ldf73 fe73 ldf74 fe74 pe75 pn75 ld75 ldf77 fe77 ld78 bd78 bz78 fd78_0 fa78_0 fd78_1 fa78_1 ld79 bd79 bz79 fd79_0 fa79_0 fd79_1 fa79_1 ldf80 fe80 ldf81 fe81 ldf82 fe82 ldf83 fe83 ldf84 fe84 ldf85 fe85 ldf86 fe86 ldf88 fe88 ln89 snn89 sln89 snh89 slh89 ia89 ld89 ldf91 fe91 ldf92 fe92 ldf93 fe93 ldf95 fe95 ldf96 fe96 ldf97 fe97 ln98 snn98 sln98 snh98 slh98 ia98 ld98 ln99 snn99 sln99 snh99 slh99 ia99 ld99 ld100 bd100 bz100 fd100_0 fa100_0 fd100_1 fa100_1 ld101 bd101 bz101 fd101_0 fa101_0 fd101_1 fa101_1 ld102 fd102_0 fa102_0 fd102_1 fa102_1 fd102_2 fa102_2 fd102_3 fa102_3 fd102_4 fa102_4 fd102_5 fa102_5 fd102_6 fa102_6 ld103 fd103_0 fa103_0 fd103_1 fa103_1 fd103_2 fa103_2 fd103_3 fa103_3 fd103_4 fa103_4 fd103_5 fa103_5 fd103_6 fa103_6 ld104 ln104 ixa104 ia104 ld105 ln105 ixa105 ia105 ld106 fd106_0 fa106_0 fd106_1 fa106_1 fd106_2 fa106_2 fd106_3 fa106_3 fd106_4 fa106_4 fd106_5 fa106_5 fd106_6 fa106_6 fd106_7 fa106_7 ld107 fd107_0 fa107_0 fd107_1 fa107_1 fd107_2 fa107_2 fd107_3 fa107_3 fd107_4 fa107_4 fd107_5 fa107_5 fd107_6 fa107_6 fd107_7 fa107_7 ldf109 fe109 ln110 snn110 sln110 snh110 slh110 ia110 ld110 ldf112 fe112 ld113 bd113 bz113 fd113_0 fa113_0 fd113_1 fa113_1 ld114 bd114 bz114 fd114_0 fa114_0 fd114_1 fa114_1 ldf116 fe116 ldf117 fe117 pe118 pn118 ld118 ld119 ln119 ixa119 ia119 ldf120 fe120 ld121 cv121_2 cv121_3 cv121_5 cv121_12 cv121_21 cv121_30 cv121_46 cv121_121 cv121_161 cv121_224 cv121_271 ldf122 fe122 ldf124 fe124 ldf125 fe125 ldf126 fe126 pe127 pn127 ld127 ldf128 fe128 ldf129 fe129 ldf130 fe130 ldf132 fe132 ldf133 fe133 ldf134 fe134 ldf135 fe135 ldf136 fe136 ld137 bd137 bz137 fd137_0 fa137_0 fd137_1 fa137_1 fd137_2 fa137_2 ld138 bd138 bz138 fd138_0 fa138_0 fd138_1 fa138_1 fd138_2 fa138_2 ld139 ln139 ia139 ldf140 fe140 ldf141 fe141 ld142 bd142 bz142 fd142_0 fa142_0 fd142_1 fa142_1 fd142_2 fa142_2 fd142_3 fa142_3 ld143 bd143 bz143 fd143_0 fa143_0 fd143_1 fa143_1 fd143_2 fa143_2 fd143_3 fa143_3 ldf145 fe145 ldf147 fe147 ldf148 fe148 ldf150 fe150 ldf151 fe151 ldf153 fe153 ldf155 fe155 ldf157 fe157 ldf158 fe158 ldf159 fe159 ln160 snn160 sln160 snh160 slh160 ia160 ld160 ld161 cv161_2 cv161_3 cv161_5 cv161_12 cv161_21 cv161_30 cv161_46 cv161_121 cv161_161 cv161_224 cv161_271 ldf163 fe163 ldf165 fe165 ldf166 fe166 ldf167 fe167 ldf168 fe168 ldf169 fe169 ldf170 fe170 ldf171 fe171 ldf172 fe172 ldf173 fe173 ldf174 fe174 ldf175 fe175 ldf176 fe176 ld177 bd177 bz177 fd177_0 fa177_0 fd177_1 fa177_1 ld178 bd178 bz178 fd178_0 fa178_0 fd178_1 fa178_1 ln179 snn179 sln179 snh179 slh179 ia179 ld179 ldf180 fe180 ldf181 fe181 ldf183 fe183 pe184 pn184 ld184 ldf185 fe185 ldf186 fe186 ldf187 fe187 ldf188 fe188 ldf189 fe189 ldf191 fe191 ldf192 fe192 ldf193 fe193 ldf194 fe194 ldf196 fe196 ld197 ln197 ixa197 ia197 pe198 pn198 ld198 ld199 bd199 bz199 fd199_0 fa199_0 ld200 bd200 bz200 fd200_0 fa200_0 ld201 fd201_0 fa201_0 ld202 fd202_0 fa202_0 ldf203 fe203 ldf204 fe204 pe205 pn205 ld205 ld206 bd206 bz206 fd206_0 fa206_0 fd206_1 fa206_1 ld207 bd207 bz207 fd207_0 fa207_0 fd207_1 fa207_1 pe208 pn208 ld208 ldf209 fe209 ldf210 fe210 ldf212 fe212 ln213 snn213 sln213 snh213 slh213 ia213 ld213 ln214 snn214 sln214 snh214 slh214 ia214 ld214 ld215 bd215 bz215 fd215_0 fa215_0 fd215_1 fa215_1 ld216 bd216 bz216 fd216_0 fa216_0 fd216_1 fa216_1 ldf218 fe218 ldf220 fe220 ldf221 fe221 ldf222 fe222 ldf223 fe223 ld224 cv224_2 cv224_3 cv224_5 cv224_12 cv224_21 cv224_30 cv224_46 cv224_121 cv224_161 cv224_224 cv224_271 ldf226 fe226 ldf227 fe227 ldf228 fe228 ldf230 fe230 ldf231 fe231 ldf232 fe232 ldf233 fe233 ldf234 fe234 ldf235 fe235 ldf236 fe236 ldf238 fe238 ldf239 fe239 ldf241 fe241 ldf242 fe242 ldf243 fe243 ldf244 fe244 ld245 bd245 bz245 fd245_0 fa245_0 fd245_1 fa245_1 ld246 bd246 bz246 fd246_0 fa246_0 fd246_1 fa246_1 ldf247 fe247 ldf249 fe249 ldf250 fe250 ldf251 fe251 pe252 pn252 ld252 ldf253 fe253 ldf254 fe254 ld255 bd255 bz255 fd255_0 fa255_0 fd255_1 fa255_1 fd255_2 fa255_2 ld256 bd256 bz256 fd256_0 fa256_0 fd256_1 fa256_1 fd256_2 fa256_2 ld257 bd257 bz257 fd257_0 fa257_0 ld258 bd258 bz258 fd258_0 fa258_0 ldf260 fe260 ldf261 fe261 ldf262 fe262 ldf263 fe263 ldf264 fe264 ldf265 fe265 ldf266 fe266 ldf267 fe267 ldf268 fe268 ldf269 fe269 ldf270 fe270 ld271 cv271_2 cv271_3 cv271_5 cv271_12 cv271_21 cv271_30 cv271_46 cv271_121 cv271_161 cv271_224 cv271_271 ldf272 fe272 ldf273 fe273 ldf274 fe274 pe275 pn275 ld275 ldf276 fe276 ldf277 fe277 ldf278 fe278 ld279 bd279 bz279 fd279_0 fa279_0 fd279_1 fa279_1 ld280 bd280 bz280 fd280_0 fa280_0 fd280_1 fa280_1 ldf281 fe281 ldf282 fe282 ldf283 fe283 ldf284 fe284 ld285 ln285 ixa285 ia285 ldf286 fe286 ldf287 fe287 ld288 ln288 ixa288 ia288 ldf289 fe289 ldf290 fe290 ldf292 fe292 ldf294 fe294 ldf295 fe295 ldf296 fe296 ldf297 fe297 ldf298 fe298 ldf299 fe299 ldf300 fe300 ldf301 fe301 ldf302 fe302 pe303 pn303 ld303 ldf305 fe305 ldf306 fe306 ldf307 fe307 ld308 ln308 ixa308 ia308 ld309 bd309 bz309 fd309_0 fa309_0 fd309_1 fa309_1 ld310 bd310 bz310 fd310_0 fa310_0 fd310_1 fa310_1 ldf311 fe311 pe312 pn312 ld312 ldf314 fe314 ldf315 fe315 ln316 snn316 sln316 snh316 slh316 ia316 ld316 ld317 bd317 bz317 fd317_0 fa317_0 fd317_1 fa317_1 ld318 bd318 bz318 fd318_0 fa318_0 fd318_1 fa318_1 ldf319 fe319 ldf320 fe320 ldf321 fe321 ldf322 fe322 ldf323 fe323 ldf324 fe324 ldf325 fe325 ldf326 fe326 ldf327 fe327 ldf328 fe328 ldf329 fe329 ld330 bd330 bz330 fd330_0 fa330_0 ld331 bd331 bz331 fd331_0 fa331_0 ld332 ln332 ixa332 ia332 ld333 fd333_0 fa333_0 fd333_1 fa333_1 fd333_2 fa333_2 fd333_3 fa333_3 fd333_4 fa333_4 ld334 fd334_0 fa334_0 fd334_1 fa334_1 fd334_2 fa334_2 fd334_3 fa334_3 fd334_4 fa334_4 ldf335 fe335 pe336 pn336 ld336 ldf337 fe337 ldf339 fe339 ldf340 fe340 ldf341 fe341 ld342 ln342 ixa342 ia342 ldf343 fe343 ldf344 fe344 ln345 snn345 sln345 snh345 slh345 ia345 ld345 ld346 bd346 bz346 fd346_0 fa346_0 fd346_1 fa346_1 ld347 bd347 bz347 fd347_0 fa347_0 fd347_1 fa347_1 ldf348 fe348 ldf349 fe349 ldf350 fe350 ld351 ln351 ixa351 ia351 ldf352 fe352 ldf354 fe354 ldf355 fe355 ldf356 fe356 ldf357 fe357 ldf358 fe358 ldf359 fe359 ldf360 fe360 ldf361 fe361 ldf362 fe362 ldf363 fe363 ld364 ln364 ixa364 ia364 ld365 bd365 bz365 fd365_0 fa365_0 fd365_1 fa365_1 ld366 bd366 bz366 fd366_0 fa366_0 fd366_1 fa366_1 ld367 ln367 ia367 ldf368 fe368 ld369 ln369 ixa369 ia369 ld370 ln370 ixa370 ia370 ldf371 fe371 ldf372 fe372 ldf373 fe373 ldf374 fe374 ldf375 fe375 ldf376 fe376 ldf377 fe377 ldf378 fe378 ldf379 fe379 ldf380 fe380 ld381 ln381 ixa381 ia381 ld382 ln382 ixa382 ia382 ldf383 fe383 ldf391 fe391
attribute [go_sem] sz1 sz2 cp2_2 cp2_3 cp2_5 cp2_12 cp2_21 cp2_30 cp2_46 cp2_121 cp2_161 cp2_224 cp2_271 sz3 cp3_2 cp3_3 cp3_5 cp3_12 cp3_21 cp3_30 cp3_46 cp3_121 cp3_161 cp3_224 cp3_271 sz4 sz5 cp5_2 cp5_3 cp5_5 cp5_12 cp5_21 cp5_30 cp5_46 cp5_121 cp5_161 cp5_224 cp5_271 sz6 sz9 sz12 cp12_2 cp12_3 cp12_5 cp12_12 cp12_21 cp12_30 cp12_46 cp12_121 cp12_161 cp12_224 cp12_271 sz20 sz21 cp21_2 cp21_3 cp21_5 cp21_12 cp21_21 cp21_30 cp21_46 cp21_121 cp21_161 cp21_224 cp21_271 sz22 sz23 sz24 sz25 sz26 sz27 sz28 sz29 sz30 cp30_2 cp30_3 cp30_5 cp30_12 cp30_21 cp30_30 cp30_46 cp30_121 cp30_161 cp30_224 cp30_271 sz32 sz33 sz34 sz35 sz36 sz37 sz38 sz39 sz40 sz41 sz43 sz44 sz45 sz46 cp46_2 cp46_3 cp46_5 cp46_12 cp46_21 cp46_30 cp46_46 cp46_121 cp46_161 cp46_224 cp46_271 sz47 sz48 sz50 sz51 sz52 cp52_9 cp9_52 sz53 sz54 sz55 sz56 sz57 sz59 sz60 sz61 sz63 sz64 sz65 sz66 sz67 sz68 sz69 sz70 sz71 sz72 sz73 sz74 sz75 sz77 sz78 sz79 sz80 sz81 sz82 sz83 sz84 sz85 sz86 sz88 sz89 sz91 sz92 sz93 sz95 sz96 sz97 sz98 sz99 sz100 sz101 sz102 sz103 sz104 sz105 sz106 sz107 sz109 sz110 sz112 sz113 sz114 sz116 sz117 sz118 sz119 sz120 sz121 cp121_2 cp121_3 cp121_5 cp121_12 cp121_21 cp121_30 cp121_46 cp121_121 cp121_161 cp121_224 cp121_271 sz122 sz123 sz124 sz125 sz126 sz127 sz128 sz129 sz130 sz132 sz133 sz134 sz135 sz136 sz137 sz138 sz139 sz140 sz141 sz142 sz143 sz145 sz147 sz148 sz150 sz151 sz152 sz153 sz155 sz157 sz158 sz159 sz160 sz161 cp161_2 cp161_3 cp161_5 cp161_12 cp161_21 cp161_30 cp161_46 cp161_121 cp161_161 cp161_224 cp161_271 sz163 sz165 sz166 sz167 sz168 sz169 sz170 sz171 sz172 sz173 sz174 sz175 sz176 sz177 sz178 sz179 sz180 sz181 sz183 sz184 sz185 sz186 sz187 sz188 sz189 sz191 sz192 sz193 sz194 sz196 sz197 sz198 sz199 sz200 sz201 sz202 sz203 sz204 sz205 sz206 sz207 sz208 sz209 sz210 sz212 sz213 sz214 sz215 sz216 sz218 sz220 sz221 sz222 sz223 sz224 cp224_2 cp224_3 cp224_5 cp224_12 cp224_21 cp224_30 cp224_46 cp224_121 cp224_161 cp224_224 cp224_271 sz226 sz227 sz228 sz230 sz231 sz232 sz233 sz234 sz235 sz236 sz238 sz239 sz241 sz242 sz243 sz244 sz245 sz246 sz247 sz249 sz250 sz251 sz252 sz253 sz254 sz255 sz256 sz257 sz258 sz260 sz261 sz262 sz263 sz264 sz265 sz266 sz267 sz268 sz269 sz270 sz271 cp271_2 cp271_3 cp271_5 cp271_12 cp271_21 cp271_30 cp271_46 cp271_121 cp271_161 cp271_224 cp271_271 sz272 sz273 sz274 sz275 sz276 sz277 sz278 sz279 sz280 sz281 sz282 sz283 sz284 sz285 sz286 sz287 sz288 sz289 sz290 sz292 sz294 sz295 sz296 sz297 sz298 sz299 sz300 sz301 sz302 sz303 sz305 sz306 sz307 sz308 sz309 sz310 sz311 sz312 sz314 sz315 sz316 sz317 sz318 sz319 sz320 sz321 sz322 sz323 sz324 sz325 sz326 sz327 sz328 sz329 sz330 sz331 sz332 sz333 sz334 sz335 sz336 sz337 sz339 sz340 sz341 sz342 sz343 sz344 sz345 sz346 sz347 sz348 sz349 sz350 sz351 sz352 sz354 sz355 sz356 sz357 sz358 sz359 sz360 sz361 sz362 sz363 sz364 sz365 sz366 sz367 sz368 sz369 sz370 sz371 sz372 sz373 sz374 sz375 sz376 sz377 sz378 sz379 sz380 sz381 sz382 sz383 sz389 sz390 sz391 sz392 sz393
theorem zi9 : (Tryz.prog.info? 9).map (fun i => (i.zero.map Value.cells, i.size, i.bytes)) = some (some #[.string ⟨#[]⟩], 1, 16) := by kernel_rfl
theorem zi5 : (Tryz.prog.info? 5).map (fun i => (i.zero.map Value.cells, i.size, i.bytes)) = some (some #[.int .u8 0], 1, 1) := by kernel_rfl
theorem zi67 : (Tryz.prog.info? 67).map (fun i => (i.zero.map Value.cells, i.size, i.bytes)) = some (some #[.slice none 0 0], 1, 24) := by kernel_rfl
theorem zi4 : (Tryz.prog.info? 4).map (fun i => (i.zero.map Value.cells, i.size, i.bytes)) = some (some #[.bool false], 1, 1) := by kernel_rfl
theorem zi46 : (Tryz.prog.info? 46).map (fun i => (i.zero.map Value.cells, i.size, i.bytes)) = some (some #[.int .u32 0], 1, 4) := by kernel_rfl
theorem zi214 : (Tryz.prog.info? 214).map (fun i => (i.zero.map Value.cells, i.size, i.bytes)) = some (some #[.slice none 0 0], 1, 24) := by kernel_rfl
theorem zi3 : (Tryz.prog.info? 3).map (fun i => (i.zero.map Value.cells, i.size, i.bytes)) = some (some #[.int .i64 0], 1, 8) := by kernel_rfl
end Go.Proofs.YtbhfihjalglakaaGreatDoor
namespace Go.Proofs.YtbhfihjalglakaaGreatDoor
open Go Go.Eng
set_option maxRecDepth 100000
set_option linter.unusedSimpArgs false
set_option linter.unusedVariables false
theorem addr_add_add (p : Addr) (k j : Nat) : (p.add k).add j = p.add (k + j) := by
  unfold Addr.add
  by_cases h1 : k = 0 <;> by_cases h2 : j = 0 <;> simp_all <;> omega
theorem ex_hit {w : World} {a : Addr} {u : Value} {K : Value → Prop} (h : w.cell? a = some u) : (∃ v, w.cell? a = some v ∧ K v) = K u := by
  apply propext
  constructor
  · rintro ⟨v, hv, hk⟩
    rw [h] at hv
    cases hv
    exact hk
  · exact fun hk => ⟨u, h, hk⟩
theorem ex_reads {w : World} {a : Addr} {us : List Value} {n : Nat} {K : Value → Prop} (h : Reads w a us) (hn : us.length = n) : (∃ cs : List Value, (cs.length = n ∧ Reads w a cs) ∧ K (.agg cs.toArray)) = K (.agg us.toArray) := by
  apply propext
  constructor
  · rintro ⟨cs, ⟨hl, hr⟩, hk⟩
    have : cs = us := by
      apply List.ext_getElem
      · omega
      · intro i h1 h2
        have e1 := hr i _ (List.getElem?_eq_getElem h1)
        have e2 := h i _ (List.getElem?_eq_getElem h2)
        rw [e1] at e2
        exact Option.some.inj e2
    rw [← this]
    exact hk
  · exact fun hk => ⟨us, ⟨hn, h⟩, hk⟩
theorem MemK_callD {P : Program} {N : Nat} {d : Option Tmp} {ty : Nat} {pos : String} {af : Array Edge} {gd : Option (Nat × Bool)} {e : Env} {w : World} {R : Env → World → (Env → World → Prop) → Prop} {K : Env → World → Prop}
    {f : FuncId} {ao : Array Operand} {ts : Array TypeId} {vs : List Value} {F : Value → World → Prop} (hf : ∀ args w, (callFunc f args).run P w = .ok (.enter f args) w)
    (hD : Does P f vs.toArray w F) (ha : argL e ao.toList fun us => us = vs) (hC : ∀ v w', F v w' → R (e.put d v) w' K) :
    MemK P N ⟨d, .call { callee := .value (.func f), args := ao, argTypes := ts }, ty, pos, af, gd⟩ e w R K :=
  MemK_call hf (argL_mono' _ _ _ ha fun us _ h => h ▸ CallK.mk hD hC)
theorem gB_ntt {A B : Prop} : gB (!true) true A B = B := by simp [gB]
theorem gB_ntf {A B : Prop} : gB (!true) false A B = A := by simp [gB]
theorem gB_nft {A B : Prop} : gB (!false) true A B = A := by simp [gB]
theorem gB_nff {A B : Prop} : gB (!false) false A B = B := by simp [gB]
attribute [go_sem ↓] gB_ntt gB_ntf gB_nft gB_nff
theorem add_nought (p : Addr) : p.add 0 = p := by unfold Addr.add; simp
theorem take_snocP {α : Type} {l : List α} {i : Nat} {x : α} (h : l[i]? = some x) : l.take (i + 1) = l.take i ++ [x] := by
  rw [List.take_add_one, h]; rfl
def strsV (l : List (List UInt8)) : List Value := l.map Str
theorem strsV_len (l : List (List UInt8)) : (strsV l).length = l.length * 1 := by simp [strsV]
theorem strsV_one (l : List (List UInt8)) : ∀ v ∈ strsV l, v.oneCell' = true := by
  intro v hv
  obtain ⟨s, _, rfl⟩ := List.mem_map.1 hv
  rfl
theorem strsV_get {l : List (List UInt8)} {i : Nat} {s : List UInt8} (h : l[i]? = some s) : (strsV l)[i]? = some (Str s) := by simp [strsV, h]
theorem strsV_append (l m : List (List UInt8)) : strsV (l ++ m) = strsV l ++ strsV m := by simp [strsV]
@[simp] theorem strsV_length (l : List (List UInt8)) : (strsV l).length = l.length := by simp [strsV]
theorem strsV_set (l : List (List UInt8)) (i : Nat) (x : List UInt8) (h : i < l.length) : (strsV l).take i ++ [Str x] ++ (strsV l).drop (i + 1) = strsV (l.set i x) := by
  rw [List.set_eq_take_append_cons_drop, if_pos h]
  simp [strsV, List.map_take, List.map_drop]
theorem StoreK_rowD {P : Program} {w : World} {w0 : World} {B : List Nat} {G : List Res} (hH : Heap w0 B w G) (i : Nat) {o n cap sz : Nat} {ad ap : Addr} {T T' : TypeId} {xs vs : List Value} {v : Value} {C : World → Prop} (hi : G[i]? = some (Res.row T' sz (some ad) n cap xs)) (hp : ap = ad.add o) (hv : v.cells = vs.toArray) (hsz : P.szo T = some vs.length) (hl : o + vs.length ≤ xs.length) (h1 : ∀ u ∈ vs, u.oneCell' = true)
    (h : ∀ w', Heap w0 B w' (G.set i (Res.row T' sz (some ad) n cap (xs.take o ++ vs ++ xs.drop (o + vs.length)))) → w'.drawn = w.drawn → C w') : StoreK P T (.pointer (some ap)) v w C := by
  obtain ⟨h2, h3, h4, h5⟩ := hH.at i hi
  rcases h5 with h5 | ⟨g, rest, fz, hg0, hg, hl2, hfz⟩
  · cases h5.1
  · cases hg0
    subst hp
    have hlt : g < w.heap.size := (Array.getElem?_eq_some_iff.1 hg).1
    have hadd : (⟨g, 0, none⟩ : Addr).add o = ⟨g, o, none⟩ := by unfold Addr.add; split <;> simp_all
    rw [hadd]
    have hlen : o + vs.length ≤ (xs ++ rest).length := by simp; omega
    refine ⟨_, run_storeVar_blk hv hsz hg (by rw [hl2]; exact hfz) hlen h1, h _ (hH.set i hi (putBlk_upd _ _ _ _ _) ?_ ?_) rfl⟩
    · refine ⟨by simp; omega, h3, h4, .inr ⟨g, rest, fz, rfl, ?_, by simp at hl2 ⊢; omega, hfz⟩⟩
      rw [putBlk_at hlt]
      congr 3
      rw [List.take_append_of_le_length (by omega), List.drop_append_of_le_length (by omega)]
      simp
    · intro b hb
      exact ⟨.inl hb, by rw [putBlk_size]; simp [Res.row] at hb; omega⟩
theorem grown_of {w w' : World} (h : Heap w [] w' []) (hd : w'.drawn = w.drawn) : ∃ o, w' = Go.Sort.grow w o := by
  obtain ⟨⟨h1, h2, h3, h4, h5⟩, _⟩ := h
  refine ⟨w'.heap.extract w.heap.size w'.heap.size, ?_⟩
  have hh : w'.heap = w.heap ++ w'.heap.extract w.heap.size w'.heap.size := by
    apply Array.ext_getElem?
    intro k
    by_cases hk : k < w.heap.size
    · rw [Array.getElem?_append_left hk, h5 k hk (by simp)]
    · rw [Array.getElem?_append_right (by omega), Array.getElem?_extract]
      split
      · congr 1; omega
      · rw [Array.getElem?_eq_none (by omega)]
  obtain ⟨a, b, c, d, e⟩ := w
  obtain ⟨a', b', c', d', e'⟩ := w'
  simp only at h1 h2 h3 hd hh
  subst h1 h2 h3 hd
  unfold Go.Sort.grow
  congr 1
theorem strsV_rep (n : Nat) : List.replicate n (Value.string ⟨#[]⟩) = strsV (List.replicate n []) := by
  simp [strsV]
theorem does_same {P : Program} {f : FuncId} {args : Array Value} {w : World} {v : Value} (h : ∀ w, Calls P f args w fun e w' => e = .returned v ∧ w' = w) : Does P f args w fun u w' => w' = w ∧ u = v :=
  fun n => (h (w.drewN n)).mono fun e w' ⟨he, hw⟩ => ⟨v, w, n, he, hw, rfl, rfl⟩
end Go.Proofs.YtbhfihjalglakaaGreatDoor
namespace Go.Eng
open Go
set_option linter.unusedSimpArgs false
set_option linter.unusedVariables false
def Res.obj (l : Nat) (o : Obj) : Res := ⟨[l], fun w => w.heap[l]? = some o, fun _ _ h hh => (h l (by simp)).trans hh⟩
theorem Heap.newObj {w0 w : World} {B : List Nat} {G : List Res} (h : Heap w0 B w G) (o : Obj) : Heap w0 B (w.alloc o) (Res.obj w.heap.size o :: G) :=
  h.new _ (heap_alloc_new w o) (by simp [Res.obj])
theorem putObj_at {w : World} {l : Nat} {o : Obj} (h : l < w.heap.size) : (w.putObj l o).heap[l]? = some o := by
  simp [World.putObj, h]
theorem putObj_ne {w : World} {l k : Nat} {o : Obj} (h : k ≠ l) : (w.putObj l o).heap[k]? = w.heap[k]? := by
  simp only [World.putObj]
  rw [Array.getElem?_setIfInBounds_ne (by omega)]
theorem putObj_size {w : World} {l : Nat} {o : Obj} : (w.putObj l o).heap.size = w.heap.size := by simp [World.putObj]
theorem Heap.put {w0 w : World} {B : List Nat} {G : List Res} {l : Nat} {o : Obj} (h : Heap w0 B w (Res.obj l o :: G)) (o' : Obj) : Heap w0 B (w.putObj l o') (Res.obj l o' :: G) := by
  have hf := (h.foot _ (List.mem_cons_self ..) l (by simp [Res.obj])).2
  have hh : Heap w [l] (w.putObj l o') [Res.obj l o'] :=
    ⟨⟨rfl, rfl, rfl, by rw [putObj_size]; exact Nat.le_refl _, fun k _ hk => putObj_ne (by simpa using hk)⟩,
      fun r hr => by simp at hr; subst hr; exact putObj_at hf,
      fun r hr b hb => by simp at hr; subst hr; simp [Res.obj] at hb; subst hb; exact ⟨.inl (by simp), by rw [putObj_size]; exact hf⟩,
      List.pairwise_singleton _ _⟩
  have := Heap.call1 0 h rfl hh
  simpa using this
theorem Heap.under {w0 w : World} {B : List Nat} {F : List Res} (A G : List Res) (h : Heap w0 B w (A ++ (G ++ F))) : Heap w0 B w (G ++ (A ++ F)) := by
  refine h.perm ?_
  rw [← List.append_assoc, ← List.append_assoc]
  exact List.perm_append_comm.append_right F
theorem Heap.under1 {w0 w : World} {B : List Nat} {F : List Res} (r : Res) (A G : List Res) (h : Heap w0 B w (r :: (A ++ (G ++ F)))) : Heap w0 B w (r :: (G ++ (A ++ F))) := by
  refine h.perm (.cons _ ?_)
  rw [← List.append_assoc, ← List.append_assoc]
  exact List.perm_append_comm.append_right F
theorem Heap.under2 {w0 w : World} {B : List Nat} {F : List Res} (r s : Res) (A G : List Res) (h : Heap w0 B w (r :: s :: (A ++ (G ++ F)))) : Heap w0 B w (r :: s :: (G ++ (A ++ F))) := by
  refine h.perm (.cons _ (.cons _ ?_))
  rw [← List.append_assoc, ← List.append_assoc]
  exact List.perm_append_comm.append_right F
theorem Loop.same {r : Loop} (r1 : r.state = .ready) (r2 : r.pending = none) : ({ r with state := .ready, pending := none } : Loop) = r := by
  cases r
  simp only at r1 r2
  subst r1 r2
  rfl
theorem vcH_nil2 {P : Program} {N : Nat} {ops : List Oper} {w0 : World} {e : Env} {w : World} {K : Env → World → Prop} : vcH P N ops w0 [] e w K = K e w := rfl
def loopP (P : Program) (N : Nat) (post : Exit → Act → World → Prop) (k : List It) (n : Nat) (I : Nat → List Deferred → Env → World → Prop) : Exit → Act → World → Prop
  | .normal, a, w => ∃ D e w0 d, w = World.drewN w0 d ∧ FitsG N D e a ∧ ∃ m, m < n ∧ I m D e w0
  | ex, a, w => contG ⟨P, N, none, [], post⟩ k ex a w
theorem VG_loopD {P : Program} {N : Nat} {D : List Deferred} {post : Exit → Act → World → Prop} {k : List It} {e : Env} {w : World} {body : Code} (hk : noAgain k = true) (ks : List Nat) (I : Nat → List Deferred → Env → World → Prop) (n : Nat)
    (h0 : selK ks e fun e => I n D e w) (round : ∀ n D e w, I n D e w → VG ⟨P, N, none, D, loopP P N post k n I⟩ [.code body] e w) : VG ⟨P, N, none, D, post⟩ (.code (.loop body) :: k) e w := by
  intro a d ha
  refine wpIn_loop_any (fun n a w => ∃ D e w0 d, w = World.drewN w0 d ∧ FitsG N D e a ∧ I n D e w0) n ⟨D, _, w, d, rfl, ha.sel ks, (selK_spec ks e _).1 h0⟩ ?_
  rintro n a w ⟨D', e, w0, d, rfl, ha, hI⟩
  have h1 := round n D' e w0 hI a d ha
  simp only [contG] at h1
  refine wpIn_mono h1 fun ex a w hq => ?_
  cases ex with
  | normal => obtain ⟨D2, e', w1, d', hw, hf, m, hm, hI'⟩ := hq; exact ⟨m, hm, D2, e', w1, d', hw, hf, hI'⟩
  | _ => exact (contG_D (C := ⟨P, N, none, D, post⟩) [] hk).1 hq
theorem VG_nilD {P : Program} {N : Nat} {D : List Deferred} {post : Exit → Act → World → Prop} {k : List It} {e : Env} {w : World} {n : Nat} {I : Nat → List Deferred → Env → World → Prop} (ks : List Nat)
    (h : selK ks e fun e => ∃ m, m < n ∧ I m D e w) : VG ⟨P, N, none, D, loopP P N post k n I⟩ [] e w :=
  VG_nil fun a d ha => ⟨D, _, w, d, rfl, ha.sel ks, (selK_spec ks e _).1 h⟩
def markR (ms : List Nat) : List Res := ms.map fun r => Res.obj r (.deferred (some []))
theorem retN {P : Program} {fn : Func} {F : Value → World → Prop} {Pn : List PanicEntry → World → Prop} {N : Nat} {e : Env} {w0 w : World} {B : List Nat} {ms : List Nat} {G : List Res} (hH : Heap w0 B w (markR ms ++ G))
    (hx : ∀ w', Heap w0 B w' G → VX ⟨P, fn, F, N⟩ [] .ret e w') : ∀ a n, FitsG N (ms.map markD) e a → postG P fn F Pn .ret a (w.drewN n) := fun a n ha => by
  show LeavesInM _ _ _ _ _ _ a.defers _ _
  rw [ha.defers]
  have key : ∀ (ms : List Nat) (w : World), Heap w0 B w (markR ms ++ G) → LeavesInM Fence.wide 0 P fn a.tmps (endsP F Pn) (ms.map markD) .returning (w.drewN n) := by
    intro ms
    induction ms with
    | nil => intro w hH; exact post_res (hx w hH) ha
    | cons r ms ih =>
      intro w hH
      have hp := Heap.put (l := r) (o := .deferred (some [])) hH (.deferred none)
      exact ⟨by simp, .inl ⟨r, (w.putObj r (.deferred none)).drewN n, rfl, run_takeDeferred (w := w.drewN n) (hH.at 0 rfl), ih _ (hp.sub (List.sublist_cons_self _ _))⟩⟩
  exact key ms w hH
theorem round_env {r : Loop} {p : Nat} {v : Value} {e : Env} (r3 : r.params = #[p]) (hp : p < r.tmps.size) (r8 : ∀ t v, e.find? t = some v → r.tmps.getD t undef = v) :
    ∀ t u, Env.find? ((p, v) :: e) t = some u → ((r.params.zip [v].toArray).foldl (fun tmps (t, a) => tmps.setIfInBounds t a) r.tmps).getD t undef = u := by
  intro t u ht
  rw [r3, show (#[p].zip [v].toArray) = #[(p, v)] by first | rfl | simp | (apply Array.ext'; simp)]
  show (r.tmps.setIfInBounds p v).getD t undef = u
  rw [Env.find?] at ht
  split at ht
  · rename_i h46
    simp only at h46
    subst h46
    cases ht
    rw [Array.getD_eq_getD_getElem?, Array.getElem?_setIfInBounds_self_of_lt hp]
    rfl
  · rename_i h46
    rw [Array.getD_eq_getD_getElem?, Array.getElem?_setIfInBounds_ne (by exact fun h => h46 h.symm), ← Array.getD_eq_getD_getElem?]
    exact r8 t u ht
end Go.Eng
