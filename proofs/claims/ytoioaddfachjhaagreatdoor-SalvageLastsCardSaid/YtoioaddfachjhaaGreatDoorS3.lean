/- What the proof leans on, part 3: no conditions. -/
import Derived.Test.YtoioaddfachjhaaGreatDoorS2
import Derived.Test.YtoioaddfachjhaaGreatDoorChecked
import Derived.Sort.Grow
import Derived.Scope
import Derived.Sort.Walk0
import Derived.Lib.Join
import Derived.Lib.Bytealg
import Derived.Shelf.Strings.Repeat
import Derived.Shelf.Strings.OnBuilder
import Derived.Shelf.Strings.Search3
import Derived.Shelf.Strings.Count
import Derived.Shelf.Small.Strs
namespace Go.Proofs.YtoioaddfachjhaaGreatDoor
open Go Go.Eng
section
variable {w : World} {KV : Value → Prop}
theorem sz1 : Tryz.prog.szo 1 = some 1 := by kernel_rfl
theorem ldf1 (a : Addr) : vLoad Tryz.prog 1 (.pointer (some a)) w KV = ∃ v, w.cell? a = some v ∧ KV v := ld_fn 1 _ _ _ a Tryz.underlying1
theorem fe1 (f : Fn) (x y : Array Value) (xo yo : Operand) : vBinO Tryz.prog .eql 1 xo yo (.func f x y) .nilFunc w KV = KV (.bool false) := be_fun Tryz.underlying1 f x y xo yo
theorem sz2 : Tryz.prog.szo 2 = some 1 := by kernel_rfl
theorem ld2 (a : Addr) : vLoad Tryz.prog 2 (.pointer (some a)) w KV = ∃ v, w.cell? a = some v ∧ KV v := ld_int 2 a .i64 Tryz.underlying2
theorem cv2_2 (k : IntKind) (n : Int) : vConv Tryz.prog 2 2 (.int k n) w KV = vWrap .i64 n KV := cv_int 2 2 _ .i64 k n Tryz.underlying2 Tryz.underlying2
theorem cp2_2 : convPure Tryz.prog 2 2 = true := by kernel_rfl
theorem cv2_3 (k : IntKind) (n : Int) : vConv Tryz.prog 2 3 (.int k n) w KV = vWrap .i64 n KV := cv_int 2 3 _ .i64 k n Tryz.underlying2 Tryz.underlying3
theorem cp2_3 : convPure Tryz.prog 2 3 = true := by kernel_rfl
theorem cv2_5 (k : IntKind) (n : Int) : vConv Tryz.prog 2 5 (.int k n) w KV = vWrap .u8 n KV := cv_int 2 5 _ .u8 k n Tryz.underlying2 Tryz.underlying5
theorem cp2_5 : convPure Tryz.prog 2 5 = true := by kernel_rfl
theorem cv2_12 (k : IntKind) (n : Int) : vConv Tryz.prog 2 12 (.int k n) w KV = vWrap .u64 n KV := cv_int 2 12 _ .u64 k n Tryz.underlying2 Tryz.underlying12
theorem cp2_12 : convPure Tryz.prog 2 12 = true := by kernel_rfl
theorem cv2_21 (k : IntKind) (n : Int) : vConv Tryz.prog 2 21 (.int k n) w KV = vWrap .i32 n KV := cv_int 2 21 _ .i32 k n Tryz.underlying2 Tryz.underlying21
theorem cp2_21 : convPure Tryz.prog 2 21 = true := by kernel_rfl
theorem cv2_24 (k : IntKind) (n : Int) : vConv Tryz.prog 2 24 (.int k n) w KV = vWrap .i64 n KV := cv_int 2 24 _ .i64 k n Tryz.underlying2 Tryz.underlying24
theorem cp2_24 : convPure Tryz.prog 2 24 = true := by kernel_rfl
theorem cv2_90 (k : IntKind) (n : Int) : vConv Tryz.prog 2 90 (.int k n) w KV = vWrap .u64 n KV := cv_int 2 90 _ .u64 k n Tryz.underlying2 Tryz.underlying90
theorem cp2_90 : convPure Tryz.prog 2 90 = true := by kernel_rfl
theorem cv2_108 (k : IntKind) (n : Int) : vConv Tryz.prog 2 108 (.int k n) w KV = vWrap .u32 n KV := cv_int 2 108 _ .u32 k n Tryz.underlying2 Tryz.underlying108
theorem cp2_108 : convPure Tryz.prog 2 108 = true := by kernel_rfl
theorem cv2_113 (k : IntKind) (n : Int) : vConv Tryz.prog 2 113 (.int k n) w KV = vWrap .u64 n KV := cv_int 2 113 _ .u64 k n Tryz.underlying2 Tryz.underlying113
theorem cp2_113 : convPure Tryz.prog 2 113 = true := by kernel_rfl
theorem cv2_130 (k : IntKind) (n : Int) : vConv Tryz.prog 2 130 (.int k n) w KV = vWrap .i64 n KV := cv_int 2 130 _ .i64 k n Tryz.underlying2 Tryz.underlying130
theorem cp2_130 : convPure Tryz.prog 2 130 = true := by kernel_rfl
theorem cv2_189 (k : IntKind) (n : Int) : vConv Tryz.prog 2 189 (.int k n) w KV = vWrap .u64 n KV := cv_int 2 189 _ .u64 k n Tryz.underlying2 Tryz.underlying189
theorem cp2_189 : convPure Tryz.prog 2 189 = true := by kernel_rfl
theorem sz3 : Tryz.prog.szo 3 = some 1 := by kernel_rfl
theorem ld3 (a : Addr) : vLoad Tryz.prog 3 (.pointer (some a)) w KV = ∃ v, w.cell? a = some v ∧ KV v := ld_int 3 a .i64 Tryz.underlying3
theorem cv3_2 (k : IntKind) (n : Int) : vConv Tryz.prog 3 2 (.int k n) w KV = vWrap .i64 n KV := cv_int 3 2 _ .i64 k n Tryz.underlying3 Tryz.underlying2
theorem cp3_2 : convPure Tryz.prog 3 2 = true := by kernel_rfl
theorem cv3_3 (k : IntKind) (n : Int) : vConv Tryz.prog 3 3 (.int k n) w KV = vWrap .i64 n KV := cv_int 3 3 _ .i64 k n Tryz.underlying3 Tryz.underlying3
theorem cp3_3 : convPure Tryz.prog 3 3 = true := by kernel_rfl
theorem cv3_5 (k : IntKind) (n : Int) : vConv Tryz.prog 3 5 (.int k n) w KV = vWrap .u8 n KV := cv_int 3 5 _ .u8 k n Tryz.underlying3 Tryz.underlying5
theorem cp3_5 : convPure Tryz.prog 3 5 = true := by kernel_rfl
theorem cv3_12 (k : IntKind) (n : Int) : vConv Tryz.prog 3 12 (.int k n) w KV = vWrap .u64 n KV := cv_int 3 12 _ .u64 k n Tryz.underlying3 Tryz.underlying12
theorem cp3_12 : convPure Tryz.prog 3 12 = true := by kernel_rfl
theorem cv3_21 (k : IntKind) (n : Int) : vConv Tryz.prog 3 21 (.int k n) w KV = vWrap .i32 n KV := cv_int 3 21 _ .i32 k n Tryz.underlying3 Tryz.underlying21
theorem cp3_21 : convPure Tryz.prog 3 21 = true := by kernel_rfl
theorem cv3_24 (k : IntKind) (n : Int) : vConv Tryz.prog 3 24 (.int k n) w KV = vWrap .i64 n KV := cv_int 3 24 _ .i64 k n Tryz.underlying3 Tryz.underlying24
theorem cp3_24 : convPure Tryz.prog 3 24 = true := by kernel_rfl
theorem cv3_90 (k : IntKind) (n : Int) : vConv Tryz.prog 3 90 (.int k n) w KV = vWrap .u64 n KV := cv_int 3 90 _ .u64 k n Tryz.underlying3 Tryz.underlying90
theorem cp3_90 : convPure Tryz.prog 3 90 = true := by kernel_rfl
theorem cv3_108 (k : IntKind) (n : Int) : vConv Tryz.prog 3 108 (.int k n) w KV = vWrap .u32 n KV := cv_int 3 108 _ .u32 k n Tryz.underlying3 Tryz.underlying108
theorem cp3_108 : convPure Tryz.prog 3 108 = true := by kernel_rfl
theorem cv3_113 (k : IntKind) (n : Int) : vConv Tryz.prog 3 113 (.int k n) w KV = vWrap .u64 n KV := cv_int 3 113 _ .u64 k n Tryz.underlying3 Tryz.underlying113
theorem cp3_113 : convPure Tryz.prog 3 113 = true := by kernel_rfl
theorem cv3_130 (k : IntKind) (n : Int) : vConv Tryz.prog 3 130 (.int k n) w KV = vWrap .i64 n KV := cv_int 3 130 _ .i64 k n Tryz.underlying3 Tryz.underlying130
theorem cp3_130 : convPure Tryz.prog 3 130 = true := by kernel_rfl
theorem cv3_189 (k : IntKind) (n : Int) : vConv Tryz.prog 3 189 (.int k n) w KV = vWrap .u64 n KV := cv_int 3 189 _ .u64 k n Tryz.underlying3 Tryz.underlying189
theorem cp3_189 : convPure Tryz.prog 3 189 = true := by kernel_rfl
theorem sz4 : Tryz.prog.szo 4 = some 1 := by kernel_rfl
theorem ld4 (a : Addr) : vLoad Tryz.prog 4 (.pointer (some a)) w KV = ∃ v, w.cell? a = some v ∧ KV v := ld_bool 4 a Tryz.underlying4
theorem beql4 (x y : Operand) (a b : Bool) : vBinO Tryz.prog .eql 4 x y (.bool a) (.bool b) w KV = KV (.bool (decide (a = b))) := bb_eql 4 x y a b Tryz.underlying4
theorem bneq4 (x y : Operand) (a b : Bool) : vBinO Tryz.prog .neq 4 x y (.bool a) (.bool b) w KV = KV (.bool (decide (¬ a = b))) := bb_neq 4 x y a b Tryz.underlying4
theorem sz5 : Tryz.prog.szo 5 = some 1 := by kernel_rfl
theorem ld5 (a : Addr) : vLoad Tryz.prog 5 (.pointer (some a)) w KV = ∃ v, w.cell? a = some v ∧ KV v := ld_int 5 a .u8 Tryz.underlying5
theorem cv5_2 (k : IntKind) (n : Int) : vConv Tryz.prog 5 2 (.int k n) w KV = vWrap .i64 n KV := cv_int 5 2 _ .i64 k n Tryz.underlying5 Tryz.underlying2
theorem cp5_2 : convPure Tryz.prog 5 2 = true := by kernel_rfl
theorem cv5_3 (k : IntKind) (n : Int) : vConv Tryz.prog 5 3 (.int k n) w KV = vWrap .i64 n KV := cv_int 5 3 _ .i64 k n Tryz.underlying5 Tryz.underlying3
theorem cp5_3 : convPure Tryz.prog 5 3 = true := by kernel_rfl
theorem cv5_5 (k : IntKind) (n : Int) : vConv Tryz.prog 5 5 (.int k n) w KV = vWrap .u8 n KV := cv_int 5 5 _ .u8 k n Tryz.underlying5 Tryz.underlying5
theorem cp5_5 : convPure Tryz.prog 5 5 = true := by kernel_rfl
theorem cv5_12 (k : IntKind) (n : Int) : vConv Tryz.prog 5 12 (.int k n) w KV = vWrap .u64 n KV := cv_int 5 12 _ .u64 k n Tryz.underlying5 Tryz.underlying12
theorem cp5_12 : convPure Tryz.prog 5 12 = true := by kernel_rfl
theorem cv5_21 (k : IntKind) (n : Int) : vConv Tryz.prog 5 21 (.int k n) w KV = vWrap .i32 n KV := cv_int 5 21 _ .i32 k n Tryz.underlying5 Tryz.underlying21
theorem cp5_21 : convPure Tryz.prog 5 21 = true := by kernel_rfl
theorem cv5_24 (k : IntKind) (n : Int) : vConv Tryz.prog 5 24 (.int k n) w KV = vWrap .i64 n KV := cv_int 5 24 _ .i64 k n Tryz.underlying5 Tryz.underlying24
theorem cp5_24 : convPure Tryz.prog 5 24 = true := by kernel_rfl
theorem cv5_90 (k : IntKind) (n : Int) : vConv Tryz.prog 5 90 (.int k n) w KV = vWrap .u64 n KV := cv_int 5 90 _ .u64 k n Tryz.underlying5 Tryz.underlying90
theorem cp5_90 : convPure Tryz.prog 5 90 = true := by kernel_rfl
theorem cv5_108 (k : IntKind) (n : Int) : vConv Tryz.prog 5 108 (.int k n) w KV = vWrap .u32 n KV := cv_int 5 108 _ .u32 k n Tryz.underlying5 Tryz.underlying108
theorem cp5_108 : convPure Tryz.prog 5 108 = true := by kernel_rfl
theorem cv5_113 (k : IntKind) (n : Int) : vConv Tryz.prog 5 113 (.int k n) w KV = vWrap .u64 n KV := cv_int 5 113 _ .u64 k n Tryz.underlying5 Tryz.underlying113
theorem cp5_113 : convPure Tryz.prog 5 113 = true := by kernel_rfl
theorem cv5_130 (k : IntKind) (n : Int) : vConv Tryz.prog 5 130 (.int k n) w KV = vWrap .i64 n KV := cv_int 5 130 _ .i64 k n Tryz.underlying5 Tryz.underlying130
theorem cp5_130 : convPure Tryz.prog 5 130 = true := by kernel_rfl
theorem cv5_189 (k : IntKind) (n : Int) : vConv Tryz.prog 5 189 (.int k n) w KV = vWrap .u64 n KV := cv_int 5 189 _ .u64 k n Tryz.underlying5 Tryz.underlying189
theorem cp5_189 : convPure Tryz.prog 5 189 = true := by kernel_rfl
theorem sz6 : Tryz.prog.szo 6 = some 1 := by kernel_rfl
theorem sz9 : Tryz.prog.szo 9 = some 1 := by kernel_rfl
theorem ln9 (s : ByteArray) : vLen Tryz.prog 9 (.string s) KV = KV (.int .i64 (toL s).length) := ln_str 9 s Tryz.underlying9
theorem ix9 (s : ByteArray) (k : IntKind) (n : Int) : vIndex Tryz.prog 9 (.string s) (.int k n) KV = ((0 ≤ n ∧ n < (toL s).length) ∧ KV (.int .u8 ((toL s).getD n.toNat 0).toNat)) := ix_str 9 s k n Tryz.underlying9
theorem snn9 (s : ByteArray) : vSlice Tryz.prog 9 (.string s) none none KV = KV (.string s) := ss_nn 9 s Tryz.underlying9
theorem sln9 (s : ByteArray) (k : IntKind) (l : Int) : vSlice Tryz.prog 9 (.string s) (some (.int k l)) none KV = ((0 ≤ l ∧ l ≤ (toL s).length) ∧ KV (Str ((toL s).drop l.toNat))) := ss_ln 9 s k l Tryz.underlying9
theorem snh9 (s : ByteArray) (k : IntKind) (l : Int) : vSlice Tryz.prog 9 (.string s) none (some (.int k l)) KV = ((0 ≤ l ∧ l ≤ (toL s).length) ∧ KV (Str ((toL s).take l.toNat))) := ss_nh 9 s k l Tryz.underlying9
theorem slh9 (s : ByteArray) (k k' : IntKind) (l m : Int) : vSlice Tryz.prog 9 (.string s) (some (.int k l)) (some (.int k' m)) KV = ((0 ≤ l ∧ l ≤ m ∧ m ≤ (toL s).length) ∧ KV (Str (((toL s).drop l.toNat).take (m.toNat - l.toNat)))) := ss_lh 9 s k k' l m Tryz.underlying9
theorem ld9 (a : Addr) : vLoad Tryz.prog 9 (.pointer (some a)) w KV = ∃ v, w.cell? a = some v ∧ KV v := ld_str 9 a Tryz.underlying9
theorem sz12 : Tryz.prog.szo 12 = some 1 := by kernel_rfl
theorem ld12 (a : Addr) : vLoad Tryz.prog 12 (.pointer (some a)) w KV = ∃ v, w.cell? a = some v ∧ KV v := ld_int 12 a .u64 Tryz.underlying12
theorem cv12_2 (k : IntKind) (n : Int) : vConv Tryz.prog 12 2 (.int k n) w KV = vWrap .i64 n KV := cv_int 12 2 _ .i64 k n Tryz.underlying12 Tryz.underlying2
theorem cp12_2 : convPure Tryz.prog 12 2 = true := by kernel_rfl
theorem cv12_3 (k : IntKind) (n : Int) : vConv Tryz.prog 12 3 (.int k n) w KV = vWrap .i64 n KV := cv_int 12 3 _ .i64 k n Tryz.underlying12 Tryz.underlying3
theorem cp12_3 : convPure Tryz.prog 12 3 = true := by kernel_rfl
theorem cv12_5 (k : IntKind) (n : Int) : vConv Tryz.prog 12 5 (.int k n) w KV = vWrap .u8 n KV := cv_int 12 5 _ .u8 k n Tryz.underlying12 Tryz.underlying5
theorem cp12_5 : convPure Tryz.prog 12 5 = true := by kernel_rfl
theorem cv12_12 (k : IntKind) (n : Int) : vConv Tryz.prog 12 12 (.int k n) w KV = vWrap .u64 n KV := cv_int 12 12 _ .u64 k n Tryz.underlying12 Tryz.underlying12
theorem cp12_12 : convPure Tryz.prog 12 12 = true := by kernel_rfl
theorem cv12_21 (k : IntKind) (n : Int) : vConv Tryz.prog 12 21 (.int k n) w KV = vWrap .i32 n KV := cv_int 12 21 _ .i32 k n Tryz.underlying12 Tryz.underlying21
theorem cp12_21 : convPure Tryz.prog 12 21 = true := by kernel_rfl
theorem cv12_24 (k : IntKind) (n : Int) : vConv Tryz.prog 12 24 (.int k n) w KV = vWrap .i64 n KV := cv_int 12 24 _ .i64 k n Tryz.underlying12 Tryz.underlying24
theorem cp12_24 : convPure Tryz.prog 12 24 = true := by kernel_rfl
theorem cv12_90 (k : IntKind) (n : Int) : vConv Tryz.prog 12 90 (.int k n) w KV = vWrap .u64 n KV := cv_int 12 90 _ .u64 k n Tryz.underlying12 Tryz.underlying90
theorem cp12_90 : convPure Tryz.prog 12 90 = true := by kernel_rfl
theorem cv12_108 (k : IntKind) (n : Int) : vConv Tryz.prog 12 108 (.int k n) w KV = vWrap .u32 n KV := cv_int 12 108 _ .u32 k n Tryz.underlying12 Tryz.underlying108
theorem cp12_108 : convPure Tryz.prog 12 108 = true := by kernel_rfl
theorem cv12_113 (k : IntKind) (n : Int) : vConv Tryz.prog 12 113 (.int k n) w KV = vWrap .u64 n KV := cv_int 12 113 _ .u64 k n Tryz.underlying12 Tryz.underlying113
theorem cp12_113 : convPure Tryz.prog 12 113 = true := by kernel_rfl
theorem cv12_130 (k : IntKind) (n : Int) : vConv Tryz.prog 12 130 (.int k n) w KV = vWrap .i64 n KV := cv_int 12 130 _ .i64 k n Tryz.underlying12 Tryz.underlying130
theorem cp12_130 : convPure Tryz.prog 12 130 = true := by kernel_rfl
theorem cv12_189 (k : IntKind) (n : Int) : vConv Tryz.prog 12 189 (.int k n) w KV = vWrap .u64 n KV := cv_int 12 189 _ .u64 k n Tryz.underlying12 Tryz.underlying189
theorem cp12_189 : convPure Tryz.prog 12 189 = true := by kernel_rfl
theorem sz20 : Tryz.prog.szo 20 = some 1 := by kernel_rfl
theorem sz21 : Tryz.prog.szo 21 = some 1 := by kernel_rfl
theorem ld21 (a : Addr) : vLoad Tryz.prog 21 (.pointer (some a)) w KV = ∃ v, w.cell? a = some v ∧ KV v := ld_int 21 a .i32 Tryz.underlying21
theorem cv21_2 (k : IntKind) (n : Int) : vConv Tryz.prog 21 2 (.int k n) w KV = vWrap .i64 n KV := cv_int 21 2 _ .i64 k n Tryz.underlying21 Tryz.underlying2
theorem cp21_2 : convPure Tryz.prog 21 2 = true := by kernel_rfl
theorem cv21_3 (k : IntKind) (n : Int) : vConv Tryz.prog 21 3 (.int k n) w KV = vWrap .i64 n KV := cv_int 21 3 _ .i64 k n Tryz.underlying21 Tryz.underlying3
theorem cp21_3 : convPure Tryz.prog 21 3 = true := by kernel_rfl
theorem cv21_5 (k : IntKind) (n : Int) : vConv Tryz.prog 21 5 (.int k n) w KV = vWrap .u8 n KV := cv_int 21 5 _ .u8 k n Tryz.underlying21 Tryz.underlying5
theorem cp21_5 : convPure Tryz.prog 21 5 = true := by kernel_rfl
theorem cv21_12 (k : IntKind) (n : Int) : vConv Tryz.prog 21 12 (.int k n) w KV = vWrap .u64 n KV := cv_int 21 12 _ .u64 k n Tryz.underlying21 Tryz.underlying12
theorem cp21_12 : convPure Tryz.prog 21 12 = true := by kernel_rfl
theorem cv21_21 (k : IntKind) (n : Int) : vConv Tryz.prog 21 21 (.int k n) w KV = vWrap .i32 n KV := cv_int 21 21 _ .i32 k n Tryz.underlying21 Tryz.underlying21
theorem cp21_21 : convPure Tryz.prog 21 21 = true := by kernel_rfl
theorem cv21_24 (k : IntKind) (n : Int) : vConv Tryz.prog 21 24 (.int k n) w KV = vWrap .i64 n KV := cv_int 21 24 _ .i64 k n Tryz.underlying21 Tryz.underlying24
theorem cp21_24 : convPure Tryz.prog 21 24 = true := by kernel_rfl
theorem cv21_90 (k : IntKind) (n : Int) : vConv Tryz.prog 21 90 (.int k n) w KV = vWrap .u64 n KV := cv_int 21 90 _ .u64 k n Tryz.underlying21 Tryz.underlying90
theorem cp21_90 : convPure Tryz.prog 21 90 = true := by kernel_rfl
theorem cv21_108 (k : IntKind) (n : Int) : vConv Tryz.prog 21 108 (.int k n) w KV = vWrap .u32 n KV := cv_int 21 108 _ .u32 k n Tryz.underlying21 Tryz.underlying108
theorem cp21_108 : convPure Tryz.prog 21 108 = true := by kernel_rfl
theorem cv21_113 (k : IntKind) (n : Int) : vConv Tryz.prog 21 113 (.int k n) w KV = vWrap .u64 n KV := cv_int 21 113 _ .u64 k n Tryz.underlying21 Tryz.underlying113
theorem cp21_113 : convPure Tryz.prog 21 113 = true := by kernel_rfl
theorem cv21_130 (k : IntKind) (n : Int) : vConv Tryz.prog 21 130 (.int k n) w KV = vWrap .i64 n KV := cv_int 21 130 _ .i64 k n Tryz.underlying21 Tryz.underlying130
theorem cp21_130 : convPure Tryz.prog 21 130 = true := by kernel_rfl
theorem cv21_189 (k : IntKind) (n : Int) : vConv Tryz.prog 21 189 (.int k n) w KV = vWrap .u64 n KV := cv_int 21 189 _ .u64 k n Tryz.underlying21 Tryz.underlying189
theorem cp21_189 : convPure Tryz.prog 21 189 = true := by kernel_rfl
theorem sz22 : Tryz.prog.szo 22 = some 1 := by kernel_rfl
theorem ln22 (a : Option Addr) (n c : Nat) : vLen Tryz.prog 22 (.slice a n c) KV = KV (.int .i64 n) := ln_sl 22 35 a n c Tryz.underlying22
theorem snn22 (a : Option Addr) (n c : Nat) : vSlice Tryz.prog 22 (.slice a n c) none none KV = (n ≤ c ∧ KV (.slice a n c)) := sl_nn 22 35 a n c 2 Tryz.underlying22 (by kernel_rfl)
theorem sln22 (a : Option Addr) (n c : Nat) (k : IntKind) (l : Int) : vSlice Tryz.prog 22 (.slice a n c) (some (.int k l)) none KV = ((0 ≤ l ∧ l ≤ n ∧ n ≤ c) ∧ KV (.slice (if c = l.toNat then a else a.map (·.add (l.toNat * 2))) (n - l.toNat) (c - l.toNat))) := sl_ln 22 35 a n c 2 k l Tryz.underlying22 (by kernel_rfl)
theorem snh22 (a : Option Addr) (n c : Nat) (k : IntKind) (l : Int) : vSlice Tryz.prog 22 (.slice a n c) none (some (.int k l)) KV = ((0 ≤ l ∧ l ≤ c) ∧ KV (.slice a l.toNat c)) := sl_nh 22 35 a n c 2 k l Tryz.underlying22 (by kernel_rfl)
theorem slh22 (a : Option Addr) (n c : Nat) (k k' : IntKind) (l m : Int) : vSlice Tryz.prog 22 (.slice a n c) (some (.int k l)) (some (.int k' m)) KV = ((0 ≤ l ∧ l ≤ m ∧ m ≤ c) ∧ KV (.slice (if c = l.toNat then a else a.map (·.add (l.toNat * 2))) (m.toNat - l.toNat) (c - l.toNat))) := sl_lh 22 35 a n c 2 k k' l m Tryz.underlying22 (by kernel_rfl)
theorem ia22 (a : Addr) (n c : Nat) (k : IntKind) (i : Int) : vIndexAddr Tryz.prog 22 (.slice (some a) n c) (.int k i) KV = ((0 ≤ i ∧ i < n) ∧ KV (.pointer (some (a.add (i.toNat * 2))))) := ia_sl 22 35 a n c 2 k i Tryz.underlying22 (by kernel_rfl)
theorem ld22 (a : Addr) : vLoad Tryz.prog 22 (.pointer (some a)) w KV = ∃ v, w.cell? a = some v ∧ KV v := ld_sl 22 35 a Tryz.underlying22
theorem sz23 : Tryz.prog.szo 23 = some 1 := by kernel_rfl
theorem ldf23 (a : Addr) : vLoad Tryz.prog 23 (.pointer (some a)) w KV = ∃ v, w.cell? a = some v ∧ KV v := ld_fn 23 _ _ _ a Tryz.underlying23
theorem fe23 (f : Fn) (x y : Array Value) (xo yo : Operand) : vBinO Tryz.prog .eql 23 xo yo (.func f x y) .nilFunc w KV = KV (.bool false) := be_fun Tryz.underlying23 f x y xo yo
theorem sz24 : Tryz.prog.szo 24 = some 1 := by kernel_rfl
theorem ld24 (a : Addr) : vLoad Tryz.prog 24 (.pointer (some a)) w KV = ∃ v, w.cell? a = some v ∧ KV v := ld_int 24 a .i64 Tryz.underlying24
theorem cv24_2 (k : IntKind) (n : Int) : vConv Tryz.prog 24 2 (.int k n) w KV = vWrap .i64 n KV := cv_int 24 2 _ .i64 k n Tryz.underlying24 Tryz.underlying2
theorem cp24_2 : convPure Tryz.prog 24 2 = true := by kernel_rfl
theorem cv24_3 (k : IntKind) (n : Int) : vConv Tryz.prog 24 3 (.int k n) w KV = vWrap .i64 n KV := cv_int 24 3 _ .i64 k n Tryz.underlying24 Tryz.underlying3
theorem cp24_3 : convPure Tryz.prog 24 3 = true := by kernel_rfl
theorem cv24_5 (k : IntKind) (n : Int) : vConv Tryz.prog 24 5 (.int k n) w KV = vWrap .u8 n KV := cv_int 24 5 _ .u8 k n Tryz.underlying24 Tryz.underlying5
theorem cp24_5 : convPure Tryz.prog 24 5 = true := by kernel_rfl
theorem cv24_12 (k : IntKind) (n : Int) : vConv Tryz.prog 24 12 (.int k n) w KV = vWrap .u64 n KV := cv_int 24 12 _ .u64 k n Tryz.underlying24 Tryz.underlying12
theorem cp24_12 : convPure Tryz.prog 24 12 = true := by kernel_rfl
theorem cv24_21 (k : IntKind) (n : Int) : vConv Tryz.prog 24 21 (.int k n) w KV = vWrap .i32 n KV := cv_int 24 21 _ .i32 k n Tryz.underlying24 Tryz.underlying21
theorem cp24_21 : convPure Tryz.prog 24 21 = true := by kernel_rfl
theorem cv24_24 (k : IntKind) (n : Int) : vConv Tryz.prog 24 24 (.int k n) w KV = vWrap .i64 n KV := cv_int 24 24 _ .i64 k n Tryz.underlying24 Tryz.underlying24
theorem cp24_24 : convPure Tryz.prog 24 24 = true := by kernel_rfl
theorem cv24_90 (k : IntKind) (n : Int) : vConv Tryz.prog 24 90 (.int k n) w KV = vWrap .u64 n KV := cv_int 24 90 _ .u64 k n Tryz.underlying24 Tryz.underlying90
theorem cp24_90 : convPure Tryz.prog 24 90 = true := by kernel_rfl
theorem cv24_108 (k : IntKind) (n : Int) : vConv Tryz.prog 24 108 (.int k n) w KV = vWrap .u32 n KV := cv_int 24 108 _ .u32 k n Tryz.underlying24 Tryz.underlying108
theorem cp24_108 : convPure Tryz.prog 24 108 = true := by kernel_rfl
theorem cv24_113 (k : IntKind) (n : Int) : vConv Tryz.prog 24 113 (.int k n) w KV = vWrap .u64 n KV := cv_int 24 113 _ .u64 k n Tryz.underlying24 Tryz.underlying113
theorem cp24_113 : convPure Tryz.prog 24 113 = true := by kernel_rfl
theorem cv24_130 (k : IntKind) (n : Int) : vConv Tryz.prog 24 130 (.int k n) w KV = vWrap .i64 n KV := cv_int 24 130 _ .i64 k n Tryz.underlying24 Tryz.underlying130
theorem cp24_130 : convPure Tryz.prog 24 130 = true := by kernel_rfl
theorem cv24_189 (k : IntKind) (n : Int) : vConv Tryz.prog 24 189 (.int k n) w KV = vWrap .u64 n KV := cv_int 24 189 _ .u64 k n Tryz.underlying24 Tryz.underlying189
theorem cp24_189 : convPure Tryz.prog 24 189 = true := by kernel_rfl
theorem sz26 : Tryz.prog.szo 26 = some 1 := by kernel_rfl
theorem ldf26 (a : Addr) : vLoad Tryz.prog 26 (.pointer (some a)) w KV = ∃ v, w.cell? a = some v ∧ KV v := ld_fn 26 _ _ _ a Tryz.underlying26
theorem fe26 (f : Fn) (x y : Array Value) (xo yo : Operand) : vBinO Tryz.prog .eql 26 xo yo (.func f x y) .nilFunc w KV = KV (.bool false) := be_fun Tryz.underlying26 f x y xo yo
theorem sz28 : Tryz.prog.szo 28 = some 1 := by kernel_rfl
theorem ldf28 (a : Addr) : vLoad Tryz.prog 28 (.pointer (some a)) w KV = ∃ v, w.cell? a = some v ∧ KV v := ld_fn 28 _ _ _ a Tryz.underlying28
theorem fe28 (f : Fn) (x y : Array Value) (xo yo : Operand) : vBinO Tryz.prog .eql 28 xo yo (.func f x y) .nilFunc w KV = KV (.bool false) := be_fun Tryz.underlying28 f x y xo yo
theorem sz29 : Tryz.prog.szo 29 = some 1 := by kernel_rfl
theorem ldf29 (a : Addr) : vLoad Tryz.prog 29 (.pointer (some a)) w KV = ∃ v, w.cell? a = some v ∧ KV v := ld_fn 29 _ _ _ a Tryz.underlying29
theorem fe29 (f : Fn) (x y : Array Value) (xo yo : Operand) : vBinO Tryz.prog .eql 29 xo yo (.func f x y) .nilFunc w KV = KV (.bool false) := be_fun Tryz.underlying29 f x y xo yo
theorem sz30 : Tryz.prog.szo 30 = some 1 := by kernel_rfl
theorem ldf30 (a : Addr) : vLoad Tryz.prog 30 (.pointer (some a)) w KV = ∃ v, w.cell? a = some v ∧ KV v := ld_fn 30 _ _ _ a Tryz.underlying30
theorem fe30 (f : Fn) (x y : Array Value) (xo yo : Operand) : vBinO Tryz.prog .eql 30 xo yo (.func f x y) .nilFunc w KV = KV (.bool false) := be_fun Tryz.underlying30 f x y xo yo
theorem sz31 : Tryz.prog.szo 31 = some 1 := by kernel_rfl
theorem ldf31 (a : Addr) : vLoad Tryz.prog 31 (.pointer (some a)) w KV = ∃ v, w.cell? a = some v ∧ KV v := ld_fn 31 _ _ _ a Tryz.underlying31
theorem fe31 (f : Fn) (x y : Array Value) (xo yo : Operand) : vBinO Tryz.prog .eql 31 xo yo (.func f x y) .nilFunc w KV = KV (.bool false) := be_fun Tryz.underlying31 f x y xo yo
theorem sz32 : Tryz.prog.szo 32 = some 1 := by kernel_rfl
theorem ldf32 (a : Addr) : vLoad Tryz.prog 32 (.pointer (some a)) w KV = ∃ v, w.cell? a = some v ∧ KV v := ld_fn 32 _ _ _ a Tryz.underlying32
theorem fe32 (f : Fn) (x y : Array Value) (xo yo : Operand) : vBinO Tryz.prog .eql 32 xo yo (.func f x y) .nilFunc w KV = KV (.bool false) := be_fun Tryz.underlying32 f x y xo yo
theorem sz33 : Tryz.prog.szo 33 = some 1 := by kernel_rfl
theorem ldf33 (a : Addr) : vLoad Tryz.prog 33 (.pointer (some a)) w KV = ∃ v, w.cell? a = some v ∧ KV v := ld_fn 33 _ _ _ a Tryz.underlying33
theorem fe33 (f : Fn) (x y : Array Value) (xo yo : Operand) : vBinO Tryz.prog .eql 33 xo yo (.func f x y) .nilFunc w KV = KV (.bool false) := be_fun Tryz.underlying33 f x y xo yo
theorem sz34 : Tryz.prog.szo 34 = some 2 := by kernel_rfl
theorem ld34 (a : Addr) : vLoad Tryz.prog 34 (.pointer (some a)) w KV = ∃ cs : List Value, (cs.length = 2 ∧ Reads w a cs) ∧ KV (.agg cs.toArray) := ld_st 34 2 a _ Tryz.underlying34 (by kernel_rfl)
theorem bd34 (n0 : Int) (n1 : Int) : vBuild Tryz.prog 34 [(0, .int .i64 n0), (1, .int .i64 n1)] KV = KV (.agg #[.int .i64 n0, .int .i64 n1]) := bd_of (by kernel_rfl)
theorem bz34 : vBuild Tryz.prog 34 [] KV = KV (.agg #[.int .i64 0, .int .i64 0]) := bd_of (by kernel_rfl)
theorem fd34_0 (l : List Value) : vField Tryz.prog 34 (.agg l.toArray) 0 KV = vNth l 0 KV := fd_cell 34 0 l Tryz.underlying34 rfl (by kernel_rfl) (by kernel_rfl) (by kernel_rfl)
theorem fa34_0 (a : Addr) : vFieldAddr Tryz.prog 34 (.pointer (some a)) 0 KV = KV (.pointer (some (a.add 0))) := fa_st 34 0 a (m := 0) Tryz.underlying34 rfl (by kernel_rfl)
theorem fd34_1 (l : List Value) : vField Tryz.prog 34 (.agg l.toArray) 1 KV = vNth l 1 KV := fd_cell 34 1 l Tryz.underlying34 rfl (by kernel_rfl) (by kernel_rfl) (by kernel_rfl)
theorem fa34_1 (a : Addr) : vFieldAddr Tryz.prog 34 (.pointer (some a)) 1 KV = KV (.pointer (some (a.add 1))) := fa_st 34 1 a (m := 0) Tryz.underlying34 rfl (by kernel_rfl)
theorem sz35 : Tryz.prog.szo 35 = some 2 := by kernel_rfl
theorem ld35 (a : Addr) : vLoad Tryz.prog 35 (.pointer (some a)) w KV = ∃ cs : List Value, (cs.length = 2 ∧ Reads w a cs) ∧ KV (.agg cs.toArray) := ld_st 35 2 a _ Tryz.underlying35 (by kernel_rfl)
theorem bd35 (n0 : Int) (n1 : Int) : vBuild Tryz.prog 35 [(0, .int .i64 n0), (1, .int .i64 n1)] KV = KV (.agg #[.int .i64 n0, .int .i64 n1]) := bd_of (by kernel_rfl)
theorem bz35 : vBuild Tryz.prog 35 [] KV = KV (.agg #[.int .i64 0, .int .i64 0]) := bd_of (by kernel_rfl)
theorem fd35_0 (l : List Value) : vField Tryz.prog 35 (.agg l.toArray) 0 KV = vNth l 0 KV := fd_cell 35 0 l Tryz.underlying35 rfl (by kernel_rfl) (by kernel_rfl) (by kernel_rfl)
theorem fa35_0 (a : Addr) : vFieldAddr Tryz.prog 35 (.pointer (some a)) 0 KV = KV (.pointer (some (a.add 0))) := fa_st 35 0 a (m := 0) Tryz.underlying35 rfl (by kernel_rfl)
theorem fd35_1 (l : List Value) : vField Tryz.prog 35 (.agg l.toArray) 1 KV = vNth l 1 KV := fd_cell 35 1 l Tryz.underlying35 rfl (by kernel_rfl) (by kernel_rfl) (by kernel_rfl)
theorem fa35_1 (a : Addr) : vFieldAddr Tryz.prog 35 (.pointer (some a)) 1 KV = KV (.pointer (some (a.add 1))) := fa_st 35 1 a (m := 0) Tryz.underlying35 rfl (by kernel_rfl)
theorem sz37 : Tryz.prog.szo 37 = some 1 := by kernel_rfl
theorem ldf37 (a : Addr) : vLoad Tryz.prog 37 (.pointer (some a)) w KV = ∃ v, w.cell? a = some v ∧ KV v := ld_fn 37 _ _ _ a Tryz.underlying37
theorem fe37 (f : Fn) (x y : Array Value) (xo yo : Operand) : vBinO Tryz.prog .eql 37 xo yo (.func f x y) .nilFunc w KV = KV (.bool false) := be_fun Tryz.underlying37 f x y xo yo
theorem sz39 : Tryz.prog.szo 39 = some 1 := by kernel_rfl
theorem ldf39 (a : Addr) : vLoad Tryz.prog 39 (.pointer (some a)) w KV = ∃ v, w.cell? a = some v ∧ KV v := ld_fn 39 _ _ _ a Tryz.underlying39
theorem fe39 (f : Fn) (x y : Array Value) (xo yo : Operand) : vBinO Tryz.prog .eql 39 xo yo (.func f x y) .nilFunc w KV = KV (.bool false) := be_fun Tryz.underlying39 f x y xo yo
theorem sz40 : Tryz.prog.szo 40 = some 1 := by kernel_rfl
theorem ldf40 (a : Addr) : vLoad Tryz.prog 40 (.pointer (some a)) w KV = ∃ v, w.cell? a = some v ∧ KV v := ld_fn 40 _ _ _ a Tryz.underlying40
theorem fe40 (f : Fn) (x y : Array Value) (xo yo : Operand) : vBinO Tryz.prog .eql 40 xo yo (.func f x y) .nilFunc w KV = KV (.bool false) := be_fun Tryz.underlying40 f x y xo yo
theorem sz41 : Tryz.prog.szo 41 = some 1 := by kernel_rfl
theorem ln41 (a : Option Addr) (n c : Nat) : vLen Tryz.prog 41 (.slice a n c) KV = KV (.int .i64 n) := ln_sl 41 45 a n c Tryz.underlying41
theorem snn41 (a : Option Addr) (n c : Nat) : vSlice Tryz.prog 41 (.slice a n c) none none KV = (n ≤ c ∧ KV (.slice a n c)) := sl_nn 41 45 a n c 3 Tryz.underlying41 (by kernel_rfl)
theorem sln41 (a : Option Addr) (n c : Nat) (k : IntKind) (l : Int) : vSlice Tryz.prog 41 (.slice a n c) (some (.int k l)) none KV = ((0 ≤ l ∧ l ≤ n ∧ n ≤ c) ∧ KV (.slice (if c = l.toNat then a else a.map (·.add (l.toNat * 3))) (n - l.toNat) (c - l.toNat))) := sl_ln 41 45 a n c 3 k l Tryz.underlying41 (by kernel_rfl)
theorem snh41 (a : Option Addr) (n c : Nat) (k : IntKind) (l : Int) : vSlice Tryz.prog 41 (.slice a n c) none (some (.int k l)) KV = ((0 ≤ l ∧ l ≤ c) ∧ KV (.slice a l.toNat c)) := sl_nh 41 45 a n c 3 k l Tryz.underlying41 (by kernel_rfl)
theorem slh41 (a : Option Addr) (n c : Nat) (k k' : IntKind) (l m : Int) : vSlice Tryz.prog 41 (.slice a n c) (some (.int k l)) (some (.int k' m)) KV = ((0 ≤ l ∧ l ≤ m ∧ m ≤ c) ∧ KV (.slice (if c = l.toNat then a else a.map (·.add (l.toNat * 3))) (m.toNat - l.toNat) (c - l.toNat))) := sl_lh 41 45 a n c 3 k k' l m Tryz.underlying41 (by kernel_rfl)
theorem ia41 (a : Addr) (n c : Nat) (k : IntKind) (i : Int) : vIndexAddr Tryz.prog 41 (.slice (some a) n c) (.int k i) KV = ((0 ≤ i ∧ i < n) ∧ KV (.pointer (some (a.add (i.toNat * 3))))) := ia_sl 41 45 a n c 3 k i Tryz.underlying41 (by kernel_rfl)
theorem ld41 (a : Addr) : vLoad Tryz.prog 41 (.pointer (some a)) w KV = ∃ v, w.cell? a = some v ∧ KV v := ld_sl 41 45 a Tryz.underlying41
theorem sz42 : Tryz.prog.szo 42 = some 2 := by kernel_rfl
theorem ld42 (a : Addr) : vLoad Tryz.prog 42 (.pointer (some a)) w KV = ∃ cs : List Value, (cs.length = 2 ∧ Reads w a cs) ∧ KV (.agg cs.toArray) := ld_st 42 2 a _ Tryz.underlying42 (by kernel_rfl)
theorem bd42 (s0 : ByteArray) (s1 : ByteArray) : vBuild Tryz.prog 42 [(0, .string s0), (1, .string s1)] KV = KV (.agg #[.string s0, .string s1]) := bd_of (by kernel_rfl)
theorem bz42 : vBuild Tryz.prog 42 [] KV = KV (.agg #[.string ⟨#[]⟩, .string ⟨#[]⟩]) := bd_of (by kernel_rfl)
theorem fd42_0 (l : List Value) : vField Tryz.prog 42 (.agg l.toArray) 0 KV = vNth l 0 KV := fd_cell 42 0 l Tryz.underlying42 rfl (by kernel_rfl) (by kernel_rfl) (by kernel_rfl)
theorem fa42_0 (a : Addr) : vFieldAddr Tryz.prog 42 (.pointer (some a)) 0 KV = KV (.pointer (some (a.add 0))) := fa_st 42 0 a (m := 0) Tryz.underlying42 rfl (by kernel_rfl)
theorem fd42_1 (l : List Value) : vField Tryz.prog 42 (.agg l.toArray) 1 KV = vNth l 1 KV := fd_cell 42 1 l Tryz.underlying42 rfl (by kernel_rfl) (by kernel_rfl) (by kernel_rfl)
theorem fa42_1 (a : Addr) : vFieldAddr Tryz.prog 42 (.pointer (some a)) 1 KV = KV (.pointer (some (a.add 1))) := fa_st 42 1 a (m := 0) Tryz.underlying42 rfl (by kernel_rfl)
theorem sz43 : Tryz.prog.szo 43 = some 2 := by kernel_rfl
theorem ld43 (a : Addr) : vLoad Tryz.prog 43 (.pointer (some a)) w KV = ∃ cs : List Value, (cs.length = 2 ∧ Reads w a cs) ∧ KV (.agg cs.toArray) := ld_st 43 2 a _ Tryz.underlying43 (by kernel_rfl)
theorem bd43 (s0 : ByteArray) (s1 : ByteArray) : vBuild Tryz.prog 43 [(0, .string s0), (1, .string s1)] KV = KV (.agg #[.string s0, .string s1]) := bd_of (by kernel_rfl)
theorem bz43 : vBuild Tryz.prog 43 [] KV = KV (.agg #[.string ⟨#[]⟩, .string ⟨#[]⟩]) := bd_of (by kernel_rfl)
theorem fd43_0 (l : List Value) : vField Tryz.prog 43 (.agg l.toArray) 0 KV = vNth l 0 KV := fd_cell 43 0 l Tryz.underlying43 rfl (by kernel_rfl) (by kernel_rfl) (by kernel_rfl)
theorem fa43_0 (a : Addr) : vFieldAddr Tryz.prog 43 (.pointer (some a)) 0 KV = KV (.pointer (some (a.add 0))) := fa_st 43 0 a (m := 0) Tryz.underlying43 rfl (by kernel_rfl)
theorem fd43_1 (l : List Value) : vField Tryz.prog 43 (.agg l.toArray) 1 KV = vNth l 1 KV := fd_cell 43 1 l Tryz.underlying43 rfl (by kernel_rfl) (by kernel_rfl) (by kernel_rfl)
theorem fa43_1 (a : Addr) : vFieldAddr Tryz.prog 43 (.pointer (some a)) 1 KV = KV (.pointer (some (a.add 1))) := fa_st 43 1 a (m := 0) Tryz.underlying43 rfl (by kernel_rfl)
theorem sz44 : Tryz.prog.szo 44 = some 3 := by kernel_rfl
theorem ld44 (a : Addr) : vLoad Tryz.prog 44 (.pointer (some a)) w KV = ∃ cs : List Value, (cs.length = 3 ∧ Reads w a cs) ∧ KV (.agg cs.toArray) := ld_st 44 3 a _ Tryz.underlying44 (by kernel_rfl)
theorem fd44_0 (l : List Value) : vField Tryz.prog 44 (.agg l.toArray) 0 KV = vNth l 0 KV := fd_cell 44 0 l Tryz.underlying44 rfl (by kernel_rfl) (by kernel_rfl) (by kernel_rfl)
theorem fa44_0 (a : Addr) : vFieldAddr Tryz.prog 44 (.pointer (some a)) 0 KV = KV (.pointer (some (a.add 0))) := fa_st 44 0 a (m := 0) Tryz.underlying44 rfl (by kernel_rfl)
theorem fd44_1 (l : List Value) : vField Tryz.prog 44 (.agg l.toArray) 1 KV = KV (.agg ((l.take 3).drop 1).toArray) := fd_agg 44 1 l 2 Tryz.underlying44 rfl (by kernel_rfl) (by kernel_rfl) (by kernel_rfl)
theorem fa44_1 (a : Addr) : vFieldAddr Tryz.prog 44 (.pointer (some a)) 1 KV = KV (.pointer (some (a.add 1))) := fa_st 44 1 a (m := 1) Tryz.underlying44 rfl (by kernel_rfl)
theorem sz45 : Tryz.prog.szo 45 = some 3 := by kernel_rfl
theorem ld45 (a : Addr) : vLoad Tryz.prog 45 (.pointer (some a)) w KV = ∃ cs : List Value, (cs.length = 3 ∧ Reads w a cs) ∧ KV (.agg cs.toArray) := ld_st 45 3 a _ Tryz.underlying45 (by kernel_rfl)
theorem fd45_0 (l : List Value) : vField Tryz.prog 45 (.agg l.toArray) 0 KV = vNth l 0 KV := fd_cell 45 0 l Tryz.underlying45 rfl (by kernel_rfl) (by kernel_rfl) (by kernel_rfl)
theorem fa45_0 (a : Addr) : vFieldAddr Tryz.prog 45 (.pointer (some a)) 0 KV = KV (.pointer (some (a.add 0))) := fa_st 45 0 a (m := 0) Tryz.underlying45 rfl (by kernel_rfl)
theorem fd45_1 (l : List Value) : vField Tryz.prog 45 (.agg l.toArray) 1 KV = KV (.agg ((l.take 3).drop 1).toArray) := fd_agg 45 1 l 2 Tryz.underlying45 rfl (by kernel_rfl) (by kernel_rfl) (by kernel_rfl)
theorem fa45_1 (a : Addr) : vFieldAddr Tryz.prog 45 (.pointer (some a)) 1 KV = KV (.pointer (some (a.add 1))) := fa_st 45 1 a (m := 1) Tryz.underlying45 rfl (by kernel_rfl)
theorem sz46 : Tryz.prog.szo 46 = some 1 := by kernel_rfl
theorem ldf46 (a : Addr) : vLoad Tryz.prog 46 (.pointer (some a)) w KV = ∃ v, w.cell? a = some v ∧ KV v := ld_fn 46 _ _ _ a Tryz.underlying46
theorem fe46 (f : Fn) (x y : Array Value) (xo yo : Operand) : vBinO Tryz.prog .eql 46 xo yo (.func f x y) .nilFunc w KV = KV (.bool false) := be_fun Tryz.underlying46 f x y xo yo
theorem sz47 : Tryz.prog.szo 47 = some 1 := by kernel_rfl
theorem ln47 (a : Option Addr) (n c : Nat) : vLen Tryz.prog 47 (.slice a n c) KV = KV (.int .i64 n) := ln_sl 47 43 a n c Tryz.underlying47
theorem snn47 (a : Option Addr) (n c : Nat) : vSlice Tryz.prog 47 (.slice a n c) none none KV = (n ≤ c ∧ KV (.slice a n c)) := sl_nn 47 43 a n c 2 Tryz.underlying47 (by kernel_rfl)
theorem sln47 (a : Option Addr) (n c : Nat) (k : IntKind) (l : Int) : vSlice Tryz.prog 47 (.slice a n c) (some (.int k l)) none KV = ((0 ≤ l ∧ l ≤ n ∧ n ≤ c) ∧ KV (.slice (if c = l.toNat then a else a.map (·.add (l.toNat * 2))) (n - l.toNat) (c - l.toNat))) := sl_ln 47 43 a n c 2 k l Tryz.underlying47 (by kernel_rfl)
theorem snh47 (a : Option Addr) (n c : Nat) (k : IntKind) (l : Int) : vSlice Tryz.prog 47 (.slice a n c) none (some (.int k l)) KV = ((0 ≤ l ∧ l ≤ c) ∧ KV (.slice a l.toNat c)) := sl_nh 47 43 a n c 2 k l Tryz.underlying47 (by kernel_rfl)
theorem slh47 (a : Option Addr) (n c : Nat) (k k' : IntKind) (l m : Int) : vSlice Tryz.prog 47 (.slice a n c) (some (.int k l)) (some (.int k' m)) KV = ((0 ≤ l ∧ l ≤ m ∧ m ≤ c) ∧ KV (.slice (if c = l.toNat then a else a.map (·.add (l.toNat * 2))) (m.toNat - l.toNat) (c - l.toNat))) := sl_lh 47 43 a n c 2 k k' l m Tryz.underlying47 (by kernel_rfl)
theorem ia47 (a : Addr) (n c : Nat) (k : IntKind) (i : Int) : vIndexAddr Tryz.prog 47 (.slice (some a) n c) (.int k i) KV = ((0 ≤ i ∧ i < n) ∧ KV (.pointer (some (a.add (i.toNat * 2))))) := ia_sl 47 43 a n c 2 k i Tryz.underlying47 (by kernel_rfl)
theorem ld47 (a : Addr) : vLoad Tryz.prog 47 (.pointer (some a)) w KV = ∃ v, w.cell? a = some v ∧ KV v := ld_sl 47 43 a Tryz.underlying47
theorem sz48 : Tryz.prog.szo 48 = some 1 := by kernel_rfl
theorem ldf48 (a : Addr) : vLoad Tryz.prog 48 (.pointer (some a)) w KV = ∃ v, w.cell? a = some v ∧ KV v := ld_fn 48 _ _ _ a Tryz.underlying48
theorem fe48 (f : Fn) (x y : Array Value) (xo yo : Operand) : vBinO Tryz.prog .eql 48 xo yo (.func f x y) .nilFunc w KV = KV (.bool false) := be_fun Tryz.underlying48 f x y xo yo
theorem sz49 : Tryz.prog.szo 49 = some 1 := by kernel_rfl
theorem ldf49 (a : Addr) : vLoad Tryz.prog 49 (.pointer (some a)) w KV = ∃ v, w.cell? a = some v ∧ KV v := ld_fn 49 _ _ _ a Tryz.underlying49
theorem fe49 (f : Fn) (x y : Array Value) (xo yo : Operand) : vBinO Tryz.prog .eql 49 xo yo (.func f x y) .nilFunc w KV = KV (.bool false) := be_fun Tryz.underlying49 f x y xo yo
theorem sz50 : Tryz.prog.szo 50 = some 1 := by kernel_rfl
theorem ldf50 (a : Addr) : vLoad Tryz.prog 50 (.pointer (some a)) w KV = ∃ v, w.cell? a = some v ∧ KV v := ld_fn 50 _ _ _ a Tryz.underlying50
theorem fe50 (f : Fn) (x y : Array Value) (xo yo : Operand) : vBinO Tryz.prog .eql 50 xo yo (.func f x y) .nilFunc w KV = KV (.bool false) := be_fun Tryz.underlying50 f x y xo yo
theorem sz52 : Tryz.prog.szo 52 = some 1 := by kernel_rfl
theorem ldf52 (a : Addr) : vLoad Tryz.prog 52 (.pointer (some a)) w KV = ∃ v, w.cell? a = some v ∧ KV v := ld_fn 52 _ _ _ a Tryz.underlying52
theorem fe52 (f : Fn) (x y : Array Value) (xo yo : Operand) : vBinO Tryz.prog .eql 52 xo yo (.func f x y) .nilFunc w KV = KV (.bool false) := be_fun Tryz.underlying52 f x y xo yo
theorem sz54 : Tryz.prog.szo 54 = some 1 := by kernel_rfl
theorem ldf54 (a : Addr) : vLoad Tryz.prog 54 (.pointer (some a)) w KV = ∃ v, w.cell? a = some v ∧ KV v := ld_fn 54 _ _ _ a Tryz.underlying54
theorem fe54 (f : Fn) (x y : Array Value) (xo yo : Operand) : vBinO Tryz.prog .eql 54 xo yo (.func f x y) .nilFunc w KV = KV (.bool false) := be_fun Tryz.underlying54 f x y xo yo
theorem sz55 : Tryz.prog.szo 55 = some 1 := by kernel_rfl
theorem ldf55 (a : Addr) : vLoad Tryz.prog 55 (.pointer (some a)) w KV = ∃ v, w.cell? a = some v ∧ KV v := ld_fn 55 _ _ _ a Tryz.underlying55
theorem fe55 (f : Fn) (x y : Array Value) (xo yo : Operand) : vBinO Tryz.prog .eql 55 xo yo (.func f x y) .nilFunc w KV = KV (.bool false) := be_fun Tryz.underlying55 f x y xo yo
theorem sz56 : Tryz.prog.szo 56 = some 1 := by kernel_rfl
theorem ln56 (a : Option Addr) (n c : Nat) : vLen Tryz.prog 56 (.slice a n c) KV = KV (.int .i64 n) := ln_sl 56 4 a n c Tryz.underlying56
theorem snn56 (a : Option Addr) (n c : Nat) : vSlice Tryz.prog 56 (.slice a n c) none none KV = (n ≤ c ∧ KV (.slice a n c)) := sl_nn 56 4 a n c 1 Tryz.underlying56 (by kernel_rfl)
theorem sln56 (a : Option Addr) (n c : Nat) (k : IntKind) (l : Int) : vSlice Tryz.prog 56 (.slice a n c) (some (.int k l)) none KV = ((0 ≤ l ∧ l ≤ n ∧ n ≤ c) ∧ KV (.slice (if c = l.toNat then a else a.map (·.add (l.toNat * 1))) (n - l.toNat) (c - l.toNat))) := sl_ln 56 4 a n c 1 k l Tryz.underlying56 (by kernel_rfl)
theorem snh56 (a : Option Addr) (n c : Nat) (k : IntKind) (l : Int) : vSlice Tryz.prog 56 (.slice a n c) none (some (.int k l)) KV = ((0 ≤ l ∧ l ≤ c) ∧ KV (.slice a l.toNat c)) := sl_nh 56 4 a n c 1 k l Tryz.underlying56 (by kernel_rfl)
theorem slh56 (a : Option Addr) (n c : Nat) (k k' : IntKind) (l m : Int) : vSlice Tryz.prog 56 (.slice a n c) (some (.int k l)) (some (.int k' m)) KV = ((0 ≤ l ∧ l ≤ m ∧ m ≤ c) ∧ KV (.slice (if c = l.toNat then a else a.map (·.add (l.toNat * 1))) (m.toNat - l.toNat) (c - l.toNat))) := sl_lh 56 4 a n c 1 k k' l m Tryz.underlying56 (by kernel_rfl)
theorem ia56 (a : Addr) (n c : Nat) (k : IntKind) (i : Int) : vIndexAddr Tryz.prog 56 (.slice (some a) n c) (.int k i) KV = ((0 ≤ i ∧ i < n) ∧ KV (.pointer (some (a.add (i.toNat * 1))))) := ia_sl 56 4 a n c 1 k i Tryz.underlying56 (by kernel_rfl)
theorem ld56 (a : Addr) : vLoad Tryz.prog 56 (.pointer (some a)) w KV = ∃ v, w.cell? a = some v ∧ KV v := ld_sl 56 4 a Tryz.underlying56
theorem sz58 : Tryz.prog.szo 58 = some 1 := by kernel_rfl
theorem ldf58 (a : Addr) : vLoad Tryz.prog 58 (.pointer (some a)) w KV = ∃ v, w.cell? a = some v ∧ KV v := ld_fn 58 _ _ _ a Tryz.underlying58
theorem fe58 (f : Fn) (x y : Array Value) (xo yo : Operand) : vBinO Tryz.prog .eql 58 xo yo (.func f x y) .nilFunc w KV = KV (.bool false) := be_fun Tryz.underlying58 f x y xo yo
theorem sz59 : Tryz.prog.szo 59 = some 1 := by kernel_rfl
theorem ldf59 (a : Addr) : vLoad Tryz.prog 59 (.pointer (some a)) w KV = ∃ v, w.cell? a = some v ∧ KV v := ld_fn 59 _ _ _ a Tryz.underlying59
theorem fe59 (f : Fn) (x y : Array Value) (xo yo : Operand) : vBinO Tryz.prog .eql 59 xo yo (.func f x y) .nilFunc w KV = KV (.bool false) := be_fun Tryz.underlying59 f x y xo yo
theorem sz60 : Tryz.prog.szo 60 = some 1 := by kernel_rfl
theorem ln60 (a : Option Addr) (n c : Nat) : vLen Tryz.prog 60 (.slice a n c) KV = KV (.int .i64 n) := ln_sl 60 5 a n c Tryz.underlying60
theorem snn60 (a : Option Addr) (n c : Nat) : vSlice Tryz.prog 60 (.slice a n c) none none KV = (n ≤ c ∧ KV (.slice a n c)) := sl_nn 60 5 a n c 1 Tryz.underlying60 (by kernel_rfl)
theorem sln60 (a : Option Addr) (n c : Nat) (k : IntKind) (l : Int) : vSlice Tryz.prog 60 (.slice a n c) (some (.int k l)) none KV = ((0 ≤ l ∧ l ≤ n ∧ n ≤ c) ∧ KV (.slice (if c = l.toNat then a else a.map (·.add (l.toNat * 1))) (n - l.toNat) (c - l.toNat))) := sl_ln 60 5 a n c 1 k l Tryz.underlying60 (by kernel_rfl)
theorem snh60 (a : Option Addr) (n c : Nat) (k : IntKind) (l : Int) : vSlice Tryz.prog 60 (.slice a n c) none (some (.int k l)) KV = ((0 ≤ l ∧ l ≤ c) ∧ KV (.slice a l.toNat c)) := sl_nh 60 5 a n c 1 k l Tryz.underlying60 (by kernel_rfl)
theorem slh60 (a : Option Addr) (n c : Nat) (k k' : IntKind) (l m : Int) : vSlice Tryz.prog 60 (.slice a n c) (some (.int k l)) (some (.int k' m)) KV = ((0 ≤ l ∧ l ≤ m ∧ m ≤ c) ∧ KV (.slice (if c = l.toNat then a else a.map (·.add (l.toNat * 1))) (m.toNat - l.toNat) (c - l.toNat))) := sl_lh 60 5 a n c 1 k k' l m Tryz.underlying60 (by kernel_rfl)
theorem ia60 (a : Addr) (n c : Nat) (k : IntKind) (i : Int) : vIndexAddr Tryz.prog 60 (.slice (some a) n c) (.int k i) KV = ((0 ≤ i ∧ i < n) ∧ KV (.pointer (some (a.add (i.toNat * 1))))) := ia_sl 60 5 a n c 1 k i Tryz.underlying60 (by kernel_rfl)
theorem ld60 (a : Addr) : vLoad Tryz.prog 60 (.pointer (some a)) w KV = ∃ v, w.cell? a = some v ∧ KV v := ld_sl 60 5 a Tryz.underlying60
theorem cv60_9 (a : Option Addr) (n c : Nat) : vConv Tryz.prog 60 9 (.slice a n c) w KV = ∃ l, ReadsBytes w a n l ∧ KV (Str l) := cv_str 60 9 5 a n c Tryz.underlying60 Tryz.underlying9 Tryz.underlying5
theorem cp60_9 : convPure Tryz.prog 60 9 = true := by kernel_rfl
theorem cp9_60 : convPure Tryz.prog 9 60 = false := by kernel_rfl
theorem sz61 : Tryz.prog.szo 61 = some 1 := by kernel_rfl
theorem sz63 : Tryz.prog.szo 63 = some 1 := by kernel_rfl
theorem ldf63 (a : Addr) : vLoad Tryz.prog 63 (.pointer (some a)) w KV = ∃ v, w.cell? a = some v ∧ KV v := ld_fn 63 _ _ _ a Tryz.underlying63
theorem fe63 (f : Fn) (x y : Array Value) (xo yo : Operand) : vBinO Tryz.prog .eql 63 xo yo (.func f x y) .nilFunc w KV = KV (.bool false) := be_fun Tryz.underlying63 f x y xo yo
theorem sz64 : Tryz.prog.szo 64 = some 1 := by kernel_rfl
theorem ldf64 (a : Addr) : vLoad Tryz.prog 64 (.pointer (some a)) w KV = ∃ v, w.cell? a = some v ∧ KV v := ld_fn 64 _ _ _ a Tryz.underlying64
theorem fe64 (f : Fn) (x y : Array Value) (xo yo : Operand) : vBinO Tryz.prog .eql 64 xo yo (.func f x y) .nilFunc w KV = KV (.bool false) := be_fun Tryz.underlying64 f x y xo yo
theorem sz65 : Tryz.prog.szo 65 = some 1 := by kernel_rfl
theorem ldf65 (a : Addr) : vLoad Tryz.prog 65 (.pointer (some a)) w KV = ∃ v, w.cell? a = some v ∧ KV v := ld_fn 65 _ _ _ a Tryz.underlying65
theorem fe65 (f : Fn) (x y : Array Value) (xo yo : Operand) : vBinO Tryz.prog .eql 65 xo yo (.func f x y) .nilFunc w KV = KV (.bool false) := be_fun Tryz.underlying65 f x y xo yo
theorem sz66 : Tryz.prog.szo 66 = some 1 := by kernel_rfl
theorem ldf66 (a : Addr) : vLoad Tryz.prog 66 (.pointer (some a)) w KV = ∃ v, w.cell? a = some v ∧ KV v := ld_fn 66 _ _ _ a Tryz.underlying66
theorem fe66 (f : Fn) (x y : Array Value) (xo yo : Operand) : vBinO Tryz.prog .eql 66 xo yo (.func f x y) .nilFunc w KV = KV (.bool false) := be_fun Tryz.underlying66 f x y xo yo
theorem sz67 : Tryz.prog.szo 67 = some 1 := by kernel_rfl
theorem ldf67 (a : Addr) : vLoad Tryz.prog 67 (.pointer (some a)) w KV = ∃ v, w.cell? a = some v ∧ KV v := ld_fn 67 _ _ _ a Tryz.underlying67
theorem fe67 (f : Fn) (x y : Array Value) (xo yo : Operand) : vBinO Tryz.prog .eql 67 xo yo (.func f x y) .nilFunc w KV = KV (.bool false) := be_fun Tryz.underlying67 f x y xo yo
theorem sz68 : Tryz.prog.szo 68 = some 1 := by kernel_rfl
theorem ldf68 (a : Addr) : vLoad Tryz.prog 68 (.pointer (some a)) w KV = ∃ v, w.cell? a = some v ∧ KV v := ld_fn 68 _ _ _ a Tryz.underlying68
theorem fe68 (f : Fn) (x y : Array Value) (xo yo : Operand) : vBinO Tryz.prog .eql 68 xo yo (.func f x y) .nilFunc w KV = KV (.bool false) := be_fun Tryz.underlying68 f x y xo yo
theorem sz69 : Tryz.prog.szo 69 = some 1 := by kernel_rfl
theorem ldf69 (a : Addr) : vLoad Tryz.prog 69 (.pointer (some a)) w KV = ∃ v, w.cell? a = some v ∧ KV v := ld_fn 69 _ _ _ a Tryz.underlying69
theorem fe69 (f : Fn) (x y : Array Value) (xo yo : Operand) : vBinO Tryz.prog .eql 69 xo yo (.func f x y) .nilFunc w KV = KV (.bool false) := be_fun Tryz.underlying69 f x y xo yo
theorem sz70 : Tryz.prog.szo 70 = some 2 := by kernel_rfl
theorem ld70 (a : Addr) : vLoad Tryz.prog 70 (.pointer (some a)) w KV = ∃ cs : List Value, (cs.length = 2 ∧ Reads w a cs) ∧ KV (.agg cs.toArray) := ld_ar 70 2 2 9 a Tryz.underlying70 (by kernel_rfl)
theorem ln70 (v : Value) : vLen Tryz.prog 70 v KV = KV (.int .i64 ((2 : Nat) : Int)) := ln_ar 70 v Tryz.underlying70
theorem ixa70 (l : List Value) (k : IntKind) (i : Int) : vIndex Tryz.prog 70 (.agg l.toArray) (.int k i) KV = ((0 ≤ i ∧ i < ((2 : Nat) : Int)) ∧ vNth l i.toNat KV) := ix_agg 70 l k i Tryz.underlying70 (by kernel_rfl) (by kernel_rfl) (by kernel_rfl)
theorem ia70 (a : Addr) (k : IntKind) (i : Int) : vIndexAddr Tryz.prog 70 (.pointer (some a)) (.int k i) KV = ((0 ≤ i ∧ i < ((2 : Nat) : Int)) ∧ KV (.pointer (some (a.add (i.toNat * 1))))) := ia_ar 70 9 a 2 1 k i Tryz.underlying70 (by kernel_rfl)
theorem sz71 : Tryz.prog.szo 71 = some 2 := by kernel_rfl
theorem ld71 (a : Addr) : vLoad Tryz.prog 71 (.pointer (some a)) w KV = ∃ cs : List Value, (cs.length = 2 ∧ Reads w a cs) ∧ KV (.agg cs.toArray) := ld_ar 71 2 2 3 a Tryz.underlying71 (by kernel_rfl)
theorem ln71 (v : Value) : vLen Tryz.prog 71 v KV = KV (.int .i64 ((2 : Nat) : Int)) := ln_ar 71 v Tryz.underlying71
theorem ixa71 (l : List Value) (k : IntKind) (i : Int) : vIndex Tryz.prog 71 (.agg l.toArray) (.int k i) KV = ((0 ≤ i ∧ i < ((2 : Nat) : Int)) ∧ vNth l i.toNat KV) := ix_agg 71 l k i Tryz.underlying71 (by kernel_rfl) (by kernel_rfl) (by kernel_rfl)
theorem ia71 (a : Addr) (k : IntKind) (i : Int) : vIndexAddr Tryz.prog 71 (.pointer (some a)) (.int k i) KV = ((0 ≤ i ∧ i < ((2 : Nat) : Int)) ∧ KV (.pointer (some (a.add (i.toNat * 1))))) := ia_ar 71 3 a 2 1 k i Tryz.underlying71 (by kernel_rfl)
theorem sz72 : Tryz.prog.szo 72 = some 10 := by kernel_rfl
theorem ld72 (a : Addr) : vLoad Tryz.prog 72 (.pointer (some a)) w KV = ∃ cs : List Value, (cs.length = 10 ∧ Reads w a cs) ∧ KV (.agg cs.toArray) := ld_st 72 10 a _ Tryz.underlying72 (by kernel_rfl)
theorem fd72_0 (l : List Value) : vField Tryz.prog 72 (.agg l.toArray) 0 KV = vNth l 0 KV := fd_cell 72 0 l Tryz.underlying72 rfl (by kernel_rfl) (by kernel_rfl) (by kernel_rfl)
theorem fa72_0 (a : Addr) : vFieldAddr Tryz.prog 72 (.pointer (some a)) 0 KV = KV (.pointer (some (a.add 0))) := fa_st 72 0 a (m := 0) Tryz.underlying72 rfl (by kernel_rfl)
theorem fd72_1 (l : List Value) : vField Tryz.prog 72 (.agg l.toArray) 1 KV = vNth l 1 KV := fd_cell 72 1 l Tryz.underlying72 rfl (by kernel_rfl) (by kernel_rfl) (by kernel_rfl)
theorem fa72_1 (a : Addr) : vFieldAddr Tryz.prog 72 (.pointer (some a)) 1 KV = KV (.pointer (some (a.add 1))) := fa_st 72 1 a (m := 0) Tryz.underlying72 rfl (by kernel_rfl)
theorem fd72_2 (l : List Value) : vField Tryz.prog 72 (.agg l.toArray) 2 KV = vNth l 2 KV := fd_cell 72 2 l Tryz.underlying72 rfl (by kernel_rfl) (by kernel_rfl) (by kernel_rfl)
theorem fa72_2 (a : Addr) : vFieldAddr Tryz.prog 72 (.pointer (some a)) 2 KV = KV (.pointer (some (a.add 2))) := fa_st 72 2 a (m := 0) Tryz.underlying72 rfl (by kernel_rfl)
theorem fd72_3 (l : List Value) : vField Tryz.prog 72 (.agg l.toArray) 3 KV = vNth l 3 KV := fd_cell 72 3 l Tryz.underlying72 rfl (by kernel_rfl) (by kernel_rfl) (by kernel_rfl)
theorem fa72_3 (a : Addr) : vFieldAddr Tryz.prog 72 (.pointer (some a)) 3 KV = KV (.pointer (some (a.add 3))) := fa_st 72 3 a (m := 0) Tryz.underlying72 rfl (by kernel_rfl)
theorem fd72_4 (l : List Value) : vField Tryz.prog 72 (.agg l.toArray) 4 KV = vNth l 4 KV := fd_cell 72 4 l Tryz.underlying72 rfl (by kernel_rfl) (by kernel_rfl) (by kernel_rfl)
theorem fa72_4 (a : Addr) : vFieldAddr Tryz.prog 72 (.pointer (some a)) 4 KV = KV (.pointer (some (a.add 4))) := fa_st 72 4 a (m := 0) Tryz.underlying72 rfl (by kernel_rfl)
theorem fd72_5 (l : List Value) : vField Tryz.prog 72 (.agg l.toArray) 5 KV = vNth l 5 KV := fd_cell 72 5 l Tryz.underlying72 rfl (by kernel_rfl) (by kernel_rfl) (by kernel_rfl)
theorem fa72_5 (a : Addr) : vFieldAddr Tryz.prog 72 (.pointer (some a)) 5 KV = KV (.pointer (some (a.add 5))) := fa_st 72 5 a (m := 0) Tryz.underlying72 rfl (by kernel_rfl)
theorem fd72_6 (l : List Value) : vField Tryz.prog 72 (.agg l.toArray) 6 KV = KV (.agg ((l.take 8).drop 6).toArray) := fd_agg 72 6 l 2 Tryz.underlying72 rfl (by kernel_rfl) (by kernel_rfl) (by kernel_rfl)
theorem fa72_6 (a : Addr) : vFieldAddr Tryz.prog 72 (.pointer (some a)) 6 KV = KV (.pointer (some (a.add 6))) := fa_st 72 6 a (m := 1) Tryz.underlying72 rfl (by kernel_rfl)
theorem fd72_7 (l : List Value) : vField Tryz.prog 72 (.agg l.toArray) 7 KV = KV (.agg ((l.take 10).drop 8).toArray) := fd_agg 72 7 l 2 Tryz.underlying72 rfl (by kernel_rfl) (by kernel_rfl) (by kernel_rfl)
theorem fa72_7 (a : Addr) : vFieldAddr Tryz.prog 72 (.pointer (some a)) 7 KV = KV (.pointer (some (a.add 8))) := fa_st 72 7 a (m := 1) Tryz.underlying72 rfl (by kernel_rfl)
theorem sz73 : Tryz.prog.szo 73 = some 10 := by kernel_rfl
theorem ld73 (a : Addr) : vLoad Tryz.prog 73 (.pointer (some a)) w KV = ∃ cs : List Value, (cs.length = 10 ∧ Reads w a cs) ∧ KV (.agg cs.toArray) := ld_st 73 10 a _ Tryz.underlying73 (by kernel_rfl)
theorem fd73_0 (l : List Value) : vField Tryz.prog 73 (.agg l.toArray) 0 KV = vNth l 0 KV := fd_cell 73 0 l Tryz.underlying73 rfl (by kernel_rfl) (by kernel_rfl) (by kernel_rfl)
theorem fa73_0 (a : Addr) : vFieldAddr Tryz.prog 73 (.pointer (some a)) 0 KV = KV (.pointer (some (a.add 0))) := fa_st 73 0 a (m := 0) Tryz.underlying73 rfl (by kernel_rfl)
theorem fd73_1 (l : List Value) : vField Tryz.prog 73 (.agg l.toArray) 1 KV = vNth l 1 KV := fd_cell 73 1 l Tryz.underlying73 rfl (by kernel_rfl) (by kernel_rfl) (by kernel_rfl)
theorem fa73_1 (a : Addr) : vFieldAddr Tryz.prog 73 (.pointer (some a)) 1 KV = KV (.pointer (some (a.add 1))) := fa_st 73 1 a (m := 0) Tryz.underlying73 rfl (by kernel_rfl)
theorem fd73_2 (l : List Value) : vField Tryz.prog 73 (.agg l.toArray) 2 KV = vNth l 2 KV := fd_cell 73 2 l Tryz.underlying73 rfl (by kernel_rfl) (by kernel_rfl) (by kernel_rfl)
theorem fa73_2 (a : Addr) : vFieldAddr Tryz.prog 73 (.pointer (some a)) 2 KV = KV (.pointer (some (a.add 2))) := fa_st 73 2 a (m := 0) Tryz.underlying73 rfl (by kernel_rfl)
theorem fd73_3 (l : List Value) : vField Tryz.prog 73 (.agg l.toArray) 3 KV = vNth l 3 KV := fd_cell 73 3 l Tryz.underlying73 rfl (by kernel_rfl) (by kernel_rfl) (by kernel_rfl)
theorem fa73_3 (a : Addr) : vFieldAddr Tryz.prog 73 (.pointer (some a)) 3 KV = KV (.pointer (some (a.add 3))) := fa_st 73 3 a (m := 0) Tryz.underlying73 rfl (by kernel_rfl)
theorem fd73_4 (l : List Value) : vField Tryz.prog 73 (.agg l.toArray) 4 KV = vNth l 4 KV := fd_cell 73 4 l Tryz.underlying73 rfl (by kernel_rfl) (by kernel_rfl) (by kernel_rfl)
theorem fa73_4 (a : Addr) : vFieldAddr Tryz.prog 73 (.pointer (some a)) 4 KV = KV (.pointer (some (a.add 4))) := fa_st 73 4 a (m := 0) Tryz.underlying73 rfl (by kernel_rfl)
theorem fd73_5 (l : List Value) : vField Tryz.prog 73 (.agg l.toArray) 5 KV = vNth l 5 KV := fd_cell 73 5 l Tryz.underlying73 rfl (by kernel_rfl) (by kernel_rfl) (by kernel_rfl)
theorem fa73_5 (a : Addr) : vFieldAddr Tryz.prog 73 (.pointer (some a)) 5 KV = KV (.pointer (some (a.add 5))) := fa_st 73 5 a (m := 0) Tryz.underlying73 rfl (by kernel_rfl)
theorem fd73_6 (l : List Value) : vField Tryz.prog 73 (.agg l.toArray) 6 KV = KV (.agg ((l.take 8).drop 6).toArray) := fd_agg 73 6 l 2 Tryz.underlying73 rfl (by kernel_rfl) (by kernel_rfl) (by kernel_rfl)
theorem fa73_6 (a : Addr) : vFieldAddr Tryz.prog 73 (.pointer (some a)) 6 KV = KV (.pointer (some (a.add 6))) := fa_st 73 6 a (m := 1) Tryz.underlying73 rfl (by kernel_rfl)
theorem fd73_7 (l : List Value) : vField Tryz.prog 73 (.agg l.toArray) 7 KV = KV (.agg ((l.take 10).drop 8).toArray) := fd_agg 73 7 l 2 Tryz.underlying73 rfl (by kernel_rfl) (by kernel_rfl) (by kernel_rfl)
theorem fa73_7 (a : Addr) : vFieldAddr Tryz.prog 73 (.pointer (some a)) 7 KV = KV (.pointer (some (a.add 8))) := fa_st 73 7 a (m := 1) Tryz.underlying73 rfl (by kernel_rfl)
theorem sz75 : Tryz.prog.szo 75 = some 1 := by kernel_rfl
theorem ldf75 (a : Addr) : vLoad Tryz.prog 75 (.pointer (some a)) w KV = ∃ v, w.cell? a = some v ∧ KV v := ld_fn 75 _ _ _ a Tryz.underlying75
theorem fe75 (f : Fn) (x y : Array Value) (xo yo : Operand) : vBinO Tryz.prog .eql 75 xo yo (.func f x y) .nilFunc w KV = KV (.bool false) := be_fun Tryz.underlying75 f x y xo yo
theorem sz76 : Tryz.prog.szo 76 = some 1 := by kernel_rfl
theorem ln76 (a : Option Addr) (n c : Nat) : vLen Tryz.prog 76 (.slice a n c) KV = KV (.int .i64 n) := ln_sl 76 80 a n c Tryz.underlying76
theorem snn76 (a : Option Addr) (n c : Nat) : vSlice Tryz.prog 76 (.slice a n c) none none KV = (n ≤ c ∧ KV (.slice a n c)) := sl_nn 76 80 a n c 2 Tryz.underlying76 (by kernel_rfl)
theorem sln76 (a : Option Addr) (n c : Nat) (k : IntKind) (l : Int) : vSlice Tryz.prog 76 (.slice a n c) (some (.int k l)) none KV = ((0 ≤ l ∧ l ≤ n ∧ n ≤ c) ∧ KV (.slice (if c = l.toNat then a else a.map (·.add (l.toNat * 2))) (n - l.toNat) (c - l.toNat))) := sl_ln 76 80 a n c 2 k l Tryz.underlying76 (by kernel_rfl)
theorem snh76 (a : Option Addr) (n c : Nat) (k : IntKind) (l : Int) : vSlice Tryz.prog 76 (.slice a n c) none (some (.int k l)) KV = ((0 ≤ l ∧ l ≤ c) ∧ KV (.slice a l.toNat c)) := sl_nh 76 80 a n c 2 k l Tryz.underlying76 (by kernel_rfl)
theorem slh76 (a : Option Addr) (n c : Nat) (k k' : IntKind) (l m : Int) : vSlice Tryz.prog 76 (.slice a n c) (some (.int k l)) (some (.int k' m)) KV = ((0 ≤ l ∧ l ≤ m ∧ m ≤ c) ∧ KV (.slice (if c = l.toNat then a else a.map (·.add (l.toNat * 2))) (m.toNat - l.toNat) (c - l.toNat))) := sl_lh 76 80 a n c 2 k k' l m Tryz.underlying76 (by kernel_rfl)
theorem ia76 (a : Addr) (n c : Nat) (k : IntKind) (i : Int) : vIndexAddr Tryz.prog 76 (.slice (some a) n c) (.int k i) KV = ((0 ≤ i ∧ i < n) ∧ KV (.pointer (some (a.add (i.toNat * 2))))) := ia_sl 76 80 a n c 2 k i Tryz.underlying76 (by kernel_rfl)
theorem ld76 (a : Addr) : vLoad Tryz.prog 76 (.pointer (some a)) w KV = ∃ v, w.cell? a = some v ∧ KV v := ld_sl 76 80 a Tryz.underlying76
theorem sz78 : Tryz.prog.szo 78 = some 1 := by kernel_rfl
theorem ldf78 (a : Addr) : vLoad Tryz.prog 78 (.pointer (some a)) w KV = ∃ v, w.cell? a = some v ∧ KV v := ld_fn 78 _ _ _ a Tryz.underlying78
theorem fe78 (f : Fn) (x y : Array Value) (xo yo : Operand) : vBinO Tryz.prog .eql 78 xo yo (.func f x y) .nilFunc w KV = KV (.bool false) := be_fun Tryz.underlying78 f x y xo yo
theorem sz79 : Tryz.prog.szo 79 = some 2 := by kernel_rfl
theorem ld79 (a : Addr) : vLoad Tryz.prog 79 (.pointer (some a)) w KV = ∃ cs : List Value, (cs.length = 2 ∧ Reads w a cs) ∧ KV (.agg cs.toArray) := ld_st 79 2 a _ Tryz.underlying79 (by kernel_rfl)
theorem bd79 (s0 : ByteArray) (s1 : ByteArray) : vBuild Tryz.prog 79 [(0, .string s0), (1, .string s1)] KV = KV (.agg #[.string s0, .string s1]) := bd_of (by kernel_rfl)
theorem bz79 : vBuild Tryz.prog 79 [] KV = KV (.agg #[.string ⟨#[]⟩, .string ⟨#[]⟩]) := bd_of (by kernel_rfl)
theorem fd79_0 (l : List Value) : vField Tryz.prog 79 (.agg l.toArray) 0 KV = vNth l 0 KV := fd_cell 79 0 l Tryz.underlying79 rfl (by kernel_rfl) (by kernel_rfl) (by kernel_rfl)
theorem fa79_0 (a : Addr) : vFieldAddr Tryz.prog 79 (.pointer (some a)) 0 KV = KV (.pointer (some (a.add 0))) := fa_st 79 0 a (m := 0) Tryz.underlying79 rfl (by kernel_rfl)
theorem fd79_1 (l : List Value) : vField Tryz.prog 79 (.agg l.toArray) 1 KV = vNth l 1 KV := fd_cell 79 1 l Tryz.underlying79 rfl (by kernel_rfl) (by kernel_rfl) (by kernel_rfl)
theorem fa79_1 (a : Addr) : vFieldAddr Tryz.prog 79 (.pointer (some a)) 1 KV = KV (.pointer (some (a.add 1))) := fa_st 79 1 a (m := 0) Tryz.underlying79 rfl (by kernel_rfl)
theorem sz80 : Tryz.prog.szo 80 = some 2 := by kernel_rfl
theorem ld80 (a : Addr) : vLoad Tryz.prog 80 (.pointer (some a)) w KV = ∃ cs : List Value, (cs.length = 2 ∧ Reads w a cs) ∧ KV (.agg cs.toArray) := ld_st 80 2 a _ Tryz.underlying80 (by kernel_rfl)
theorem bd80 (s0 : ByteArray) (s1 : ByteArray) : vBuild Tryz.prog 80 [(0, .string s0), (1, .string s1)] KV = KV (.agg #[.string s0, .string s1]) := bd_of (by kernel_rfl)
theorem bz80 : vBuild Tryz.prog 80 [] KV = KV (.agg #[.string ⟨#[]⟩, .string ⟨#[]⟩]) := bd_of (by kernel_rfl)
theorem fd80_0 (l : List Value) : vField Tryz.prog 80 (.agg l.toArray) 0 KV = vNth l 0 KV := fd_cell 80 0 l Tryz.underlying80 rfl (by kernel_rfl) (by kernel_rfl) (by kernel_rfl)
theorem fa80_0 (a : Addr) : vFieldAddr Tryz.prog 80 (.pointer (some a)) 0 KV = KV (.pointer (some (a.add 0))) := fa_st 80 0 a (m := 0) Tryz.underlying80 rfl (by kernel_rfl)
theorem fd80_1 (l : List Value) : vField Tryz.prog 80 (.agg l.toArray) 1 KV = vNth l 1 KV := fd_cell 80 1 l Tryz.underlying80 rfl (by kernel_rfl) (by kernel_rfl) (by kernel_rfl)
theorem fa80_1 (a : Addr) : vFieldAddr Tryz.prog 80 (.pointer (some a)) 1 KV = KV (.pointer (some (a.add 1))) := fa_st 80 1 a (m := 0) Tryz.underlying80 rfl (by kernel_rfl)
theorem sz82 : Tryz.prog.szo 82 = some 1 := by kernel_rfl
theorem ldf82 (a : Addr) : vLoad Tryz.prog 82 (.pointer (some a)) w KV = ∃ v, w.cell? a = some v ∧ KV v := ld_fn 82 _ _ _ a Tryz.underlying82
theorem fe82 (f : Fn) (x y : Array Value) (xo yo : Operand) : vBinO Tryz.prog .eql 82 xo yo (.func f x y) .nilFunc w KV = KV (.bool false) := be_fun Tryz.underlying82 f x y xo yo
theorem sz83 : Tryz.prog.szo 83 = some 1 := by kernel_rfl
theorem ldf83 (a : Addr) : vLoad Tryz.prog 83 (.pointer (some a)) w KV = ∃ v, w.cell? a = some v ∧ KV v := ld_fn 83 _ _ _ a Tryz.underlying83
theorem fe83 (f : Fn) (x y : Array Value) (xo yo : Operand) : vBinO Tryz.prog .eql 83 xo yo (.func f x y) .nilFunc w KV = KV (.bool false) := be_fun Tryz.underlying83 f x y xo yo
theorem sz84 : Tryz.prog.szo 84 = some 1 := by kernel_rfl
theorem ldf84 (a : Addr) : vLoad Tryz.prog 84 (.pointer (some a)) w KV = ∃ v, w.cell? a = some v ∧ KV v := ld_fn 84 _ _ _ a Tryz.underlying84
theorem fe84 (f : Fn) (x y : Array Value) (xo yo : Operand) : vBinO Tryz.prog .eql 84 xo yo (.func f x y) .nilFunc w KV = KV (.bool false) := be_fun Tryz.underlying84 f x y xo yo
theorem sz85 : Tryz.prog.szo 85 = some 1 := by kernel_rfl
theorem ldf85 (a : Addr) : vLoad Tryz.prog 85 (.pointer (some a)) w KV = ∃ v, w.cell? a = some v ∧ KV v := ld_fn 85 _ _ _ a Tryz.underlying85
theorem fe85 (f : Fn) (x y : Array Value) (xo yo : Operand) : vBinO Tryz.prog .eql 85 xo yo (.func f x y) .nilFunc w KV = KV (.bool false) := be_fun Tryz.underlying85 f x y xo yo
theorem sz86 : Tryz.prog.szo 86 = some 1 := by kernel_rfl
theorem ldf86 (a : Addr) : vLoad Tryz.prog 86 (.pointer (some a)) w KV = ∃ v, w.cell? a = some v ∧ KV v := ld_fn 86 _ _ _ a Tryz.underlying86
theorem fe86 (f : Fn) (x y : Array Value) (xo yo : Operand) : vBinO Tryz.prog .eql 86 xo yo (.func f x y) .nilFunc w KV = KV (.bool false) := be_fun Tryz.underlying86 f x y xo yo
theorem sz87 : Tryz.prog.szo 87 = some 1 := by kernel_rfl
theorem ldf87 (a : Addr) : vLoad Tryz.prog 87 (.pointer (some a)) w KV = ∃ v, w.cell? a = some v ∧ KV v := ld_fn 87 _ _ _ a Tryz.underlying87
theorem fe87 (f : Fn) (x y : Array Value) (xo yo : Operand) : vBinO Tryz.prog .eql 87 xo yo (.func f x y) .nilFunc w KV = KV (.bool false) := be_fun Tryz.underlying87 f x y xo yo
theorem sz88 : Tryz.prog.szo 88 = some 1 := by kernel_rfl
theorem ldf88 (a : Addr) : vLoad Tryz.prog 88 (.pointer (some a)) w KV = ∃ v, w.cell? a = some v ∧ KV v := ld_fn 88 _ _ _ a Tryz.underlying88
theorem fe88 (f : Fn) (x y : Array Value) (xo yo : Operand) : vBinO Tryz.prog .eql 88 xo yo (.func f x y) .nilFunc w KV = KV (.bool false) := be_fun Tryz.underlying88 f x y xo yo
theorem sz89 : Tryz.prog.szo 89 = some 1 := by kernel_rfl
theorem ldf89 (a : Addr) : vLoad Tryz.prog 89 (.pointer (some a)) w KV = ∃ v, w.cell? a = some v ∧ KV v := ld_fn 89 _ _ _ a Tryz.underlying89
theorem fe89 (f : Fn) (x y : Array Value) (xo yo : Operand) : vBinO Tryz.prog .eql 89 xo yo (.func f x y) .nilFunc w KV = KV (.bool false) := be_fun Tryz.underlying89 f x y xo yo
theorem sz90 : Tryz.prog.szo 90 = some 1 := by kernel_rfl
theorem ld90 (a : Addr) : vLoad Tryz.prog 90 (.pointer (some a)) w KV = ∃ v, w.cell? a = some v ∧ KV v := ld_int 90 a .u64 Tryz.underlying90
theorem cv90_2 (k : IntKind) (n : Int) : vConv Tryz.prog 90 2 (.int k n) w KV = vWrap .i64 n KV := cv_int 90 2 _ .i64 k n Tryz.underlying90 Tryz.underlying2
theorem cp90_2 : convPure Tryz.prog 90 2 = true := by kernel_rfl
theorem cv90_3 (k : IntKind) (n : Int) : vConv Tryz.prog 90 3 (.int k n) w KV = vWrap .i64 n KV := cv_int 90 3 _ .i64 k n Tryz.underlying90 Tryz.underlying3
theorem cp90_3 : convPure Tryz.prog 90 3 = true := by kernel_rfl
theorem cv90_5 (k : IntKind) (n : Int) : vConv Tryz.prog 90 5 (.int k n) w KV = vWrap .u8 n KV := cv_int 90 5 _ .u8 k n Tryz.underlying90 Tryz.underlying5
theorem cp90_5 : convPure Tryz.prog 90 5 = true := by kernel_rfl
theorem cv90_12 (k : IntKind) (n : Int) : vConv Tryz.prog 90 12 (.int k n) w KV = vWrap .u64 n KV := cv_int 90 12 _ .u64 k n Tryz.underlying90 Tryz.underlying12
theorem cp90_12 : convPure Tryz.prog 90 12 = true := by kernel_rfl
theorem cv90_21 (k : IntKind) (n : Int) : vConv Tryz.prog 90 21 (.int k n) w KV = vWrap .i32 n KV := cv_int 90 21 _ .i32 k n Tryz.underlying90 Tryz.underlying21
theorem cp90_21 : convPure Tryz.prog 90 21 = true := by kernel_rfl
theorem cv90_24 (k : IntKind) (n : Int) : vConv Tryz.prog 90 24 (.int k n) w KV = vWrap .i64 n KV := cv_int 90 24 _ .i64 k n Tryz.underlying90 Tryz.underlying24
theorem cp90_24 : convPure Tryz.prog 90 24 = true := by kernel_rfl
theorem cv90_90 (k : IntKind) (n : Int) : vConv Tryz.prog 90 90 (.int k n) w KV = vWrap .u64 n KV := cv_int 90 90 _ .u64 k n Tryz.underlying90 Tryz.underlying90
theorem cp90_90 : convPure Tryz.prog 90 90 = true := by kernel_rfl
theorem cv90_108 (k : IntKind) (n : Int) : vConv Tryz.prog 90 108 (.int k n) w KV = vWrap .u32 n KV := cv_int 90 108 _ .u32 k n Tryz.underlying90 Tryz.underlying108
theorem cp90_108 : convPure Tryz.prog 90 108 = true := by kernel_rfl
theorem cv90_113 (k : IntKind) (n : Int) : vConv Tryz.prog 90 113 (.int k n) w KV = vWrap .u64 n KV := cv_int 90 113 _ .u64 k n Tryz.underlying90 Tryz.underlying113
theorem cp90_113 : convPure Tryz.prog 90 113 = true := by kernel_rfl
theorem cv90_130 (k : IntKind) (n : Int) : vConv Tryz.prog 90 130 (.int k n) w KV = vWrap .i64 n KV := cv_int 90 130 _ .i64 k n Tryz.underlying90 Tryz.underlying130
theorem cp90_130 : convPure Tryz.prog 90 130 = true := by kernel_rfl
theorem cv90_189 (k : IntKind) (n : Int) : vConv Tryz.prog 90 189 (.int k n) w KV = vWrap .u64 n KV := cv_int 90 189 _ .u64 k n Tryz.underlying90 Tryz.underlying189
theorem cp90_189 : convPure Tryz.prog 90 189 = true := by kernel_rfl
theorem sz91 : Tryz.prog.szo 91 = some 1 := by kernel_rfl
theorem ln91 (a : Option Addr) (n c : Nat) : vLen Tryz.prog 91 (.slice a n c) KV = KV (.int .i64 n) := ln_sl 91 9 a n c Tryz.underlying91
theorem snn91 (a : Option Addr) (n c : Nat) : vSlice Tryz.prog 91 (.slice a n c) none none KV = (n ≤ c ∧ KV (.slice a n c)) := sl_nn 91 9 a n c 1 Tryz.underlying91 (by kernel_rfl)
theorem sln91 (a : Option Addr) (n c : Nat) (k : IntKind) (l : Int) : vSlice Tryz.prog 91 (.slice a n c) (some (.int k l)) none KV = ((0 ≤ l ∧ l ≤ n ∧ n ≤ c) ∧ KV (.slice (if c = l.toNat then a else a.map (·.add (l.toNat * 1))) (n - l.toNat) (c - l.toNat))) := sl_ln 91 9 a n c 1 k l Tryz.underlying91 (by kernel_rfl)
theorem snh91 (a : Option Addr) (n c : Nat) (k : IntKind) (l : Int) : vSlice Tryz.prog 91 (.slice a n c) none (some (.int k l)) KV = ((0 ≤ l ∧ l ≤ c) ∧ KV (.slice a l.toNat c)) := sl_nh 91 9 a n c 1 k l Tryz.underlying91 (by kernel_rfl)
theorem slh91 (a : Option Addr) (n c : Nat) (k k' : IntKind) (l m : Int) : vSlice Tryz.prog 91 (.slice a n c) (some (.int k l)) (some (.int k' m)) KV = ((0 ≤ l ∧ l ≤ m ∧ m ≤ c) ∧ KV (.slice (if c = l.toNat then a else a.map (·.add (l.toNat * 1))) (m.toNat - l.toNat) (c - l.toNat))) := sl_lh 91 9 a n c 1 k k' l m Tryz.underlying91 (by kernel_rfl)
theorem ia91 (a : Addr) (n c : Nat) (k : IntKind) (i : Int) : vIndexAddr Tryz.prog 91 (.slice (some a) n c) (.int k i) KV = ((0 ≤ i ∧ i < n) ∧ KV (.pointer (some (a.add (i.toNat * 1))))) := ia_sl 91 9 a n c 1 k i Tryz.underlying91 (by kernel_rfl)
theorem ld91 (a : Addr) : vLoad Tryz.prog 91 (.pointer (some a)) w KV = ∃ v, w.cell? a = some v ∧ KV v := ld_sl 91 9 a Tryz.underlying91
theorem sz92 : Tryz.prog.szo 92 = some 1 := by kernel_rfl
theorem ldf92 (a : Addr) : vLoad Tryz.prog 92 (.pointer (some a)) w KV = ∃ v, w.cell? a = some v ∧ KV v := ld_fn 92 _ _ _ a Tryz.underlying92
theorem fe92 (f : Fn) (x y : Array Value) (xo yo : Operand) : vBinO Tryz.prog .eql 92 xo yo (.func f x y) .nilFunc w KV = KV (.bool false) := be_fun Tryz.underlying92 f x y xo yo
theorem sz93 : Tryz.prog.szo 93 = some 1 := by kernel_rfl
theorem ldf93 (a : Addr) : vLoad Tryz.prog 93 (.pointer (some a)) w KV = ∃ v, w.cell? a = some v ∧ KV v := ld_fn 93 _ _ _ a Tryz.underlying93
theorem fe93 (f : Fn) (x y : Array Value) (xo yo : Operand) : vBinO Tryz.prog .eql 93 xo yo (.func f x y) .nilFunc w KV = KV (.bool false) := be_fun Tryz.underlying93 f x y xo yo
theorem sz95 : Tryz.prog.szo 95 = some 1 := by kernel_rfl
theorem ldf95 (a : Addr) : vLoad Tryz.prog 95 (.pointer (some a)) w KV = ∃ v, w.cell? a = some v ∧ KV v := ld_fn 95 _ _ _ a Tryz.underlying95
theorem fe95 (f : Fn) (x y : Array Value) (xo yo : Operand) : vBinO Tryz.prog .eql 95 xo yo (.func f x y) .nilFunc w KV = KV (.bool false) := be_fun Tryz.underlying95 f x y xo yo
theorem sz96 : Tryz.prog.szo 96 = some 1 := by kernel_rfl
theorem ldf96 (a : Addr) : vLoad Tryz.prog 96 (.pointer (some a)) w KV = ∃ v, w.cell? a = some v ∧ KV v := ld_fn 96 _ _ _ a Tryz.underlying96
theorem fe96 (f : Fn) (x y : Array Value) (xo yo : Operand) : vBinO Tryz.prog .eql 96 xo yo (.func f x y) .nilFunc w KV = KV (.bool false) := be_fun Tryz.underlying96 f x y xo yo
theorem sz97 : Tryz.prog.szo 97 = some 1 := by kernel_rfl
theorem ldf97 (a : Addr) : vLoad Tryz.prog 97 (.pointer (some a)) w KV = ∃ v, w.cell? a = some v ∧ KV v := ld_fn 97 _ _ _ a Tryz.underlying97
theorem fe97 (f : Fn) (x y : Array Value) (xo yo : Operand) : vBinO Tryz.prog .eql 97 xo yo (.func f x y) .nilFunc w KV = KV (.bool false) := be_fun Tryz.underlying97 f x y xo yo
theorem sz98 : Tryz.prog.szo 98 = some 1 := by kernel_rfl
theorem ldf98 (a : Addr) : vLoad Tryz.prog 98 (.pointer (some a)) w KV = ∃ v, w.cell? a = some v ∧ KV v := ld_fn 98 _ _ _ a Tryz.underlying98
theorem fe98 (f : Fn) (x y : Array Value) (xo yo : Operand) : vBinO Tryz.prog .eql 98 xo yo (.func f x y) .nilFunc w KV = KV (.bool false) := be_fun Tryz.underlying98 f x y xo yo
theorem sz99 : Tryz.prog.szo 99 = some 2 := by kernel_rfl
theorem ld99 (a : Addr) : vLoad Tryz.prog 99 (.pointer (some a)) w KV = ∃ cs : List Value, (cs.length = 2 ∧ Reads w a cs) ∧ KV (.agg cs.toArray) := ld_st 99 2 a _ Tryz.underlying99 (by kernel_rfl)
theorem bd99 (s0 : ByteArray) (n1 : Int) : vBuild Tryz.prog 99 [(0, .string s0), (1, .int .i64 n1)] KV = KV (.agg #[.string s0, .int .i64 n1]) := bd_of (by kernel_rfl)
theorem bz99 : vBuild Tryz.prog 99 [] KV = KV (.agg #[.string ⟨#[]⟩, .int .i64 0]) := bd_of (by kernel_rfl)
theorem fd99_0 (l : List Value) : vField Tryz.prog 99 (.agg l.toArray) 0 KV = vNth l 0 KV := fd_cell 99 0 l Tryz.underlying99 rfl (by kernel_rfl) (by kernel_rfl) (by kernel_rfl)
theorem fa99_0 (a : Addr) : vFieldAddr Tryz.prog 99 (.pointer (some a)) 0 KV = KV (.pointer (some (a.add 0))) := fa_st 99 0 a (m := 0) Tryz.underlying99 rfl (by kernel_rfl)
theorem fd99_1 (l : List Value) : vField Tryz.prog 99 (.agg l.toArray) 1 KV = vNth l 1 KV := fd_cell 99 1 l Tryz.underlying99 rfl (by kernel_rfl) (by kernel_rfl) (by kernel_rfl)
theorem fa99_1 (a : Addr) : vFieldAddr Tryz.prog 99 (.pointer (some a)) 1 KV = KV (.pointer (some (a.add 1))) := fa_st 99 1 a (m := 0) Tryz.underlying99 rfl (by kernel_rfl)
theorem sz100 : Tryz.prog.szo 100 = some 2 := by kernel_rfl
theorem ld100 (a : Addr) : vLoad Tryz.prog 100 (.pointer (some a)) w KV = ∃ cs : List Value, (cs.length = 2 ∧ Reads w a cs) ∧ KV (.agg cs.toArray) := ld_st 100 2 a _ Tryz.underlying100 (by kernel_rfl)
theorem bd100 (s0 : ByteArray) (n1 : Int) : vBuild Tryz.prog 100 [(0, .string s0), (1, .int .i64 n1)] KV = KV (.agg #[.string s0, .int .i64 n1]) := bd_of (by kernel_rfl)
theorem bz100 : vBuild Tryz.prog 100 [] KV = KV (.agg #[.string ⟨#[]⟩, .int .i64 0]) := bd_of (by kernel_rfl)
theorem fd100_0 (l : List Value) : vField Tryz.prog 100 (.agg l.toArray) 0 KV = vNth l 0 KV := fd_cell 100 0 l Tryz.underlying100 rfl (by kernel_rfl) (by kernel_rfl) (by kernel_rfl)
theorem fa100_0 (a : Addr) : vFieldAddr Tryz.prog 100 (.pointer (some a)) 0 KV = KV (.pointer (some (a.add 0))) := fa_st 100 0 a (m := 0) Tryz.underlying100 rfl (by kernel_rfl)
theorem fd100_1 (l : List Value) : vField Tryz.prog 100 (.agg l.toArray) 1 KV = vNth l 1 KV := fd_cell 100 1 l Tryz.underlying100 rfl (by kernel_rfl) (by kernel_rfl) (by kernel_rfl)
theorem fa100_1 (a : Addr) : vFieldAddr Tryz.prog 100 (.pointer (some a)) 1 KV = KV (.pointer (some (a.add 1))) := fa_st 100 1 a (m := 0) Tryz.underlying100 rfl (by kernel_rfl)
theorem sz101 : Tryz.prog.szo 101 = some 1 := by kernel_rfl
theorem ln101 (a : Option Addr) (n c : Nat) : vLen Tryz.prog 101 (.slice a n c) KV = KV (.int .i64 n) := ln_sl 101 100 a n c Tryz.underlying101
theorem snn101 (a : Option Addr) (n c : Nat) : vSlice Tryz.prog 101 (.slice a n c) none none KV = (n ≤ c ∧ KV (.slice a n c)) := sl_nn 101 100 a n c 2 Tryz.underlying101 (by kernel_rfl)
theorem sln101 (a : Option Addr) (n c : Nat) (k : IntKind) (l : Int) : vSlice Tryz.prog 101 (.slice a n c) (some (.int k l)) none KV = ((0 ≤ l ∧ l ≤ n ∧ n ≤ c) ∧ KV (.slice (if c = l.toNat then a else a.map (·.add (l.toNat * 2))) (n - l.toNat) (c - l.toNat))) := sl_ln 101 100 a n c 2 k l Tryz.underlying101 (by kernel_rfl)
theorem snh101 (a : Option Addr) (n c : Nat) (k : IntKind) (l : Int) : vSlice Tryz.prog 101 (.slice a n c) none (some (.int k l)) KV = ((0 ≤ l ∧ l ≤ c) ∧ KV (.slice a l.toNat c)) := sl_nh 101 100 a n c 2 k l Tryz.underlying101 (by kernel_rfl)
theorem slh101 (a : Option Addr) (n c : Nat) (k k' : IntKind) (l m : Int) : vSlice Tryz.prog 101 (.slice a n c) (some (.int k l)) (some (.int k' m)) KV = ((0 ≤ l ∧ l ≤ m ∧ m ≤ c) ∧ KV (.slice (if c = l.toNat then a else a.map (·.add (l.toNat * 2))) (m.toNat - l.toNat) (c - l.toNat))) := sl_lh 101 100 a n c 2 k k' l m Tryz.underlying101 (by kernel_rfl)
theorem ia101 (a : Addr) (n c : Nat) (k : IntKind) (i : Int) : vIndexAddr Tryz.prog 101 (.slice (some a) n c) (.int k i) KV = ((0 ≤ i ∧ i < n) ∧ KV (.pointer (some (a.add (i.toNat * 2))))) := ia_sl 101 100 a n c 2 k i Tryz.underlying101 (by kernel_rfl)
theorem ld101 (a : Addr) : vLoad Tryz.prog 101 (.pointer (some a)) w KV = ∃ v, w.cell? a = some v ∧ KV v := ld_sl 101 100 a Tryz.underlying101
theorem sz102 : Tryz.prog.szo 102 = some 1 := by kernel_rfl
theorem ln102 (a : Option Addr) (n c : Nat) : vLen Tryz.prog 102 (.slice a n c) KV = KV (.int .i64 n) := ln_sl 102 108 a n c Tryz.underlying102
theorem snn102 (a : Option Addr) (n c : Nat) : vSlice Tryz.prog 102 (.slice a n c) none none KV = (n ≤ c ∧ KV (.slice a n c)) := sl_nn 102 108 a n c 1 Tryz.underlying102 (by kernel_rfl)
theorem sln102 (a : Option Addr) (n c : Nat) (k : IntKind) (l : Int) : vSlice Tryz.prog 102 (.slice a n c) (some (.int k l)) none KV = ((0 ≤ l ∧ l ≤ n ∧ n ≤ c) ∧ KV (.slice (if c = l.toNat then a else a.map (·.add (l.toNat * 1))) (n - l.toNat) (c - l.toNat))) := sl_ln 102 108 a n c 1 k l Tryz.underlying102 (by kernel_rfl)
theorem snh102 (a : Option Addr) (n c : Nat) (k : IntKind) (l : Int) : vSlice Tryz.prog 102 (.slice a n c) none (some (.int k l)) KV = ((0 ≤ l ∧ l ≤ c) ∧ KV (.slice a l.toNat c)) := sl_nh 102 108 a n c 1 k l Tryz.underlying102 (by kernel_rfl)
theorem slh102 (a : Option Addr) (n c : Nat) (k k' : IntKind) (l m : Int) : vSlice Tryz.prog 102 (.slice a n c) (some (.int k l)) (some (.int k' m)) KV = ((0 ≤ l ∧ l ≤ m ∧ m ≤ c) ∧ KV (.slice (if c = l.toNat then a else a.map (·.add (l.toNat * 1))) (m.toNat - l.toNat) (c - l.toNat))) := sl_lh 102 108 a n c 1 k k' l m Tryz.underlying102 (by kernel_rfl)
theorem ia102 (a : Addr) (n c : Nat) (k : IntKind) (i : Int) : vIndexAddr Tryz.prog 102 (.slice (some a) n c) (.int k i) KV = ((0 ≤ i ∧ i < n) ∧ KV (.pointer (some (a.add (i.toNat * 1))))) := ia_sl 102 108 a n c 1 k i Tryz.underlying102 (by kernel_rfl)
theorem ld102 (a : Addr) : vLoad Tryz.prog 102 (.pointer (some a)) w KV = ∃ v, w.cell? a = some v ∧ KV v := ld_sl 102 108 a Tryz.underlying102
theorem sz103 : Tryz.prog.szo 103 = some 1 := by kernel_rfl
theorem ldf103 (a : Addr) : vLoad Tryz.prog 103 (.pointer (some a)) w KV = ∃ v, w.cell? a = some v ∧ KV v := ld_fn 103 _ _ _ a Tryz.underlying103
theorem fe103 (f : Fn) (x y : Array Value) (xo yo : Operand) : vBinO Tryz.prog .eql 103 xo yo (.func f x y) .nilFunc w KV = KV (.bool false) := be_fun Tryz.underlying103 f x y xo yo
theorem sz104 : Tryz.prog.szo 104 = some 1 := by kernel_rfl
theorem ldf104 (a : Addr) : vLoad Tryz.prog 104 (.pointer (some a)) w KV = ∃ v, w.cell? a = some v ∧ KV v := ld_fn 104 _ _ _ a Tryz.underlying104
theorem fe104 (f : Fn) (x y : Array Value) (xo yo : Operand) : vBinO Tryz.prog .eql 104 xo yo (.func f x y) .nilFunc w KV = KV (.bool false) := be_fun Tryz.underlying104 f x y xo yo
theorem sz105 : Tryz.prog.szo 105 = some 1 := by kernel_rfl
theorem ldf105 (a : Addr) : vLoad Tryz.prog 105 (.pointer (some a)) w KV = ∃ v, w.cell? a = some v ∧ KV v := ld_fn 105 _ _ _ a Tryz.underlying105
theorem fe105 (f : Fn) (x y : Array Value) (xo yo : Operand) : vBinO Tryz.prog .eql 105 xo yo (.func f x y) .nilFunc w KV = KV (.bool false) := be_fun Tryz.underlying105 f x y xo yo
theorem sz107 : Tryz.prog.szo 107 = some 1 := by kernel_rfl
theorem ldf107 (a : Addr) : vLoad Tryz.prog 107 (.pointer (some a)) w KV = ∃ v, w.cell? a = some v ∧ KV v := ld_fn 107 _ _ _ a Tryz.underlying107
theorem fe107 (f : Fn) (x y : Array Value) (xo yo : Operand) : vBinO Tryz.prog .eql 107 xo yo (.func f x y) .nilFunc w KV = KV (.bool false) := be_fun Tryz.underlying107 f x y xo yo
theorem sz108 : Tryz.prog.szo 108 = some 1 := by kernel_rfl
theorem ld108 (a : Addr) : vLoad Tryz.prog 108 (.pointer (some a)) w KV = ∃ v, w.cell? a = some v ∧ KV v := ld_int 108 a .u32 Tryz.underlying108
theorem cv108_2 (k : IntKind) (n : Int) : vConv Tryz.prog 108 2 (.int k n) w KV = vWrap .i64 n KV := cv_int 108 2 _ .i64 k n Tryz.underlying108 Tryz.underlying2
theorem cp108_2 : convPure Tryz.prog 108 2 = true := by kernel_rfl
theorem cv108_3 (k : IntKind) (n : Int) : vConv Tryz.prog 108 3 (.int k n) w KV = vWrap .i64 n KV := cv_int 108 3 _ .i64 k n Tryz.underlying108 Tryz.underlying3
theorem cp108_3 : convPure Tryz.prog 108 3 = true := by kernel_rfl
theorem cv108_5 (k : IntKind) (n : Int) : vConv Tryz.prog 108 5 (.int k n) w KV = vWrap .u8 n KV := cv_int 108 5 _ .u8 k n Tryz.underlying108 Tryz.underlying5
theorem cp108_5 : convPure Tryz.prog 108 5 = true := by kernel_rfl
theorem cv108_12 (k : IntKind) (n : Int) : vConv Tryz.prog 108 12 (.int k n) w KV = vWrap .u64 n KV := cv_int 108 12 _ .u64 k n Tryz.underlying108 Tryz.underlying12
theorem cp108_12 : convPure Tryz.prog 108 12 = true := by kernel_rfl
theorem cv108_21 (k : IntKind) (n : Int) : vConv Tryz.prog 108 21 (.int k n) w KV = vWrap .i32 n KV := cv_int 108 21 _ .i32 k n Tryz.underlying108 Tryz.underlying21
theorem cp108_21 : convPure Tryz.prog 108 21 = true := by kernel_rfl
theorem cv108_24 (k : IntKind) (n : Int) : vConv Tryz.prog 108 24 (.int k n) w KV = vWrap .i64 n KV := cv_int 108 24 _ .i64 k n Tryz.underlying108 Tryz.underlying24
theorem cp108_24 : convPure Tryz.prog 108 24 = true := by kernel_rfl
theorem cv108_90 (k : IntKind) (n : Int) : vConv Tryz.prog 108 90 (.int k n) w KV = vWrap .u64 n KV := cv_int 108 90 _ .u64 k n Tryz.underlying108 Tryz.underlying90
theorem cp108_90 : convPure Tryz.prog 108 90 = true := by kernel_rfl
theorem cv108_108 (k : IntKind) (n : Int) : vConv Tryz.prog 108 108 (.int k n) w KV = vWrap .u32 n KV := cv_int 108 108 _ .u32 k n Tryz.underlying108 Tryz.underlying108
theorem cp108_108 : convPure Tryz.prog 108 108 = true := by kernel_rfl
theorem cv108_113 (k : IntKind) (n : Int) : vConv Tryz.prog 108 113 (.int k n) w KV = vWrap .u64 n KV := cv_int 108 113 _ .u64 k n Tryz.underlying108 Tryz.underlying113
theorem cp108_113 : convPure Tryz.prog 108 113 = true := by kernel_rfl
theorem cv108_130 (k : IntKind) (n : Int) : vConv Tryz.prog 108 130 (.int k n) w KV = vWrap .i64 n KV := cv_int 108 130 _ .i64 k n Tryz.underlying108 Tryz.underlying130
theorem cp108_130 : convPure Tryz.prog 108 130 = true := by kernel_rfl
theorem cv108_189 (k : IntKind) (n : Int) : vConv Tryz.prog 108 189 (.int k n) w KV = vWrap .u64 n KV := cv_int 108 189 _ .u64 k n Tryz.underlying108 Tryz.underlying189
theorem cp108_189 : convPure Tryz.prog 108 189 = true := by kernel_rfl
theorem sz109 : Tryz.prog.szo 109 = some 1 := by kernel_rfl
theorem ldf109 (a : Addr) : vLoad Tryz.prog 109 (.pointer (some a)) w KV = ∃ v, w.cell? a = some v ∧ KV v := ld_fn 109 _ _ _ a Tryz.underlying109
theorem fe109 (f : Fn) (x y : Array Value) (xo yo : Operand) : vBinO Tryz.prog .eql 109 xo yo (.func f x y) .nilFunc w KV = KV (.bool false) := be_fun Tryz.underlying109 f x y xo yo
theorem sz110 : Tryz.prog.szo 110 = some 1 := by kernel_rfl
theorem pe110 (a : Option Addr) (xo yo : Operand) : vBinO Tryz.prog .eql 110 xo yo (.pointer a) (.pointer none) w KV = KV (.bool a.isNone) := be_ptr Tryz.underlying110 a xo yo
theorem pn110 (a : Option Addr) (xo yo : Operand) : vBinO Tryz.prog .neq 110 xo yo (.pointer a) (.pointer none) w KV = KV (.bool !a.isNone) := bn_ptr Tryz.underlying110 a xo yo
theorem ld110 (a : Addr) : vLoad Tryz.prog 110 (.pointer (some a)) w KV = ∃ v, w.cell? a = some v ∧ KV v := ld_ptr 110 166 a Tryz.underlying110
theorem sz111 : Tryz.prog.szo 111 = some 1 := by kernel_rfl
theorem ldf111 (a : Addr) : vLoad Tryz.prog 111 (.pointer (some a)) w KV = ∃ v, w.cell? a = some v ∧ KV v := ld_fn 111 _ _ _ a Tryz.underlying111
theorem fe111 (f : Fn) (x y : Array Value) (xo yo : Operand) : vBinO Tryz.prog .eql 111 xo yo (.func f x y) .nilFunc w KV = KV (.bool false) := be_fun Tryz.underlying111 f x y xo yo
theorem sz112 : Tryz.prog.szo 112 = some 1 := by kernel_rfl
theorem ldf112 (a : Addr) : vLoad Tryz.prog 112 (.pointer (some a)) w KV = ∃ v, w.cell? a = some v ∧ KV v := ld_fn 112 _ _ _ a Tryz.underlying112
theorem fe112 (f : Fn) (x y : Array Value) (xo yo : Operand) : vBinO Tryz.prog .eql 112 xo yo (.func f x y) .nilFunc w KV = KV (.bool false) := be_fun Tryz.underlying112 f x y xo yo
theorem sz113 : Tryz.prog.szo 113 = some 1 := by kernel_rfl
theorem ld113 (a : Addr) : vLoad Tryz.prog 113 (.pointer (some a)) w KV = ∃ v, w.cell? a = some v ∧ KV v := ld_int 113 a .u64 Tryz.underlying113
theorem cv113_2 (k : IntKind) (n : Int) : vConv Tryz.prog 113 2 (.int k n) w KV = vWrap .i64 n KV := cv_int 113 2 _ .i64 k n Tryz.underlying113 Tryz.underlying2
theorem cp113_2 : convPure Tryz.prog 113 2 = true := by kernel_rfl
theorem cv113_3 (k : IntKind) (n : Int) : vConv Tryz.prog 113 3 (.int k n) w KV = vWrap .i64 n KV := cv_int 113 3 _ .i64 k n Tryz.underlying113 Tryz.underlying3
theorem cp113_3 : convPure Tryz.prog 113 3 = true := by kernel_rfl
theorem cv113_5 (k : IntKind) (n : Int) : vConv Tryz.prog 113 5 (.int k n) w KV = vWrap .u8 n KV := cv_int 113 5 _ .u8 k n Tryz.underlying113 Tryz.underlying5
theorem cp113_5 : convPure Tryz.prog 113 5 = true := by kernel_rfl
theorem cv113_12 (k : IntKind) (n : Int) : vConv Tryz.prog 113 12 (.int k n) w KV = vWrap .u64 n KV := cv_int 113 12 _ .u64 k n Tryz.underlying113 Tryz.underlying12
theorem cp113_12 : convPure Tryz.prog 113 12 = true := by kernel_rfl
theorem cv113_21 (k : IntKind) (n : Int) : vConv Tryz.prog 113 21 (.int k n) w KV = vWrap .i32 n KV := cv_int 113 21 _ .i32 k n Tryz.underlying113 Tryz.underlying21
theorem cp113_21 : convPure Tryz.prog 113 21 = true := by kernel_rfl
theorem cv113_24 (k : IntKind) (n : Int) : vConv Tryz.prog 113 24 (.int k n) w KV = vWrap .i64 n KV := cv_int 113 24 _ .i64 k n Tryz.underlying113 Tryz.underlying24
theorem cp113_24 : convPure Tryz.prog 113 24 = true := by kernel_rfl
theorem cv113_90 (k : IntKind) (n : Int) : vConv Tryz.prog 113 90 (.int k n) w KV = vWrap .u64 n KV := cv_int 113 90 _ .u64 k n Tryz.underlying113 Tryz.underlying90
theorem cp113_90 : convPure Tryz.prog 113 90 = true := by kernel_rfl
theorem cv113_108 (k : IntKind) (n : Int) : vConv Tryz.prog 113 108 (.int k n) w KV = vWrap .u32 n KV := cv_int 113 108 _ .u32 k n Tryz.underlying113 Tryz.underlying108
theorem cp113_108 : convPure Tryz.prog 113 108 = true := by kernel_rfl
theorem cv113_113 (k : IntKind) (n : Int) : vConv Tryz.prog 113 113 (.int k n) w KV = vWrap .u64 n KV := cv_int 113 113 _ .u64 k n Tryz.underlying113 Tryz.underlying113
theorem cp113_113 : convPure Tryz.prog 113 113 = true := by kernel_rfl
theorem cv113_130 (k : IntKind) (n : Int) : vConv Tryz.prog 113 130 (.int k n) w KV = vWrap .i64 n KV := cv_int 113 130 _ .i64 k n Tryz.underlying113 Tryz.underlying130
theorem cp113_130 : convPure Tryz.prog 113 130 = true := by kernel_rfl
theorem cv113_189 (k : IntKind) (n : Int) : vConv Tryz.prog 113 189 (.int k n) w KV = vWrap .u64 n KV := cv_int 113 189 _ .u64 k n Tryz.underlying113 Tryz.underlying189
theorem cp113_189 : convPure Tryz.prog 113 189 = true := by kernel_rfl
theorem sz114 : Tryz.prog.szo 114 = some 1 := by kernel_rfl
theorem ldf114 (a : Addr) : vLoad Tryz.prog 114 (.pointer (some a)) w KV = ∃ v, w.cell? a = some v ∧ KV v := ld_fn 114 _ _ _ a Tryz.underlying114
theorem fe114 (f : Fn) (x y : Array Value) (xo yo : Operand) : vBinO Tryz.prog .eql 114 xo yo (.func f x y) .nilFunc w KV = KV (.bool false) := be_fun Tryz.underlying114 f x y xo yo
theorem sz115 : Tryz.prog.szo 115 = some 1 := by kernel_rfl
theorem ldf115 (a : Addr) : vLoad Tryz.prog 115 (.pointer (some a)) w KV = ∃ v, w.cell? a = some v ∧ KV v := ld_fn 115 _ _ _ a Tryz.underlying115
theorem fe115 (f : Fn) (x y : Array Value) (xo yo : Operand) : vBinO Tryz.prog .eql 115 xo yo (.func f x y) .nilFunc w KV = KV (.bool false) := be_fun Tryz.underlying115 f x y xo yo
theorem sz116 : Tryz.prog.szo 116 = some 1 := by kernel_rfl
theorem ldf116 (a : Addr) : vLoad Tryz.prog 116 (.pointer (some a)) w KV = ∃ v, w.cell? a = some v ∧ KV v := ld_fn 116 _ _ _ a Tryz.underlying116
theorem fe116 (f : Fn) (x y : Array Value) (xo yo : Operand) : vBinO Tryz.prog .eql 116 xo yo (.func f x y) .nilFunc w KV = KV (.bool false) := be_fun Tryz.underlying116 f x y xo yo
theorem sz117 : Tryz.prog.szo 117 = some 1 := by kernel_rfl
theorem ldf117 (a : Addr) : vLoad Tryz.prog 117 (.pointer (some a)) w KV = ∃ v, w.cell? a = some v ∧ KV v := ld_fn 117 _ _ _ a Tryz.underlying117
theorem fe117 (f : Fn) (x y : Array Value) (xo yo : Operand) : vBinO Tryz.prog .eql 117 xo yo (.func f x y) .nilFunc w KV = KV (.bool false) := be_fun Tryz.underlying117 f x y xo yo
theorem sz118 : Tryz.prog.szo 118 = some 1 := by kernel_rfl
theorem ldf118 (a : Addr) : vLoad Tryz.prog 118 (.pointer (some a)) w KV = ∃ v, w.cell? a = some v ∧ KV v := ld_fn 118 _ _ _ a Tryz.underlying118
theorem fe118 (f : Fn) (x y : Array Value) (xo yo : Operand) : vBinO Tryz.prog .eql 118 xo yo (.func f x y) .nilFunc w KV = KV (.bool false) := be_fun Tryz.underlying118 f x y xo yo
theorem sz120 : Tryz.prog.szo 120 = some 1 := by kernel_rfl
theorem ldf120 (a : Addr) : vLoad Tryz.prog 120 (.pointer (some a)) w KV = ∃ v, w.cell? a = some v ∧ KV v := ld_fn 120 _ _ _ a Tryz.underlying120
theorem fe120 (f : Fn) (x y : Array Value) (xo yo : Operand) : vBinO Tryz.prog .eql 120 xo yo (.func f x y) .nilFunc w KV = KV (.bool false) := be_fun Tryz.underlying120 f x y xo yo
theorem sz121 : Tryz.prog.szo 121 = some 1 := by kernel_rfl
theorem ldf121 (a : Addr) : vLoad Tryz.prog 121 (.pointer (some a)) w KV = ∃ v, w.cell? a = some v ∧ KV v := ld_fn 121 _ _ _ a Tryz.underlying121
theorem fe121 (f : Fn) (x y : Array Value) (xo yo : Operand) : vBinO Tryz.prog .eql 121 xo yo (.func f x y) .nilFunc w KV = KV (.bool false) := be_fun Tryz.underlying121 f x y xo yo
theorem sz122 : Tryz.prog.szo 122 = some 1 := by kernel_rfl
theorem ldf122 (a : Addr) : vLoad Tryz.prog 122 (.pointer (some a)) w KV = ∃ v, w.cell? a = some v ∧ KV v := ld_fn 122 _ _ _ a Tryz.underlying122
theorem fe122 (f : Fn) (x y : Array Value) (xo yo : Operand) : vBinO Tryz.prog .eql 122 xo yo (.func f x y) .nilFunc w KV = KV (.bool false) := be_fun Tryz.underlying122 f x y xo yo
theorem sz123 : Tryz.prog.szo 123 = some 1 := by kernel_rfl
theorem ldf123 (a : Addr) : vLoad Tryz.prog 123 (.pointer (some a)) w KV = ∃ v, w.cell? a = some v ∧ KV v := ld_fn 123 _ _ _ a Tryz.underlying123
theorem fe123 (f : Fn) (x y : Array Value) (xo yo : Operand) : vBinO Tryz.prog .eql 123 xo yo (.func f x y) .nilFunc w KV = KV (.bool false) := be_fun Tryz.underlying123 f x y xo yo
theorem sz125 : Tryz.prog.szo 125 = some 1 := by kernel_rfl
theorem ldf125 (a : Addr) : vLoad Tryz.prog 125 (.pointer (some a)) w KV = ∃ v, w.cell? a = some v ∧ KV v := ld_fn 125 _ _ _ a Tryz.underlying125
theorem fe125 (f : Fn) (x y : Array Value) (xo yo : Operand) : vBinO Tryz.prog .eql 125 xo yo (.func f x y) .nilFunc w KV = KV (.bool false) := be_fun Tryz.underlying125 f x y xo yo
theorem sz127 : Tryz.prog.szo 127 = some 1 := by kernel_rfl
theorem ldf127 (a : Addr) : vLoad Tryz.prog 127 (.pointer (some a)) w KV = ∃ v, w.cell? a = some v ∧ KV v := ld_fn 127 _ _ _ a Tryz.underlying127
theorem fe127 (f : Fn) (x y : Array Value) (xo yo : Operand) : vBinO Tryz.prog .eql 127 xo yo (.func f x y) .nilFunc w KV = KV (.bool false) := be_fun Tryz.underlying127 f x y xo yo
theorem sz128 : Tryz.prog.szo 128 = some 1 := by kernel_rfl
theorem ldf128 (a : Addr) : vLoad Tryz.prog 128 (.pointer (some a)) w KV = ∃ v, w.cell? a = some v ∧ KV v := ld_fn 128 _ _ _ a Tryz.underlying128
theorem fe128 (f : Fn) (x y : Array Value) (xo yo : Operand) : vBinO Tryz.prog .eql 128 xo yo (.func f x y) .nilFunc w KV = KV (.bool false) := be_fun Tryz.underlying128 f x y xo yo
theorem sz129 : Tryz.prog.szo 129 = some 1 := by kernel_rfl
theorem ldf129 (a : Addr) : vLoad Tryz.prog 129 (.pointer (some a)) w KV = ∃ v, w.cell? a = some v ∧ KV v := ld_fn 129 _ _ _ a Tryz.underlying129
theorem fe129 (f : Fn) (x y : Array Value) (xo yo : Operand) : vBinO Tryz.prog .eql 129 xo yo (.func f x y) .nilFunc w KV = KV (.bool false) := be_fun Tryz.underlying129 f x y xo yo
theorem sz130 : Tryz.prog.szo 130 = some 1 := by kernel_rfl
theorem ld130 (a : Addr) : vLoad Tryz.prog 130 (.pointer (some a)) w KV = ∃ v, w.cell? a = some v ∧ KV v := ld_int 130 a .i64 Tryz.underlying130
theorem cv130_2 (k : IntKind) (n : Int) : vConv Tryz.prog 130 2 (.int k n) w KV = vWrap .i64 n KV := cv_int 130 2 _ .i64 k n Tryz.underlying130 Tryz.underlying2
theorem cp130_2 : convPure Tryz.prog 130 2 = true := by kernel_rfl
theorem cv130_3 (k : IntKind) (n : Int) : vConv Tryz.prog 130 3 (.int k n) w KV = vWrap .i64 n KV := cv_int 130 3 _ .i64 k n Tryz.underlying130 Tryz.underlying3
theorem cp130_3 : convPure Tryz.prog 130 3 = true := by kernel_rfl
theorem cv130_5 (k : IntKind) (n : Int) : vConv Tryz.prog 130 5 (.int k n) w KV = vWrap .u8 n KV := cv_int 130 5 _ .u8 k n Tryz.underlying130 Tryz.underlying5
theorem cp130_5 : convPure Tryz.prog 130 5 = true := by kernel_rfl
theorem cv130_12 (k : IntKind) (n : Int) : vConv Tryz.prog 130 12 (.int k n) w KV = vWrap .u64 n KV := cv_int 130 12 _ .u64 k n Tryz.underlying130 Tryz.underlying12
theorem cp130_12 : convPure Tryz.prog 130 12 = true := by kernel_rfl
theorem cv130_21 (k : IntKind) (n : Int) : vConv Tryz.prog 130 21 (.int k n) w KV = vWrap .i32 n KV := cv_int 130 21 _ .i32 k n Tryz.underlying130 Tryz.underlying21
theorem cp130_21 : convPure Tryz.prog 130 21 = true := by kernel_rfl
theorem cv130_24 (k : IntKind) (n : Int) : vConv Tryz.prog 130 24 (.int k n) w KV = vWrap .i64 n KV := cv_int 130 24 _ .i64 k n Tryz.underlying130 Tryz.underlying24
theorem cp130_24 : convPure Tryz.prog 130 24 = true := by kernel_rfl
theorem cv130_90 (k : IntKind) (n : Int) : vConv Tryz.prog 130 90 (.int k n) w KV = vWrap .u64 n KV := cv_int 130 90 _ .u64 k n Tryz.underlying130 Tryz.underlying90
theorem cp130_90 : convPure Tryz.prog 130 90 = true := by kernel_rfl
theorem cv130_108 (k : IntKind) (n : Int) : vConv Tryz.prog 130 108 (.int k n) w KV = vWrap .u32 n KV := cv_int 130 108 _ .u32 k n Tryz.underlying130 Tryz.underlying108
theorem cp130_108 : convPure Tryz.prog 130 108 = true := by kernel_rfl
theorem cv130_113 (k : IntKind) (n : Int) : vConv Tryz.prog 130 113 (.int k n) w KV = vWrap .u64 n KV := cv_int 130 113 _ .u64 k n Tryz.underlying130 Tryz.underlying113
theorem cp130_113 : convPure Tryz.prog 130 113 = true := by kernel_rfl
theorem cv130_130 (k : IntKind) (n : Int) : vConv Tryz.prog 130 130 (.int k n) w KV = vWrap .i64 n KV := cv_int 130 130 _ .i64 k n Tryz.underlying130 Tryz.underlying130
theorem cp130_130 : convPure Tryz.prog 130 130 = true := by kernel_rfl
theorem cv130_189 (k : IntKind) (n : Int) : vConv Tryz.prog 130 189 (.int k n) w KV = vWrap .u64 n KV := cv_int 130 189 _ .u64 k n Tryz.underlying130 Tryz.underlying189
theorem cp130_189 : convPure Tryz.prog 130 189 = true := by kernel_rfl
theorem sz132 : Tryz.prog.szo 132 = some 1 := by kernel_rfl
theorem ldf132 (a : Addr) : vLoad Tryz.prog 132 (.pointer (some a)) w KV = ∃ v, w.cell? a = some v ∧ KV v := ld_fn 132 _ _ _ a Tryz.underlying132
theorem fe132 (f : Fn) (x y : Array Value) (xo yo : Operand) : vBinO Tryz.prog .eql 132 xo yo (.func f x y) .nilFunc w KV = KV (.bool false) := be_fun Tryz.underlying132 f x y xo yo
theorem sz133 : Tryz.prog.szo 133 = some 1 := by kernel_rfl
theorem ldf133 (a : Addr) : vLoad Tryz.prog 133 (.pointer (some a)) w KV = ∃ v, w.cell? a = some v ∧ KV v := ld_fn 133 _ _ _ a Tryz.underlying133
theorem fe133 (f : Fn) (x y : Array Value) (xo yo : Operand) : vBinO Tryz.prog .eql 133 xo yo (.func f x y) .nilFunc w KV = KV (.bool false) := be_fun Tryz.underlying133 f x y xo yo
theorem sz134 : Tryz.prog.szo 134 = some 1 := by kernel_rfl
theorem ldf134 (a : Addr) : vLoad Tryz.prog 134 (.pointer (some a)) w KV = ∃ v, w.cell? a = some v ∧ KV v := ld_fn 134 _ _ _ a Tryz.underlying134
theorem fe134 (f : Fn) (x y : Array Value) (xo yo : Operand) : vBinO Tryz.prog .eql 134 xo yo (.func f x y) .nilFunc w KV = KV (.bool false) := be_fun Tryz.underlying134 f x y xo yo
theorem sz136 : Tryz.prog.szo 136 = some 1 := by kernel_rfl
theorem ldf136 (a : Addr) : vLoad Tryz.prog 136 (.pointer (some a)) w KV = ∃ v, w.cell? a = some v ∧ KV v := ld_fn 136 _ _ _ a Tryz.underlying136
theorem fe136 (f : Fn) (x y : Array Value) (xo yo : Operand) : vBinO Tryz.prog .eql 136 xo yo (.func f x y) .nilFunc w KV = KV (.bool false) := be_fun Tryz.underlying136 f x y xo yo
theorem sz137 : Tryz.prog.szo 137 = some 1 := by kernel_rfl
theorem ldf137 (a : Addr) : vLoad Tryz.prog 137 (.pointer (some a)) w KV = ∃ v, w.cell? a = some v ∧ KV v := ld_fn 137 _ _ _ a Tryz.underlying137
theorem fe137 (f : Fn) (x y : Array Value) (xo yo : Operand) : vBinO Tryz.prog .eql 137 xo yo (.func f x y) .nilFunc w KV = KV (.bool false) := be_fun Tryz.underlying137 f x y xo yo
theorem sz138 : Tryz.prog.szo 138 = some 1 := by kernel_rfl
theorem ldf138 (a : Addr) : vLoad Tryz.prog 138 (.pointer (some a)) w KV = ∃ v, w.cell? a = some v ∧ KV v := ld_fn 138 _ _ _ a Tryz.underlying138
theorem fe138 (f : Fn) (x y : Array Value) (xo yo : Operand) : vBinO Tryz.prog .eql 138 xo yo (.func f x y) .nilFunc w KV = KV (.bool false) := be_fun Tryz.underlying138 f x y xo yo
theorem sz139 : Tryz.prog.szo 139 = some 1 := by kernel_rfl
theorem ldf139 (a : Addr) : vLoad Tryz.prog 139 (.pointer (some a)) w KV = ∃ v, w.cell? a = some v ∧ KV v := ld_fn 139 _ _ _ a Tryz.underlying139
theorem fe139 (f : Fn) (x y : Array Value) (xo yo : Operand) : vBinO Tryz.prog .eql 139 xo yo (.func f x y) .nilFunc w KV = KV (.bool false) := be_fun Tryz.underlying139 f x y xo yo
theorem sz140 : Tryz.prog.szo 140 = some 1 := by kernel_rfl
theorem ldf140 (a : Addr) : vLoad Tryz.prog 140 (.pointer (some a)) w KV = ∃ v, w.cell? a = some v ∧ KV v := ld_fn 140 _ _ _ a Tryz.underlying140
theorem fe140 (f : Fn) (x y : Array Value) (xo yo : Operand) : vBinO Tryz.prog .eql 140 xo yo (.func f x y) .nilFunc w KV = KV (.bool false) := be_fun Tryz.underlying140 f x y xo yo
theorem sz141 : Tryz.prog.szo 141 = some 1 := by kernel_rfl
theorem ldf141 (a : Addr) : vLoad Tryz.prog 141 (.pointer (some a)) w KV = ∃ v, w.cell? a = some v ∧ KV v := ld_fn 141 _ _ _ a Tryz.underlying141
theorem fe141 (f : Fn) (x y : Array Value) (xo yo : Operand) : vBinO Tryz.prog .eql 141 xo yo (.func f x y) .nilFunc w KV = KV (.bool false) := be_fun Tryz.underlying141 f x y xo yo
theorem sz142 : Tryz.prog.szo 142 = some 1 := by kernel_rfl
theorem pe142 (a : Option Addr) (xo yo : Operand) : vBinO Tryz.prog .eql 142 xo yo (.pointer a) (.pointer none) w KV = KV (.bool a.isNone) := be_ptr Tryz.underlying142 a xo yo
theorem pn142 (a : Option Addr) (xo yo : Operand) : vBinO Tryz.prog .neq 142 xo yo (.pointer a) (.pointer none) w KV = KV (.bool !a.isNone) := bn_ptr Tryz.underlying142 a xo yo
theorem ld142 (a : Addr) : vLoad Tryz.prog 142 (.pointer (some a)) w KV = ∃ v, w.cell? a = some v ∧ KV v := ld_ptr 142 144 a Tryz.underlying142
theorem sz143 : Tryz.prog.szo 143 = some 2 := by kernel_rfl
theorem ld143 (a : Addr) : vLoad Tryz.prog 143 (.pointer (some a)) w KV = ∃ cs : List Value, (cs.length = 2 ∧ Reads w a cs) ∧ KV (.agg cs.toArray) := ld_st 143 2 a _ Tryz.underlying143 (by kernel_rfl)
theorem bd143 (p0 : Option Addr) (a1 : Option Addr) (n1 c1 : Nat) : vBuild Tryz.prog 143 [(0, .pointer p0), (1, .slice a1 n1 c1)] KV = KV (.agg #[.pointer p0, .slice a1 n1 c1]) := bd_of (by kernel_rfl)
theorem bz143 : vBuild Tryz.prog 143 [] KV = KV (.agg #[.pointer none, .slice none 0 0]) := bd_of (by kernel_rfl)
theorem fd143_0 (l : List Value) : vField Tryz.prog 143 (.agg l.toArray) 0 KV = vNth l 0 KV := fd_cell 143 0 l Tryz.underlying143 rfl (by kernel_rfl) (by kernel_rfl) (by kernel_rfl)
theorem fa143_0 (a : Addr) : vFieldAddr Tryz.prog 143 (.pointer (some a)) 0 KV = KV (.pointer (some (a.add 0))) := fa_st 143 0 a (m := 0) Tryz.underlying143 rfl (by kernel_rfl)
theorem fd143_1 (l : List Value) : vField Tryz.prog 143 (.agg l.toArray) 1 KV = vNth l 1 KV := fd_cell 143 1 l Tryz.underlying143 rfl (by kernel_rfl) (by kernel_rfl) (by kernel_rfl)
theorem fa143_1 (a : Addr) : vFieldAddr Tryz.prog 143 (.pointer (some a)) 1 KV = KV (.pointer (some (a.add 1))) := fa_st 143 1 a (m := 0) Tryz.underlying143 rfl (by kernel_rfl)
theorem sz144 : Tryz.prog.szo 144 = some 2 := by kernel_rfl
theorem ld144 (a : Addr) : vLoad Tryz.prog 144 (.pointer (some a)) w KV = ∃ cs : List Value, (cs.length = 2 ∧ Reads w a cs) ∧ KV (.agg cs.toArray) := ld_st 144 2 a _ Tryz.underlying144 (by kernel_rfl)
theorem bd144 (p0 : Option Addr) (a1 : Option Addr) (n1 c1 : Nat) : vBuild Tryz.prog 144 [(0, .pointer p0), (1, .slice a1 n1 c1)] KV = KV (.agg #[.pointer p0, .slice a1 n1 c1]) := bd_of (by kernel_rfl)
theorem bz144 : vBuild Tryz.prog 144 [] KV = KV (.agg #[.pointer none, .slice none 0 0]) := bd_of (by kernel_rfl)
theorem fd144_0 (l : List Value) : vField Tryz.prog 144 (.agg l.toArray) 0 KV = vNth l 0 KV := fd_cell 144 0 l Tryz.underlying144 rfl (by kernel_rfl) (by kernel_rfl) (by kernel_rfl)
theorem fa144_0 (a : Addr) : vFieldAddr Tryz.prog 144 (.pointer (some a)) 0 KV = KV (.pointer (some (a.add 0))) := fa_st 144 0 a (m := 0) Tryz.underlying144 rfl (by kernel_rfl)
theorem fd144_1 (l : List Value) : vField Tryz.prog 144 (.agg l.toArray) 1 KV = vNth l 1 KV := fd_cell 144 1 l Tryz.underlying144 rfl (by kernel_rfl) (by kernel_rfl) (by kernel_rfl)
theorem fa144_1 (a : Addr) : vFieldAddr Tryz.prog 144 (.pointer (some a)) 1 KV = KV (.pointer (some (a.add 1))) := fa_st 144 1 a (m := 0) Tryz.underlying144 rfl (by kernel_rfl)
theorem sz145 : Tryz.prog.szo 145 = some 1 := by kernel_rfl
theorem ldf145 (a : Addr) : vLoad Tryz.prog 145 (.pointer (some a)) w KV = ∃ v, w.cell? a = some v ∧ KV v := ld_fn 145 _ _ _ a Tryz.underlying145
theorem fe145 (f : Fn) (x y : Array Value) (xo yo : Operand) : vBinO Tryz.prog .eql 145 xo yo (.func f x y) .nilFunc w KV = KV (.bool false) := be_fun Tryz.underlying145 f x y xo yo
theorem sz146 : Tryz.prog.szo 146 = some 1 := by kernel_rfl
theorem sz147 : Tryz.prog.szo 147 = some 1 := by kernel_rfl
theorem sz149 : Tryz.prog.szo 149 = some 1 := by kernel_rfl
theorem ldf149 (a : Addr) : vLoad Tryz.prog 149 (.pointer (some a)) w KV = ∃ v, w.cell? a = some v ∧ KV v := ld_fn 149 _ _ _ a Tryz.underlying149
theorem fe149 (f : Fn) (x y : Array Value) (xo yo : Operand) : vBinO Tryz.prog .eql 149 xo yo (.func f x y) .nilFunc w KV = KV (.bool false) := be_fun Tryz.underlying149 f x y xo yo
theorem sz150 : Tryz.prog.szo 150 = some 1 := by kernel_rfl
theorem ldf150 (a : Addr) : vLoad Tryz.prog 150 (.pointer (some a)) w KV = ∃ v, w.cell? a = some v ∧ KV v := ld_fn 150 _ _ _ a Tryz.underlying150
theorem fe150 (f : Fn) (x y : Array Value) (xo yo : Operand) : vBinO Tryz.prog .eql 150 xo yo (.func f x y) .nilFunc w KV = KV (.bool false) := be_fun Tryz.underlying150 f x y xo yo
theorem sz151 : Tryz.prog.szo 151 = some 1 := by kernel_rfl
theorem ldf151 (a : Addr) : vLoad Tryz.prog 151 (.pointer (some a)) w KV = ∃ v, w.cell? a = some v ∧ KV v := ld_fn 151 _ _ _ a Tryz.underlying151
theorem fe151 (f : Fn) (x y : Array Value) (xo yo : Operand) : vBinO Tryz.prog .eql 151 xo yo (.func f x y) .nilFunc w KV = KV (.bool false) := be_fun Tryz.underlying151 f x y xo yo
theorem sz152 : Tryz.prog.szo 152 = some 1 := by kernel_rfl
theorem ldf152 (a : Addr) : vLoad Tryz.prog 152 (.pointer (some a)) w KV = ∃ v, w.cell? a = some v ∧ KV v := ld_fn 152 _ _ _ a Tryz.underlying152
theorem fe152 (f : Fn) (x y : Array Value) (xo yo : Operand) : vBinO Tryz.prog .eql 152 xo yo (.func f x y) .nilFunc w KV = KV (.bool false) := be_fun Tryz.underlying152 f x y xo yo
theorem sz153 : Tryz.prog.szo 153 = some 1 := by kernel_rfl
theorem ln153 (a : Option Addr) (n c : Nat) : vLen Tryz.prog 153 (.slice a n c) KV = KV (.int .i64 n) := ln_sl 153 3 a n c Tryz.underlying153
theorem snn153 (a : Option Addr) (n c : Nat) : vSlice Tryz.prog 153 (.slice a n c) none none KV = (n ≤ c ∧ KV (.slice a n c)) := sl_nn 153 3 a n c 1 Tryz.underlying153 (by kernel_rfl)
theorem sln153 (a : Option Addr) (n c : Nat) (k : IntKind) (l : Int) : vSlice Tryz.prog 153 (.slice a n c) (some (.int k l)) none KV = ((0 ≤ l ∧ l ≤ n ∧ n ≤ c) ∧ KV (.slice (if c = l.toNat then a else a.map (·.add (l.toNat * 1))) (n - l.toNat) (c - l.toNat))) := sl_ln 153 3 a n c 1 k l Tryz.underlying153 (by kernel_rfl)
theorem snh153 (a : Option Addr) (n c : Nat) (k : IntKind) (l : Int) : vSlice Tryz.prog 153 (.slice a n c) none (some (.int k l)) KV = ((0 ≤ l ∧ l ≤ c) ∧ KV (.slice a l.toNat c)) := sl_nh 153 3 a n c 1 k l Tryz.underlying153 (by kernel_rfl)
theorem slh153 (a : Option Addr) (n c : Nat) (k k' : IntKind) (l m : Int) : vSlice Tryz.prog 153 (.slice a n c) (some (.int k l)) (some (.int k' m)) KV = ((0 ≤ l ∧ l ≤ m ∧ m ≤ c) ∧ KV (.slice (if c = l.toNat then a else a.map (·.add (l.toNat * 1))) (m.toNat - l.toNat) (c - l.toNat))) := sl_lh 153 3 a n c 1 k k' l m Tryz.underlying153 (by kernel_rfl)
theorem ia153 (a : Addr) (n c : Nat) (k : IntKind) (i : Int) : vIndexAddr Tryz.prog 153 (.slice (some a) n c) (.int k i) KV = ((0 ≤ i ∧ i < n) ∧ KV (.pointer (some (a.add (i.toNat * 1))))) := ia_sl 153 3 a n c 1 k i Tryz.underlying153 (by kernel_rfl)
theorem ld153 (a : Addr) : vLoad Tryz.prog 153 (.pointer (some a)) w KV = ∃ v, w.cell? a = some v ∧ KV v := ld_sl 153 3 a Tryz.underlying153
theorem sz155 : Tryz.prog.szo 155 = some 1 := by kernel_rfl
theorem ldf155 (a : Addr) : vLoad Tryz.prog 155 (.pointer (some a)) w KV = ∃ v, w.cell? a = some v ∧ KV v := ld_fn 155 _ _ _ a Tryz.underlying155
theorem fe155 (f : Fn) (x y : Array Value) (xo yo : Operand) : vBinO Tryz.prog .eql 155 xo yo (.func f x y) .nilFunc w KV = KV (.bool false) := be_fun Tryz.underlying155 f x y xo yo
theorem sz156 : Tryz.prog.szo 156 = some 1 := by kernel_rfl
theorem ldf156 (a : Addr) : vLoad Tryz.prog 156 (.pointer (some a)) w KV = ∃ v, w.cell? a = some v ∧ KV v := ld_fn 156 _ _ _ a Tryz.underlying156
theorem fe156 (f : Fn) (x y : Array Value) (xo yo : Operand) : vBinO Tryz.prog .eql 156 xo yo (.func f x y) .nilFunc w KV = KV (.bool false) := be_fun Tryz.underlying156 f x y xo yo
theorem sz157 : Tryz.prog.szo 157 = some 1 := by kernel_rfl
theorem ln157 (a : Option Addr) (n c : Nat) : vLen Tryz.prog 157 (.slice a n c) KV = KV (.int .i64 n) := ln_sl 157 153 a n c Tryz.underlying157
theorem snn157 (a : Option Addr) (n c : Nat) : vSlice Tryz.prog 157 (.slice a n c) none none KV = (n ≤ c ∧ KV (.slice a n c)) := sl_nn 157 153 a n c 1 Tryz.underlying157 (by kernel_rfl)
theorem sln157 (a : Option Addr) (n c : Nat) (k : IntKind) (l : Int) : vSlice Tryz.prog 157 (.slice a n c) (some (.int k l)) none KV = ((0 ≤ l ∧ l ≤ n ∧ n ≤ c) ∧ KV (.slice (if c = l.toNat then a else a.map (·.add (l.toNat * 1))) (n - l.toNat) (c - l.toNat))) := sl_ln 157 153 a n c 1 k l Tryz.underlying157 (by kernel_rfl)
theorem snh157 (a : Option Addr) (n c : Nat) (k : IntKind) (l : Int) : vSlice Tryz.prog 157 (.slice a n c) none (some (.int k l)) KV = ((0 ≤ l ∧ l ≤ c) ∧ KV (.slice a l.toNat c)) := sl_nh 157 153 a n c 1 k l Tryz.underlying157 (by kernel_rfl)
theorem slh157 (a : Option Addr) (n c : Nat) (k k' : IntKind) (l m : Int) : vSlice Tryz.prog 157 (.slice a n c) (some (.int k l)) (some (.int k' m)) KV = ((0 ≤ l ∧ l ≤ m ∧ m ≤ c) ∧ KV (.slice (if c = l.toNat then a else a.map (·.add (l.toNat * 1))) (m.toNat - l.toNat) (c - l.toNat))) := sl_lh 157 153 a n c 1 k k' l m Tryz.underlying157 (by kernel_rfl)
theorem ia157 (a : Addr) (n c : Nat) (k : IntKind) (i : Int) : vIndexAddr Tryz.prog 157 (.slice (some a) n c) (.int k i) KV = ((0 ≤ i ∧ i < n) ∧ KV (.pointer (some (a.add (i.toNat * 1))))) := ia_sl 157 153 a n c 1 k i Tryz.underlying157 (by kernel_rfl)
theorem ld157 (a : Addr) : vLoad Tryz.prog 157 (.pointer (some a)) w KV = ∃ v, w.cell? a = some v ∧ KV v := ld_sl 157 153 a Tryz.underlying157
theorem sz158 : Tryz.prog.szo 158 = some 2 := by kernel_rfl
theorem ld158 (a : Addr) : vLoad Tryz.prog 158 (.pointer (some a)) w KV = ∃ cs : List Value, (cs.length = 2 ∧ Reads w a cs) ∧ KV (.agg cs.toArray) := ld_st 158 2 a _ Tryz.underlying158 (by kernel_rfl)
theorem bd158 (a0 : Option Addr) (n0 c0 : Nat) (a1 : Option Addr) (n1 c1 : Nat) : vBuild Tryz.prog 158 [(0, .slice a0 n0 c0), (1, .slice a1 n1 c1)] KV = KV (.agg #[.slice a0 n0 c0, .slice a1 n1 c1]) := bd_of (by kernel_rfl)
theorem bz158 : vBuild Tryz.prog 158 [] KV = KV (.agg #[.slice none 0 0, .slice none 0 0]) := bd_of (by kernel_rfl)
theorem fd158_0 (l : List Value) : vField Tryz.prog 158 (.agg l.toArray) 0 KV = vNth l 0 KV := fd_cell 158 0 l Tryz.underlying158 rfl (by kernel_rfl) (by kernel_rfl) (by kernel_rfl)
theorem fa158_0 (a : Addr) : vFieldAddr Tryz.prog 158 (.pointer (some a)) 0 KV = KV (.pointer (some (a.add 0))) := fa_st 158 0 a (m := 0) Tryz.underlying158 rfl (by kernel_rfl)
theorem fd158_1 (l : List Value) : vField Tryz.prog 158 (.agg l.toArray) 1 KV = vNth l 1 KV := fd_cell 158 1 l Tryz.underlying158 rfl (by kernel_rfl) (by kernel_rfl) (by kernel_rfl)
theorem fa158_1 (a : Addr) : vFieldAddr Tryz.prog 158 (.pointer (some a)) 1 KV = KV (.pointer (some (a.add 1))) := fa_st 158 1 a (m := 0) Tryz.underlying158 rfl (by kernel_rfl)
theorem sz159 : Tryz.prog.szo 159 = some 2 := by kernel_rfl
theorem ld159 (a : Addr) : vLoad Tryz.prog 159 (.pointer (some a)) w KV = ∃ cs : List Value, (cs.length = 2 ∧ Reads w a cs) ∧ KV (.agg cs.toArray) := ld_st 159 2 a _ Tryz.underlying159 (by kernel_rfl)
theorem bd159 (a0 : Option Addr) (n0 c0 : Nat) (a1 : Option Addr) (n1 c1 : Nat) : vBuild Tryz.prog 159 [(0, .slice a0 n0 c0), (1, .slice a1 n1 c1)] KV = KV (.agg #[.slice a0 n0 c0, .slice a1 n1 c1]) := bd_of (by kernel_rfl)
theorem bz159 : vBuild Tryz.prog 159 [] KV = KV (.agg #[.slice none 0 0, .slice none 0 0]) := bd_of (by kernel_rfl)
theorem fd159_0 (l : List Value) : vField Tryz.prog 159 (.agg l.toArray) 0 KV = vNth l 0 KV := fd_cell 159 0 l Tryz.underlying159 rfl (by kernel_rfl) (by kernel_rfl) (by kernel_rfl)
theorem fa159_0 (a : Addr) : vFieldAddr Tryz.prog 159 (.pointer (some a)) 0 KV = KV (.pointer (some (a.add 0))) := fa_st 159 0 a (m := 0) Tryz.underlying159 rfl (by kernel_rfl)
theorem fd159_1 (l : List Value) : vField Tryz.prog 159 (.agg l.toArray) 1 KV = vNth l 1 KV := fd_cell 159 1 l Tryz.underlying159 rfl (by kernel_rfl) (by kernel_rfl) (by kernel_rfl)
theorem fa159_1 (a : Addr) : vFieldAddr Tryz.prog 159 (.pointer (some a)) 1 KV = KV (.pointer (some (a.add 1))) := fa_st 159 1 a (m := 0) Tryz.underlying159 rfl (by kernel_rfl)
theorem sz161 : Tryz.prog.szo 161 = some 1 := by kernel_rfl
theorem ldf161 (a : Addr) : vLoad Tryz.prog 161 (.pointer (some a)) w KV = ∃ v, w.cell? a = some v ∧ KV v := ld_fn 161 _ _ _ a Tryz.underlying161
theorem fe161 (f : Fn) (x y : Array Value) (xo yo : Operand) : vBinO Tryz.prog .eql 161 xo yo (.func f x y) .nilFunc w KV = KV (.bool false) := be_fun Tryz.underlying161 f x y xo yo
theorem sz162 : Tryz.prog.szo 162 = some 1 := by kernel_rfl
theorem ldf162 (a : Addr) : vLoad Tryz.prog 162 (.pointer (some a)) w KV = ∃ v, w.cell? a = some v ∧ KV v := ld_fn 162 _ _ _ a Tryz.underlying162
theorem fe162 (f : Fn) (x y : Array Value) (xo yo : Operand) : vBinO Tryz.prog .eql 162 xo yo (.func f x y) .nilFunc w KV = KV (.bool false) := be_fun Tryz.underlying162 f x y xo yo
theorem sz163 : Tryz.prog.szo 163 = some 1 := by kernel_rfl
theorem ldf163 (a : Addr) : vLoad Tryz.prog 163 (.pointer (some a)) w KV = ∃ v, w.cell? a = some v ∧ KV v := ld_fn 163 _ _ _ a Tryz.underlying163
theorem fe163 (f : Fn) (x y : Array Value) (xo yo : Operand) : vBinO Tryz.prog .eql 163 xo yo (.func f x y) .nilFunc w KV = KV (.bool false) := be_fun Tryz.underlying163 f x y xo yo
theorem sz164 : Tryz.prog.szo 164 = some 1 := by kernel_rfl
theorem ldf164 (a : Addr) : vLoad Tryz.prog 164 (.pointer (some a)) w KV = ∃ v, w.cell? a = some v ∧ KV v := ld_fn 164 _ _ _ a Tryz.underlying164
theorem fe164 (f : Fn) (x y : Array Value) (xo yo : Operand) : vBinO Tryz.prog .eql 164 xo yo (.func f x y) .nilFunc w KV = KV (.bool false) := be_fun Tryz.underlying164 f x y xo yo
theorem sz165 : Tryz.prog.szo 165 = some 2 := by kernel_rfl
theorem ld165 (a : Addr) : vLoad Tryz.prog 165 (.pointer (some a)) w KV = ∃ cs : List Value, (cs.length = 2 ∧ Reads w a cs) ∧ KV (.agg cs.toArray) := ld_st 165 2 a _ Tryz.underlying165 (by kernel_rfl)
theorem bd165 (a0 : Option Addr) (n0 c0 : Nat) (n1 : Int) : vBuild Tryz.prog 165 [(0, .slice a0 n0 c0), (1, .int .i64 n1)] KV = KV (.agg #[.slice a0 n0 c0, .int .i64 n1]) := bd_of (by kernel_rfl)
theorem bz165 : vBuild Tryz.prog 165 [] KV = KV (.agg #[.slice none 0 0, .int .i64 0]) := bd_of (by kernel_rfl)
theorem fd165_0 (l : List Value) : vField Tryz.prog 165 (.agg l.toArray) 0 KV = vNth l 0 KV := fd_cell 165 0 l Tryz.underlying165 rfl (by kernel_rfl) (by kernel_rfl) (by kernel_rfl)
theorem fa165_0 (a : Addr) : vFieldAddr Tryz.prog 165 (.pointer (some a)) 0 KV = KV (.pointer (some (a.add 0))) := fa_st 165 0 a (m := 0) Tryz.underlying165 rfl (by kernel_rfl)
theorem fd165_1 (l : List Value) : vField Tryz.prog 165 (.agg l.toArray) 1 KV = vNth l 1 KV := fd_cell 165 1 l Tryz.underlying165 rfl (by kernel_rfl) (by kernel_rfl) (by kernel_rfl)
theorem fa165_1 (a : Addr) : vFieldAddr Tryz.prog 165 (.pointer (some a)) 1 KV = KV (.pointer (some (a.add 1))) := fa_st 165 1 a (m := 0) Tryz.underlying165 rfl (by kernel_rfl)
theorem sz166 : Tryz.prog.szo 166 = some 2 := by kernel_rfl
theorem ld166 (a : Addr) : vLoad Tryz.prog 166 (.pointer (some a)) w KV = ∃ cs : List Value, (cs.length = 2 ∧ Reads w a cs) ∧ KV (.agg cs.toArray) := ld_st 166 2 a _ Tryz.underlying166 (by kernel_rfl)
theorem bd166 (a0 : Option Addr) (n0 c0 : Nat) (n1 : Int) : vBuild Tryz.prog 166 [(0, .slice a0 n0 c0), (1, .int .i64 n1)] KV = KV (.agg #[.slice a0 n0 c0, .int .i64 n1]) := bd_of (by kernel_rfl)
theorem bz166 : vBuild Tryz.prog 166 [] KV = KV (.agg #[.slice none 0 0, .int .i64 0]) := bd_of (by kernel_rfl)
theorem fd166_0 (l : List Value) : vField Tryz.prog 166 (.agg l.toArray) 0 KV = vNth l 0 KV := fd_cell 166 0 l Tryz.underlying166 rfl (by kernel_rfl) (by kernel_rfl) (by kernel_rfl)
theorem fa166_0 (a : Addr) : vFieldAddr Tryz.prog 166 (.pointer (some a)) 0 KV = KV (.pointer (some (a.add 0))) := fa_st 166 0 a (m := 0) Tryz.underlying166 rfl (by kernel_rfl)
theorem fd166_1 (l : List Value) : vField Tryz.prog 166 (.agg l.toArray) 1 KV = vNth l 1 KV := fd_cell 166 1 l Tryz.underlying166 rfl (by kernel_rfl) (by kernel_rfl) (by kernel_rfl)
theorem fa166_1 (a : Addr) : vFieldAddr Tryz.prog 166 (.pointer (some a)) 1 KV = KV (.pointer (some (a.add 1))) := fa_st 166 1 a (m := 0) Tryz.underlying166 rfl (by kernel_rfl)
theorem sz167 : Tryz.prog.szo 167 = some 1 := by kernel_rfl
theorem ldf167 (a : Addr) : vLoad Tryz.prog 167 (.pointer (some a)) w KV = ∃ v, w.cell? a = some v ∧ KV v := ld_fn 167 _ _ _ a Tryz.underlying167
theorem fe167 (f : Fn) (x y : Array Value) (xo yo : Operand) : vBinO Tryz.prog .eql 167 xo yo (.func f x y) .nilFunc w KV = KV (.bool false) := be_fun Tryz.underlying167 f x y xo yo
theorem sz168 : Tryz.prog.szo 168 = some 1 := by kernel_rfl
theorem pe168 (a : Option Addr) (xo yo : Operand) : vBinO Tryz.prog .eql 168 xo yo (.pointer a) (.pointer none) w KV = KV (.bool a.isNone) := be_ptr Tryz.underlying168 a xo yo
theorem pn168 (a : Option Addr) (xo yo : Operand) : vBinO Tryz.prog .neq 168 xo yo (.pointer a) (.pointer none) w KV = KV (.bool !a.isNone) := bn_ptr Tryz.underlying168 a xo yo
theorem ld168 (a : Addr) : vLoad Tryz.prog 168 (.pointer (some a)) w KV = ∃ v, w.cell? a = some v ∧ KV v := ld_ptr 168 220 a Tryz.underlying168
theorem sz169 : Tryz.prog.szo 169 = some 1 := by kernel_rfl
theorem ldf169 (a : Addr) : vLoad Tryz.prog 169 (.pointer (some a)) w KV = ∃ v, w.cell? a = some v ∧ KV v := ld_fn 169 _ _ _ a Tryz.underlying169
theorem fe169 (f : Fn) (x y : Array Value) (xo yo : Operand) : vBinO Tryz.prog .eql 169 xo yo (.func f x y) .nilFunc w KV = KV (.bool false) := be_fun Tryz.underlying169 f x y xo yo
theorem sz170 : Tryz.prog.szo 170 = some 1 := by kernel_rfl
theorem ldf170 (a : Addr) : vLoad Tryz.prog 170 (.pointer (some a)) w KV = ∃ v, w.cell? a = some v ∧ KV v := ld_fn 170 _ _ _ a Tryz.underlying170
theorem fe170 (f : Fn) (x y : Array Value) (xo yo : Operand) : vBinO Tryz.prog .eql 170 xo yo (.func f x y) .nilFunc w KV = KV (.bool false) := be_fun Tryz.underlying170 f x y xo yo
theorem sz172 : Tryz.prog.szo 172 = some 1 := by kernel_rfl
theorem ldf172 (a : Addr) : vLoad Tryz.prog 172 (.pointer (some a)) w KV = ∃ v, w.cell? a = some v ∧ KV v := ld_fn 172 _ _ _ a Tryz.underlying172
theorem fe172 (f : Fn) (x y : Array Value) (xo yo : Operand) : vBinO Tryz.prog .eql 172 xo yo (.func f x y) .nilFunc w KV = KV (.bool false) := be_fun Tryz.underlying172 f x y xo yo
theorem sz173 : Tryz.prog.szo 173 = some 1 := by kernel_rfl
theorem ldf173 (a : Addr) : vLoad Tryz.prog 173 (.pointer (some a)) w KV = ∃ v, w.cell? a = some v ∧ KV v := ld_fn 173 _ _ _ a Tryz.underlying173
theorem fe173 (f : Fn) (x y : Array Value) (xo yo : Operand) : vBinO Tryz.prog .eql 173 xo yo (.func f x y) .nilFunc w KV = KV (.bool false) := be_fun Tryz.underlying173 f x y xo yo
theorem sz174 : Tryz.prog.szo 174 = some 1 := by kernel_rfl
theorem pe174 (a : Option Addr) (xo yo : Operand) : vBinO Tryz.prog .eql 174 xo yo (.pointer a) (.pointer none) w KV = KV (.bool a.isNone) := be_ptr Tryz.underlying174 a xo yo
theorem pn174 (a : Option Addr) (xo yo : Operand) : vBinO Tryz.prog .neq 174 xo yo (.pointer a) (.pointer none) w KV = KV (.bool !a.isNone) := bn_ptr Tryz.underlying174 a xo yo
theorem ld174 (a : Addr) : vLoad Tryz.prog 174 (.pointer (some a)) w KV = ∃ v, w.cell? a = some v ∧ KV v := ld_ptr 174 176 a Tryz.underlying174
theorem sz175 : Tryz.prog.szo 175 = some 2 := by kernel_rfl
theorem ld175 (a : Addr) : vLoad Tryz.prog 175 (.pointer (some a)) w KV = ∃ cs : List Value, (cs.length = 2 ∧ Reads w a cs) ∧ KV (.agg cs.toArray) := ld_st 175 2 a _ Tryz.underlying175 (by kernel_rfl)
theorem bd175 (s0 : ByteArray) (b1 : Bool) : vBuild Tryz.prog 175 [(0, .string s0), (1, .bool b1)] KV = KV (.agg #[.string s0, .bool b1]) := bd_of (by kernel_rfl)
theorem bz175 : vBuild Tryz.prog 175 [] KV = KV (.agg #[.string ⟨#[]⟩, .bool false]) := bd_of (by kernel_rfl)
theorem fd175_0 (l : List Value) : vField Tryz.prog 175 (.agg l.toArray) 0 KV = vNth l 0 KV := fd_cell 175 0 l Tryz.underlying175 rfl (by kernel_rfl) (by kernel_rfl) (by kernel_rfl)
theorem fa175_0 (a : Addr) : vFieldAddr Tryz.prog 175 (.pointer (some a)) 0 KV = KV (.pointer (some (a.add 0))) := fa_st 175 0 a (m := 0) Tryz.underlying175 rfl (by kernel_rfl)
theorem fd175_1 (l : List Value) : vField Tryz.prog 175 (.agg l.toArray) 1 KV = vNth l 1 KV := fd_cell 175 1 l Tryz.underlying175 rfl (by kernel_rfl) (by kernel_rfl) (by kernel_rfl)
theorem fa175_1 (a : Addr) : vFieldAddr Tryz.prog 175 (.pointer (some a)) 1 KV = KV (.pointer (some (a.add 1))) := fa_st 175 1 a (m := 0) Tryz.underlying175 rfl (by kernel_rfl)
theorem sz176 : Tryz.prog.szo 176 = some 2 := by kernel_rfl
theorem ld176 (a : Addr) : vLoad Tryz.prog 176 (.pointer (some a)) w KV = ∃ cs : List Value, (cs.length = 2 ∧ Reads w a cs) ∧ KV (.agg cs.toArray) := ld_st 176 2 a _ Tryz.underlying176 (by kernel_rfl)
theorem bd176 (s0 : ByteArray) (b1 : Bool) : vBuild Tryz.prog 176 [(0, .string s0), (1, .bool b1)] KV = KV (.agg #[.string s0, .bool b1]) := bd_of (by kernel_rfl)
theorem bz176 : vBuild Tryz.prog 176 [] KV = KV (.agg #[.string ⟨#[]⟩, .bool false]) := bd_of (by kernel_rfl)
theorem fd176_0 (l : List Value) : vField Tryz.prog 176 (.agg l.toArray) 0 KV = vNth l 0 KV := fd_cell 176 0 l Tryz.underlying176 rfl (by kernel_rfl) (by kernel_rfl) (by kernel_rfl)
theorem fa176_0 (a : Addr) : vFieldAddr Tryz.prog 176 (.pointer (some a)) 0 KV = KV (.pointer (some (a.add 0))) := fa_st 176 0 a (m := 0) Tryz.underlying176 rfl (by kernel_rfl)
theorem fd176_1 (l : List Value) : vField Tryz.prog 176 (.agg l.toArray) 1 KV = vNth l 1 KV := fd_cell 176 1 l Tryz.underlying176 rfl (by kernel_rfl) (by kernel_rfl) (by kernel_rfl)
theorem fa176_1 (a : Addr) : vFieldAddr Tryz.prog 176 (.pointer (some a)) 1 KV = KV (.pointer (some (a.add 1))) := fa_st 176 1 a (m := 0) Tryz.underlying176 rfl (by kernel_rfl)
theorem sz178 : Tryz.prog.szo 178 = some 1 := by kernel_rfl
theorem ldf178 (a : Addr) : vLoad Tryz.prog 178 (.pointer (some a)) w KV = ∃ v, w.cell? a = some v ∧ KV v := ld_fn 178 _ _ _ a Tryz.underlying178
theorem fe178 (f : Fn) (x y : Array Value) (xo yo : Operand) : vBinO Tryz.prog .eql 178 xo yo (.func f x y) .nilFunc w KV = KV (.bool false) := be_fun Tryz.underlying178 f x y xo yo
theorem sz180 : Tryz.prog.szo 180 = some 1 := by kernel_rfl
theorem ldf180 (a : Addr) : vLoad Tryz.prog 180 (.pointer (some a)) w KV = ∃ v, w.cell? a = some v ∧ KV v := ld_fn 180 _ _ _ a Tryz.underlying180
theorem fe180 (f : Fn) (x y : Array Value) (xo yo : Operand) : vBinO Tryz.prog .eql 180 xo yo (.func f x y) .nilFunc w KV = KV (.bool false) := be_fun Tryz.underlying180 f x y xo yo
theorem sz182 : Tryz.prog.szo 182 = some 1 := by kernel_rfl
theorem ldf182 (a : Addr) : vLoad Tryz.prog 182 (.pointer (some a)) w KV = ∃ v, w.cell? a = some v ∧ KV v := ld_fn 182 _ _ _ a Tryz.underlying182
theorem fe182 (f : Fn) (x y : Array Value) (xo yo : Operand) : vBinO Tryz.prog .eql 182 xo yo (.func f x y) .nilFunc w KV = KV (.bool false) := be_fun Tryz.underlying182 f x y xo yo
theorem sz183 : Tryz.prog.szo 183 = some 1 := by kernel_rfl
theorem ldf183 (a : Addr) : vLoad Tryz.prog 183 (.pointer (some a)) w KV = ∃ v, w.cell? a = some v ∧ KV v := ld_fn 183 _ _ _ a Tryz.underlying183
theorem fe183 (f : Fn) (x y : Array Value) (xo yo : Operand) : vBinO Tryz.prog .eql 183 xo yo (.func f x y) .nilFunc w KV = KV (.bool false) := be_fun Tryz.underlying183 f x y xo yo
theorem sz184 : Tryz.prog.szo 184 = some 1 := by kernel_rfl
theorem ldf184 (a : Addr) : vLoad Tryz.prog 184 (.pointer (some a)) w KV = ∃ v, w.cell? a = some v ∧ KV v := ld_fn 184 _ _ _ a Tryz.underlying184
theorem fe184 (f : Fn) (x y : Array Value) (xo yo : Operand) : vBinO Tryz.prog .eql 184 xo yo (.func f x y) .nilFunc w KV = KV (.bool false) := be_fun Tryz.underlying184 f x y xo yo
theorem sz185 : Tryz.prog.szo 185 = some 1 := by kernel_rfl
theorem ldf185 (a : Addr) : vLoad Tryz.prog 185 (.pointer (some a)) w KV = ∃ v, w.cell? a = some v ∧ KV v := ld_fn 185 _ _ _ a Tryz.underlying185
theorem fe185 (f : Fn) (x y : Array Value) (xo yo : Operand) : vBinO Tryz.prog .eql 185 xo yo (.func f x y) .nilFunc w KV = KV (.bool false) := be_fun Tryz.underlying185 f x y xo yo
theorem sz186 : Tryz.prog.szo 186 = some 1 := by kernel_rfl
theorem ldf186 (a : Addr) : vLoad Tryz.prog 186 (.pointer (some a)) w KV = ∃ v, w.cell? a = some v ∧ KV v := ld_fn 186 _ _ _ a Tryz.underlying186
theorem fe186 (f : Fn) (x y : Array Value) (xo yo : Operand) : vBinO Tryz.prog .eql 186 xo yo (.func f x y) .nilFunc w KV = KV (.bool false) := be_fun Tryz.underlying186 f x y xo yo
theorem sz187 : Tryz.prog.szo 187 = some 1 := by kernel_rfl
theorem ldf187 (a : Addr) : vLoad Tryz.prog 187 (.pointer (some a)) w KV = ∃ v, w.cell? a = some v ∧ KV v := ld_fn 187 _ _ _ a Tryz.underlying187
theorem fe187 (f : Fn) (x y : Array Value) (xo yo : Operand) : vBinO Tryz.prog .eql 187 xo yo (.func f x y) .nilFunc w KV = KV (.bool false) := be_fun Tryz.underlying187 f x y xo yo
theorem sz188 : Tryz.prog.szo 188 = some 1 := by kernel_rfl
theorem ldf188 (a : Addr) : vLoad Tryz.prog 188 (.pointer (some a)) w KV = ∃ v, w.cell? a = some v ∧ KV v := ld_fn 188 _ _ _ a Tryz.underlying188
theorem fe188 (f : Fn) (x y : Array Value) (xo yo : Operand) : vBinO Tryz.prog .eql 188 xo yo (.func f x y) .nilFunc w KV = KV (.bool false) := be_fun Tryz.underlying188 f x y xo yo
theorem sz189 : Tryz.prog.szo 189 = some 1 := by kernel_rfl
theorem ld189 (a : Addr) : vLoad Tryz.prog 189 (.pointer (some a)) w KV = ∃ v, w.cell? a = some v ∧ KV v := ld_int 189 a .u64 Tryz.underlying189
theorem cv189_2 (k : IntKind) (n : Int) : vConv Tryz.prog 189 2 (.int k n) w KV = vWrap .i64 n KV := cv_int 189 2 _ .i64 k n Tryz.underlying189 Tryz.underlying2
theorem cp189_2 : convPure Tryz.prog 189 2 = true := by kernel_rfl
theorem cv189_3 (k : IntKind) (n : Int) : vConv Tryz.prog 189 3 (.int k n) w KV = vWrap .i64 n KV := cv_int 189 3 _ .i64 k n Tryz.underlying189 Tryz.underlying3
theorem cp189_3 : convPure Tryz.prog 189 3 = true := by kernel_rfl
theorem cv189_5 (k : IntKind) (n : Int) : vConv Tryz.prog 189 5 (.int k n) w KV = vWrap .u8 n KV := cv_int 189 5 _ .u8 k n Tryz.underlying189 Tryz.underlying5
theorem cp189_5 : convPure Tryz.prog 189 5 = true := by kernel_rfl
theorem cv189_12 (k : IntKind) (n : Int) : vConv Tryz.prog 189 12 (.int k n) w KV = vWrap .u64 n KV := cv_int 189 12 _ .u64 k n Tryz.underlying189 Tryz.underlying12
theorem cp189_12 : convPure Tryz.prog 189 12 = true := by kernel_rfl
theorem cv189_21 (k : IntKind) (n : Int) : vConv Tryz.prog 189 21 (.int k n) w KV = vWrap .i32 n KV := cv_int 189 21 _ .i32 k n Tryz.underlying189 Tryz.underlying21
theorem cp189_21 : convPure Tryz.prog 189 21 = true := by kernel_rfl
theorem cv189_24 (k : IntKind) (n : Int) : vConv Tryz.prog 189 24 (.int k n) w KV = vWrap .i64 n KV := cv_int 189 24 _ .i64 k n Tryz.underlying189 Tryz.underlying24
theorem cp189_24 : convPure Tryz.prog 189 24 = true := by kernel_rfl
theorem cv189_90 (k : IntKind) (n : Int) : vConv Tryz.prog 189 90 (.int k n) w KV = vWrap .u64 n KV := cv_int 189 90 _ .u64 k n Tryz.underlying189 Tryz.underlying90
theorem cp189_90 : convPure Tryz.prog 189 90 = true := by kernel_rfl
theorem cv189_108 (k : IntKind) (n : Int) : vConv Tryz.prog 189 108 (.int k n) w KV = vWrap .u32 n KV := cv_int 189 108 _ .u32 k n Tryz.underlying189 Tryz.underlying108
theorem cp189_108 : convPure Tryz.prog 189 108 = true := by kernel_rfl
theorem cv189_113 (k : IntKind) (n : Int) : vConv Tryz.prog 189 113 (.int k n) w KV = vWrap .u64 n KV := cv_int 189 113 _ .u64 k n Tryz.underlying189 Tryz.underlying113
theorem cp189_113 : convPure Tryz.prog 189 113 = true := by kernel_rfl
theorem cv189_130 (k : IntKind) (n : Int) : vConv Tryz.prog 189 130 (.int k n) w KV = vWrap .i64 n KV := cv_int 189 130 _ .i64 k n Tryz.underlying189 Tryz.underlying130
theorem cp189_130 : convPure Tryz.prog 189 130 = true := by kernel_rfl
theorem cv189_189 (k : IntKind) (n : Int) : vConv Tryz.prog 189 189 (.int k n) w KV = vWrap .u64 n KV := cv_int 189 189 _ .u64 k n Tryz.underlying189 Tryz.underlying189
theorem cp189_189 : convPure Tryz.prog 189 189 = true := by kernel_rfl
theorem sz190 : Tryz.prog.szo 190 = some 1 := by kernel_rfl
theorem ldf190 (a : Addr) : vLoad Tryz.prog 190 (.pointer (some a)) w KV = ∃ v, w.cell? a = some v ∧ KV v := ld_fn 190 _ _ _ a Tryz.underlying190
theorem fe190 (f : Fn) (x y : Array Value) (xo yo : Operand) : vBinO Tryz.prog .eql 190 xo yo (.func f x y) .nilFunc w KV = KV (.bool false) := be_fun Tryz.underlying190 f x y xo yo
theorem sz191 : Tryz.prog.szo 191 = some 1 := by kernel_rfl
theorem ldf191 (a : Addr) : vLoad Tryz.prog 191 (.pointer (some a)) w KV = ∃ v, w.cell? a = some v ∧ KV v := ld_fn 191 _ _ _ a Tryz.underlying191
theorem fe191 (f : Fn) (x y : Array Value) (xo yo : Operand) : vBinO Tryz.prog .eql 191 xo yo (.func f x y) .nilFunc w KV = KV (.bool false) := be_fun Tryz.underlying191 f x y xo yo
theorem sz192 : Tryz.prog.szo 192 = some 1 := by kernel_rfl
theorem ldf192 (a : Addr) : vLoad Tryz.prog 192 (.pointer (some a)) w KV = ∃ v, w.cell? a = some v ∧ KV v := ld_fn 192 _ _ _ a Tryz.underlying192
theorem fe192 (f : Fn) (x y : Array Value) (xo yo : Operand) : vBinO Tryz.prog .eql 192 xo yo (.func f x y) .nilFunc w KV = KV (.bool false) := be_fun Tryz.underlying192 f x y xo yo
theorem sz193 : Tryz.prog.szo 193 = some 1 := by kernel_rfl
theorem pe193 (a : Option Addr) (xo yo : Operand) : vBinO Tryz.prog .eql 193 xo yo (.pointer a) (.pointer none) w KV = KV (.bool a.isNone) := be_ptr Tryz.underlying193 a xo yo
theorem pn193 (a : Option Addr) (xo yo : Operand) : vBinO Tryz.prog .neq 193 xo yo (.pointer a) (.pointer none) w KV = KV (.bool !a.isNone) := bn_ptr Tryz.underlying193 a xo yo
theorem ld193 (a : Addr) : vLoad Tryz.prog 193 (.pointer (some a)) w KV = ∃ v, w.cell? a = some v ∧ KV v := ld_ptr 193 3 a Tryz.underlying193
theorem sz194 : Tryz.prog.szo 194 = some 1 := by kernel_rfl
theorem ldf194 (a : Addr) : vLoad Tryz.prog 194 (.pointer (some a)) w KV = ∃ v, w.cell? a = some v ∧ KV v := ld_fn 194 _ _ _ a Tryz.underlying194
theorem fe194 (f : Fn) (x y : Array Value) (xo yo : Operand) : vBinO Tryz.prog .eql 194 xo yo (.func f x y) .nilFunc w KV = KV (.bool false) := be_fun Tryz.underlying194 f x y xo yo
theorem sz195 : Tryz.prog.szo 195 = some 1 := by kernel_rfl
theorem ldf195 (a : Addr) : vLoad Tryz.prog 195 (.pointer (some a)) w KV = ∃ v, w.cell? a = some v ∧ KV v := ld_fn 195 _ _ _ a Tryz.underlying195
theorem fe195 (f : Fn) (x y : Array Value) (xo yo : Operand) : vBinO Tryz.prog .eql 195 xo yo (.func f x y) .nilFunc w KV = KV (.bool false) := be_fun Tryz.underlying195 f x y xo yo
theorem sz196 : Tryz.prog.szo 196 = some 1 := by kernel_rfl
theorem ldf196 (a : Addr) : vLoad Tryz.prog 196 (.pointer (some a)) w KV = ∃ v, w.cell? a = some v ∧ KV v := ld_fn 196 _ _ _ a Tryz.underlying196
theorem fe196 (f : Fn) (x y : Array Value) (xo yo : Operand) : vBinO Tryz.prog .eql 196 xo yo (.func f x y) .nilFunc w KV = KV (.bool false) := be_fun Tryz.underlying196 f x y xo yo
theorem sz197 : Tryz.prog.szo 197 = some 1 := by kernel_rfl
theorem ldf197 (a : Addr) : vLoad Tryz.prog 197 (.pointer (some a)) w KV = ∃ v, w.cell? a = some v ∧ KV v := ld_fn 197 _ _ _ a Tryz.underlying197
theorem fe197 (f : Fn) (x y : Array Value) (xo yo : Operand) : vBinO Tryz.prog .eql 197 xo yo (.func f x y) .nilFunc w KV = KV (.bool false) := be_fun Tryz.underlying197 f x y xo yo
theorem sz199 : Tryz.prog.szo 199 = some 1 := by kernel_rfl
theorem ldf199 (a : Addr) : vLoad Tryz.prog 199 (.pointer (some a)) w KV = ∃ v, w.cell? a = some v ∧ KV v := ld_fn 199 _ _ _ a Tryz.underlying199
theorem fe199 (f : Fn) (x y : Array Value) (xo yo : Operand) : vBinO Tryz.prog .eql 199 xo yo (.func f x y) .nilFunc w KV = KV (.bool false) := be_fun Tryz.underlying199 f x y xo yo
theorem sz200 : Tryz.prog.szo 200 = some 2 := by kernel_rfl
theorem ld200 (a : Addr) : vLoad Tryz.prog 200 (.pointer (some a)) w KV = ∃ cs : List Value, (cs.length = 2 ∧ Reads w a cs) ∧ KV (.agg cs.toArray) := ld_st 200 2 a _ Tryz.underlying200 (by kernel_rfl)
theorem bd200 (s0 : ByteArray) (n1 : Int) : vBuild Tryz.prog 200 [(0, .string s0), (1, .int .i64 n1)] KV = KV (.agg #[.string s0, .int .i64 n1]) := bd_of (by kernel_rfl)
theorem bz200 : vBuild Tryz.prog 200 [] KV = KV (.agg #[.string ⟨#[]⟩, .int .i64 0]) := bd_of (by kernel_rfl)
theorem fd200_0 (l : List Value) : vField Tryz.prog 200 (.agg l.toArray) 0 KV = vNth l 0 KV := fd_cell 200 0 l Tryz.underlying200 rfl (by kernel_rfl) (by kernel_rfl) (by kernel_rfl)
theorem fa200_0 (a : Addr) : vFieldAddr Tryz.prog 200 (.pointer (some a)) 0 KV = KV (.pointer (some (a.add 0))) := fa_st 200 0 a (m := 0) Tryz.underlying200 rfl (by kernel_rfl)
theorem fd200_1 (l : List Value) : vField Tryz.prog 200 (.agg l.toArray) 1 KV = vNth l 1 KV := fd_cell 200 1 l Tryz.underlying200 rfl (by kernel_rfl) (by kernel_rfl) (by kernel_rfl)
theorem fa200_1 (a : Addr) : vFieldAddr Tryz.prog 200 (.pointer (some a)) 1 KV = KV (.pointer (some (a.add 1))) := fa_st 200 1 a (m := 0) Tryz.underlying200 rfl (by kernel_rfl)
theorem sz201 : Tryz.prog.szo 201 = some 2 := by kernel_rfl
theorem ld201 (a : Addr) : vLoad Tryz.prog 201 (.pointer (some a)) w KV = ∃ cs : List Value, (cs.length = 2 ∧ Reads w a cs) ∧ KV (.agg cs.toArray) := ld_st 201 2 a _ Tryz.underlying201 (by kernel_rfl)
theorem bd201 (s0 : ByteArray) (n1 : Int) : vBuild Tryz.prog 201 [(0, .string s0), (1, .int .i64 n1)] KV = KV (.agg #[.string s0, .int .i64 n1]) := bd_of (by kernel_rfl)
theorem bz201 : vBuild Tryz.prog 201 [] KV = KV (.agg #[.string ⟨#[]⟩, .int .i64 0]) := bd_of (by kernel_rfl)
theorem fd201_0 (l : List Value) : vField Tryz.prog 201 (.agg l.toArray) 0 KV = vNth l 0 KV := fd_cell 201 0 l Tryz.underlying201 rfl (by kernel_rfl) (by kernel_rfl) (by kernel_rfl)
theorem fa201_0 (a : Addr) : vFieldAddr Tryz.prog 201 (.pointer (some a)) 0 KV = KV (.pointer (some (a.add 0))) := fa_st 201 0 a (m := 0) Tryz.underlying201 rfl (by kernel_rfl)
theorem fd201_1 (l : List Value) : vField Tryz.prog 201 (.agg l.toArray) 1 KV = vNth l 1 KV := fd_cell 201 1 l Tryz.underlying201 rfl (by kernel_rfl) (by kernel_rfl) (by kernel_rfl)
theorem fa201_1 (a : Addr) : vFieldAddr Tryz.prog 201 (.pointer (some a)) 1 KV = KV (.pointer (some (a.add 1))) := fa_st 201 1 a (m := 0) Tryz.underlying201 rfl (by kernel_rfl)
theorem sz202 : Tryz.prog.szo 202 = some 1 := by kernel_rfl
theorem ldf202 (a : Addr) : vLoad Tryz.prog 202 (.pointer (some a)) w KV = ∃ v, w.cell? a = some v ∧ KV v := ld_fn 202 _ _ _ a Tryz.underlying202
theorem fe202 (f : Fn) (x y : Array Value) (xo yo : Operand) : vBinO Tryz.prog .eql 202 xo yo (.func f x y) .nilFunc w KV = KV (.bool false) := be_fun Tryz.underlying202 f x y xo yo
theorem sz203 : Tryz.prog.szo 203 = some 1 := by kernel_rfl
theorem ldf203 (a : Addr) : vLoad Tryz.prog 203 (.pointer (some a)) w KV = ∃ v, w.cell? a = some v ∧ KV v := ld_fn 203 _ _ _ a Tryz.underlying203
theorem fe203 (f : Fn) (x y : Array Value) (xo yo : Operand) : vBinO Tryz.prog .eql 203 xo yo (.func f x y) .nilFunc w KV = KV (.bool false) := be_fun Tryz.underlying203 f x y xo yo
theorem sz204 : Tryz.prog.szo 204 = some 1 := by kernel_rfl
theorem ldf204 (a : Addr) : vLoad Tryz.prog 204 (.pointer (some a)) w KV = ∃ v, w.cell? a = some v ∧ KV v := ld_fn 204 _ _ _ a Tryz.underlying204
theorem fe204 (f : Fn) (x y : Array Value) (xo yo : Operand) : vBinO Tryz.prog .eql 204 xo yo (.func f x y) .nilFunc w KV = KV (.bool false) := be_fun Tryz.underlying204 f x y xo yo
theorem sz205 : Tryz.prog.szo 205 = some 1 := by kernel_rfl
theorem pe205 (a : Option Addr) (xo yo : Operand) : vBinO Tryz.prog .eql 205 xo yo (.pointer a) (.pointer none) w KV = KV (.bool a.isNone) := be_ptr Tryz.underlying205 a xo yo
theorem pn205 (a : Option Addr) (xo yo : Operand) : vBinO Tryz.prog .neq 205 xo yo (.pointer a) (.pointer none) w KV = KV (.bool !a.isNone) := bn_ptr Tryz.underlying205 a xo yo
theorem ld205 (a : Addr) : vLoad Tryz.prog 205 (.pointer (some a)) w KV = ∃ v, w.cell? a = some v ∧ KV v := ld_ptr 205 5 a Tryz.underlying205
theorem sz206 : Tryz.prog.szo 206 = some 1 := by kernel_rfl
theorem ldf206 (a : Addr) : vLoad Tryz.prog 206 (.pointer (some a)) w KV = ∃ v, w.cell? a = some v ∧ KV v := ld_fn 206 _ _ _ a Tryz.underlying206
theorem fe206 (f : Fn) (x y : Array Value) (xo yo : Operand) : vBinO Tryz.prog .eql 206 xo yo (.func f x y) .nilFunc w KV = KV (.bool false) := be_fun Tryz.underlying206 f x y xo yo
theorem sz207 : Tryz.prog.szo 207 = some 256 := by kernel_rfl
theorem ld207 (a : Addr) : vLoad Tryz.prog 207 (.pointer (some a)) w KV = ∃ cs : List Value, (cs.length = 256 ∧ Reads w a cs) ∧ KV (.agg cs.toArray) := ld_ar 207 256 256 4 a Tryz.underlying207 (by kernel_rfl)
theorem ln207 (v : Value) : vLen Tryz.prog 207 v KV = KV (.int .i64 ((256 : Nat) : Int)) := ln_ar 207 v Tryz.underlying207
theorem ixa207 (l : List Value) (k : IntKind) (i : Int) : vIndex Tryz.prog 207 (.agg l.toArray) (.int k i) KV = ((0 ≤ i ∧ i < ((256 : Nat) : Int)) ∧ vNth l i.toNat KV) := ix_agg 207 l k i Tryz.underlying207 (by kernel_rfl) (by kernel_rfl) (by kernel_rfl)
theorem ia207 (a : Addr) (k : IntKind) (i : Int) : vIndexAddr Tryz.prog 207 (.pointer (some a)) (.int k i) KV = ((0 ≤ i ∧ i < ((256 : Nat) : Int)) ∧ KV (.pointer (some (a.add (i.toNat * 1))))) := ia_ar 207 4 a 256 1 k i Tryz.underlying207 (by kernel_rfl)
theorem sz208 : Tryz.prog.szo 208 = some 1 := by kernel_rfl
theorem ldf208 (a : Addr) : vLoad Tryz.prog 208 (.pointer (some a)) w KV = ∃ v, w.cell? a = some v ∧ KV v := ld_fn 208 _ _ _ a Tryz.underlying208
theorem fe208 (f : Fn) (x y : Array Value) (xo yo : Operand) : vBinO Tryz.prog .eql 208 xo yo (.func f x y) .nilFunc w KV = KV (.bool false) := be_fun Tryz.underlying208 f x y xo yo
theorem sz209 : Tryz.prog.szo 209 = some 1 := by kernel_rfl
theorem ldf209 (a : Addr) : vLoad Tryz.prog 209 (.pointer (some a)) w KV = ∃ v, w.cell? a = some v ∧ KV v := ld_fn 209 _ _ _ a Tryz.underlying209
theorem fe209 (f : Fn) (x y : Array Value) (xo yo : Operand) : vBinO Tryz.prog .eql 209 xo yo (.func f x y) .nilFunc w KV = KV (.bool false) := be_fun Tryz.underlying209 f x y xo yo
theorem sz210 : Tryz.prog.szo 210 = some 1 := by kernel_rfl
theorem ldf210 (a : Addr) : vLoad Tryz.prog 210 (.pointer (some a)) w KV = ∃ v, w.cell? a = some v ∧ KV v := ld_fn 210 _ _ _ a Tryz.underlying210
theorem fe210 (f : Fn) (x y : Array Value) (xo yo : Operand) : vBinO Tryz.prog .eql 210 xo yo (.func f x y) .nilFunc w KV = KV (.bool false) := be_fun Tryz.underlying210 f x y xo yo
theorem sz211 : Tryz.prog.szo 211 = some 16 := by kernel_rfl
theorem ld211 (a : Addr) : vLoad Tryz.prog 211 (.pointer (some a)) w KV = ∃ cs : List Value, (cs.length = 16 ∧ Reads w a cs) ∧ KV (.agg cs.toArray) := ld_ar 211 16 16 113 a Tryz.underlying211 (by kernel_rfl)
theorem ln211 (v : Value) : vLen Tryz.prog 211 v KV = KV (.int .i64 ((16 : Nat) : Int)) := ln_ar 211 v Tryz.underlying211
theorem ixa211 (l : List Value) (k : IntKind) (i : Int) : vIndex Tryz.prog 211 (.agg l.toArray) (.int k i) KV = ((0 ≤ i ∧ i < ((16 : Nat) : Int)) ∧ vNth l i.toNat KV) := ix_agg 211 l k i Tryz.underlying211 (by kernel_rfl) (by kernel_rfl) (by kernel_rfl)
theorem ia211 (a : Addr) (k : IntKind) (i : Int) : vIndexAddr Tryz.prog 211 (.pointer (some a)) (.int k i) KV = ((0 ≤ i ∧ i < ((16 : Nat) : Int)) ∧ KV (.pointer (some (a.add (i.toNat * 1))))) := ia_ar 211 113 a 16 1 k i Tryz.underlying211 (by kernel_rfl)
theorem sz212 : Tryz.prog.szo 212 = some 1 := by kernel_rfl
theorem ldf212 (a : Addr) : vLoad Tryz.prog 212 (.pointer (some a)) w KV = ∃ v, w.cell? a = some v ∧ KV v := ld_fn 212 _ _ _ a Tryz.underlying212
theorem fe212 (f : Fn) (x y : Array Value) (xo yo : Operand) : vBinO Tryz.prog .eql 212 xo yo (.func f x y) .nilFunc w KV = KV (.bool false) := be_fun Tryz.underlying212 f x y xo yo
theorem sz213 : Tryz.prog.szo 213 = some 1 := by kernel_rfl
theorem ldf213 (a : Addr) : vLoad Tryz.prog 213 (.pointer (some a)) w KV = ∃ v, w.cell? a = some v ∧ KV v := ld_fn 213 _ _ _ a Tryz.underlying213
theorem fe213 (f : Fn) (x y : Array Value) (xo yo : Operand) : vBinO Tryz.prog .eql 213 xo yo (.func f x y) .nilFunc w KV = KV (.bool false) := be_fun Tryz.underlying213 f x y xo yo
theorem sz214 : Tryz.prog.szo 214 = some 1 := by kernel_rfl
theorem ldf214 (a : Addr) : vLoad Tryz.prog 214 (.pointer (some a)) w KV = ∃ v, w.cell? a = some v ∧ KV v := ld_fn 214 _ _ _ a Tryz.underlying214
theorem fe214 (f : Fn) (x y : Array Value) (xo yo : Operand) : vBinO Tryz.prog .eql 214 xo yo (.func f x y) .nilFunc w KV = KV (.bool false) := be_fun Tryz.underlying214 f x y xo yo
theorem sz215 : Tryz.prog.szo 215 = some 1 := by kernel_rfl
theorem ldf215 (a : Addr) : vLoad Tryz.prog 215 (.pointer (some a)) w KV = ∃ v, w.cell? a = some v ∧ KV v := ld_fn 215 _ _ _ a Tryz.underlying215
theorem fe215 (f : Fn) (x y : Array Value) (xo yo : Operand) : vBinO Tryz.prog .eql 215 xo yo (.func f x y) .nilFunc w KV = KV (.bool false) := be_fun Tryz.underlying215 f x y xo yo
theorem sz216 : Tryz.prog.szo 216 = some 256 := by kernel_rfl
theorem ld216 (a : Addr) : vLoad Tryz.prog 216 (.pointer (some a)) w KV = ∃ cs : List Value, (cs.length = 256 ∧ Reads w a cs) ∧ KV (.agg cs.toArray) := ld_ar 216 256 256 108 a Tryz.underlying216 (by kernel_rfl)
theorem ln216 (v : Value) : vLen Tryz.prog 216 v KV = KV (.int .i64 ((256 : Nat) : Int)) := ln_ar 216 v Tryz.underlying216
theorem ixa216 (l : List Value) (k : IntKind) (i : Int) : vIndex Tryz.prog 216 (.agg l.toArray) (.int k i) KV = ((0 ≤ i ∧ i < ((256 : Nat) : Int)) ∧ vNth l i.toNat KV) := ix_agg 216 l k i Tryz.underlying216 (by kernel_rfl) (by kernel_rfl) (by kernel_rfl)
theorem ia216 (a : Addr) (k : IntKind) (i : Int) : vIndexAddr Tryz.prog 216 (.pointer (some a)) (.int k i) KV = ((0 ≤ i ∧ i < ((256 : Nat) : Int)) ∧ KV (.pointer (some (a.add (i.toNat * 1))))) := ia_ar 216 108 a 256 1 k i Tryz.underlying216 (by kernel_rfl)
theorem sz217 : Tryz.prog.szo 217 = some 1 := by kernel_rfl
theorem ldf217 (a : Addr) : vLoad Tryz.prog 217 (.pointer (some a)) w KV = ∃ v, w.cell? a = some v ∧ KV v := ld_fn 217 _ _ _ a Tryz.underlying217
theorem fe217 (f : Fn) (x y : Array Value) (xo yo : Operand) : vBinO Tryz.prog .eql 217 xo yo (.func f x y) .nilFunc w KV = KV (.bool false) := be_fun Tryz.underlying217 f x y xo yo
theorem sz218 : Tryz.prog.szo 218 = some 1 := by kernel_rfl
theorem ldf218 (a : Addr) : vLoad Tryz.prog 218 (.pointer (some a)) w KV = ∃ v, w.cell? a = some v ∧ KV v := ld_fn 218 _ _ _ a Tryz.underlying218
theorem fe218 (f : Fn) (x y : Array Value) (xo yo : Operand) : vBinO Tryz.prog .eql 218 xo yo (.func f x y) .nilFunc w KV = KV (.bool false) := be_fun Tryz.underlying218 f x y xo yo
theorem sz219 : Tryz.prog.szo 219 = some 3 := by kernel_rfl
theorem ld219 (a : Addr) : vLoad Tryz.prog 219 (.pointer (some a)) w KV = ∃ cs : List Value, (cs.length = 3 ∧ Reads w a cs) ∧ KV (.agg cs.toArray) := ld_st 219 3 a _ Tryz.underlying219 (by kernel_rfl)
theorem bd219 (f0 : Fn) (x0 y0 : Array Value) (n1 : Int) (n2 : Int) : vBuild Tryz.prog 219 [(0, .func f0 x0 y0), (1, .int .i64 n1), (2, .int .i64 n2)] KV = KV (.agg #[.func f0 x0 y0, .int .i64 n1, .int .i64 n2]) := bd_of (by kernel_rfl)
theorem bz219 : vBuild Tryz.prog 219 [] KV = KV (.agg #[.nilFunc, .int .i64 0, .int .i64 0]) := bd_of (by kernel_rfl)
theorem fd219_0 (l : List Value) : vField Tryz.prog 219 (.agg l.toArray) 0 KV = vNth l 0 KV := fd_cell 219 0 l Tryz.underlying219 rfl (by kernel_rfl) (by kernel_rfl) (by kernel_rfl)
theorem fa219_0 (a : Addr) : vFieldAddr Tryz.prog 219 (.pointer (some a)) 0 KV = KV (.pointer (some (a.add 0))) := fa_st 219 0 a (m := 0) Tryz.underlying219 rfl (by kernel_rfl)
theorem fd219_1 (l : List Value) : vField Tryz.prog 219 (.agg l.toArray) 1 KV = vNth l 1 KV := fd_cell 219 1 l Tryz.underlying219 rfl (by kernel_rfl) (by kernel_rfl) (by kernel_rfl)
theorem fa219_1 (a : Addr) : vFieldAddr Tryz.prog 219 (.pointer (some a)) 1 KV = KV (.pointer (some (a.add 1))) := fa_st 219 1 a (m := 0) Tryz.underlying219 rfl (by kernel_rfl)
theorem fd219_2 (l : List Value) : vField Tryz.prog 219 (.agg l.toArray) 2 KV = vNth l 2 KV := fd_cell 219 2 l Tryz.underlying219 rfl (by kernel_rfl) (by kernel_rfl) (by kernel_rfl)
theorem fa219_2 (a : Addr) : vFieldAddr Tryz.prog 219 (.pointer (some a)) 2 KV = KV (.pointer (some (a.add 2))) := fa_st 219 2 a (m := 0) Tryz.underlying219 rfl (by kernel_rfl)
theorem sz220 : Tryz.prog.szo 220 = some 3 := by kernel_rfl
theorem ld220 (a : Addr) : vLoad Tryz.prog 220 (.pointer (some a)) w KV = ∃ cs : List Value, (cs.length = 3 ∧ Reads w a cs) ∧ KV (.agg cs.toArray) := ld_st 220 3 a _ Tryz.underlying220 (by kernel_rfl)
theorem bd220 (f0 : Fn) (x0 y0 : Array Value) (n1 : Int) (n2 : Int) : vBuild Tryz.prog 220 [(0, .func f0 x0 y0), (1, .int .i64 n1), (2, .int .i64 n2)] KV = KV (.agg #[.func f0 x0 y0, .int .i64 n1, .int .i64 n2]) := bd_of (by kernel_rfl)
theorem bz220 : vBuild Tryz.prog 220 [] KV = KV (.agg #[.nilFunc, .int .i64 0, .int .i64 0]) := bd_of (by kernel_rfl)
theorem fd220_0 (l : List Value) : vField Tryz.prog 220 (.agg l.toArray) 0 KV = vNth l 0 KV := fd_cell 220 0 l Tryz.underlying220 rfl (by kernel_rfl) (by kernel_rfl) (by kernel_rfl)
theorem fa220_0 (a : Addr) : vFieldAddr Tryz.prog 220 (.pointer (some a)) 0 KV = KV (.pointer (some (a.add 0))) := fa_st 220 0 a (m := 0) Tryz.underlying220 rfl (by kernel_rfl)
theorem fd220_1 (l : List Value) : vField Tryz.prog 220 (.agg l.toArray) 1 KV = vNth l 1 KV := fd_cell 220 1 l Tryz.underlying220 rfl (by kernel_rfl) (by kernel_rfl) (by kernel_rfl)
theorem fa220_1 (a : Addr) : vFieldAddr Tryz.prog 220 (.pointer (some a)) 1 KV = KV (.pointer (some (a.add 1))) := fa_st 220 1 a (m := 0) Tryz.underlying220 rfl (by kernel_rfl)
theorem fd220_2 (l : List Value) : vField Tryz.prog 220 (.agg l.toArray) 2 KV = vNth l 2 KV := fd_cell 220 2 l Tryz.underlying220 rfl (by kernel_rfl) (by kernel_rfl) (by kernel_rfl)
theorem fa220_2 (a : Addr) : vFieldAddr Tryz.prog 220 (.pointer (some a)) 2 KV = KV (.pointer (some (a.add 2))) := fa_st 220 2 a (m := 0) Tryz.underlying220 rfl (by kernel_rfl)
theorem sz222 : Tryz.prog.szo 222 = some 1 := by kernel_rfl
theorem ldf222 (a : Addr) : vLoad Tryz.prog 222 (.pointer (some a)) w KV = ∃ v, w.cell? a = some v ∧ KV v := ld_fn 222 _ _ _ a Tryz.underlying222
theorem fe222 (f : Fn) (x y : Array Value) (xo yo : Operand) : vBinO Tryz.prog .eql 222 xo yo (.func f x y) .nilFunc w KV = KV (.bool false) := be_fun Tryz.underlying222 f x y xo yo
theorem sz224 : Tryz.prog.szo 224 = some 1 := by kernel_rfl
theorem ldf224 (a : Addr) : vLoad Tryz.prog 224 (.pointer (some a)) w KV = ∃ v, w.cell? a = some v ∧ KV v := ld_fn 224 _ _ _ a Tryz.underlying224
theorem fe224 (f : Fn) (x y : Array Value) (xo yo : Operand) : vBinO Tryz.prog .eql 224 xo yo (.func f x y) .nilFunc w KV = KV (.bool false) := be_fun Tryz.underlying224 f x y xo yo
theorem sz225 : Tryz.prog.szo 225 = some 1 := by kernel_rfl
theorem ld225 (a : Addr) : vLoad Tryz.prog 225 (.pointer (some a)) w KV = ∃ cs : List Value, (cs.length = 1 ∧ Reads w a cs) ∧ KV (.agg cs.toArray) := ld_st 225 1 a _ Tryz.underlying225 (by kernel_rfl)
theorem bd225 (n0 : Int) : vBuild Tryz.prog 225 [(0, .int .i64 n0)] KV = KV (.agg #[.int .i64 n0]) := bd_of (by kernel_rfl)
theorem bz225 : vBuild Tryz.prog 225 [] KV = KV (.agg #[.int .i64 0]) := bd_of (by kernel_rfl)
theorem fd225_0 (l : List Value) : vField Tryz.prog 225 (.agg l.toArray) 0 KV = vNth l 0 KV := fd_cell 225 0 l Tryz.underlying225 rfl (by kernel_rfl) (by kernel_rfl) (by kernel_rfl)
theorem fa225_0 (a : Addr) : vFieldAddr Tryz.prog 225 (.pointer (some a)) 0 KV = KV (.pointer (some (a.add 0))) := fa_st 225 0 a (m := 0) Tryz.underlying225 rfl (by kernel_rfl)
theorem sz226 : Tryz.prog.szo 226 = some 1 := by kernel_rfl
theorem ld226 (a : Addr) : vLoad Tryz.prog 226 (.pointer (some a)) w KV = ∃ cs : List Value, (cs.length = 1 ∧ Reads w a cs) ∧ KV (.agg cs.toArray) := ld_st 226 1 a _ Tryz.underlying226 (by kernel_rfl)
theorem bd226 (n0 : Int) : vBuild Tryz.prog 226 [(0, .int .i64 n0)] KV = KV (.agg #[.int .i64 n0]) := bd_of (by kernel_rfl)
theorem bz226 : vBuild Tryz.prog 226 [] KV = KV (.agg #[.int .i64 0]) := bd_of (by kernel_rfl)
theorem fd226_0 (l : List Value) : vField Tryz.prog 226 (.agg l.toArray) 0 KV = vNth l 0 KV := fd_cell 226 0 l Tryz.underlying226 rfl (by kernel_rfl) (by kernel_rfl) (by kernel_rfl)
theorem fa226_0 (a : Addr) : vFieldAddr Tryz.prog 226 (.pointer (some a)) 0 KV = KV (.pointer (some (a.add 0))) := fa_st 226 0 a (m := 0) Tryz.underlying226 rfl (by kernel_rfl)
theorem sz228 : Tryz.prog.szo 228 = some 1 := by kernel_rfl
theorem ldf228 (a : Addr) : vLoad Tryz.prog 228 (.pointer (some a)) w KV = ∃ v, w.cell? a = some v ∧ KV v := ld_fn 228 _ _ _ a Tryz.underlying228
theorem fe228 (f : Fn) (x y : Array Value) (xo yo : Operand) : vBinO Tryz.prog .eql 228 xo yo (.func f x y) .nilFunc w KV = KV (.bool false) := be_fun Tryz.underlying228 f x y xo yo
theorem sz229 : Tryz.prog.szo 229 = some 1 := by kernel_rfl
theorem ldf229 (a : Addr) : vLoad Tryz.prog 229 (.pointer (some a)) w KV = ∃ v, w.cell? a = some v ∧ KV v := ld_fn 229 _ _ _ a Tryz.underlying229
theorem fe229 (f : Fn) (x y : Array Value) (xo yo : Operand) : vBinO Tryz.prog .eql 229 xo yo (.func f x y) .nilFunc w KV = KV (.bool false) := be_fun Tryz.underlying229 f x y xo yo
theorem sz230 : Tryz.prog.szo 230 = some 1 := by kernel_rfl
theorem ldf230 (a : Addr) : vLoad Tryz.prog 230 (.pointer (some a)) w KV = ∃ v, w.cell? a = some v ∧ KV v := ld_fn 230 _ _ _ a Tryz.underlying230
theorem fe230 (f : Fn) (x y : Array Value) (xo yo : Operand) : vBinO Tryz.prog .eql 230 xo yo (.func f x y) .nilFunc w KV = KV (.bool false) := be_fun Tryz.underlying230 f x y xo yo
theorem sz231 : Tryz.prog.szo 231 = some 1 := by kernel_rfl
theorem ldf231 (a : Addr) : vLoad Tryz.prog 231 (.pointer (some a)) w KV = ∃ v, w.cell? a = some v ∧ KV v := ld_fn 231 _ _ _ a Tryz.underlying231
theorem fe231 (f : Fn) (x y : Array Value) (xo yo : Operand) : vBinO Tryz.prog .eql 231 xo yo (.func f x y) .nilFunc w KV = KV (.bool false) := be_fun Tryz.underlying231 f x y xo yo
theorem sz232 : Tryz.prog.szo 232 = some 1 := by kernel_rfl
theorem ldf232 (a : Addr) : vLoad Tryz.prog 232 (.pointer (some a)) w KV = ∃ v, w.cell? a = some v ∧ KV v := ld_fn 232 _ _ _ a Tryz.underlying232
theorem fe232 (f : Fn) (x y : Array Value) (xo yo : Operand) : vBinO Tryz.prog .eql 232 xo yo (.func f x y) .nilFunc w KV = KV (.bool false) := be_fun Tryz.underlying232 f x y xo yo
theorem sz233 : Tryz.prog.szo 233 = some 1 := by kernel_rfl
theorem ldf233 (a : Addr) : vLoad Tryz.prog 233 (.pointer (some a)) w KV = ∃ v, w.cell? a = some v ∧ KV v := ld_fn 233 _ _ _ a Tryz.underlying233
theorem fe233 (f : Fn) (x y : Array Value) (xo yo : Operand) : vBinO Tryz.prog .eql 233 xo yo (.func f x y) .nilFunc w KV = KV (.bool false) := be_fun Tryz.underlying233 f x y xo yo
theorem sz234 : Tryz.prog.szo 234 = some 1 := by kernel_rfl
theorem ldf234 (a : Addr) : vLoad Tryz.prog 234 (.pointer (some a)) w KV = ∃ v, w.cell? a = some v ∧ KV v := ld_fn 234 _ _ _ a Tryz.underlying234
theorem fe234 (f : Fn) (x y : Array Value) (xo yo : Operand) : vBinO Tryz.prog .eql 234 xo yo (.func f x y) .nilFunc w KV = KV (.bool false) := be_fun Tryz.underlying234 f x y xo yo
theorem sz235 : Tryz.prog.szo 235 = some 1 := by kernel_rfl
theorem ldf235 (a : Addr) : vLoad Tryz.prog 235 (.pointer (some a)) w KV = ∃ v, w.cell? a = some v ∧ KV v := ld_fn 235 _ _ _ a Tryz.underlying235
theorem fe235 (f : Fn) (x y : Array Value) (xo yo : Operand) : vBinO Tryz.prog .eql 235 xo yo (.func f x y) .nilFunc w KV = KV (.bool false) := be_fun Tryz.underlying235 f x y xo yo
theorem sz236 : Tryz.prog.szo 236 = some 1 := by kernel_rfl
theorem ldf236 (a : Addr) : vLoad Tryz.prog 236 (.pointer (some a)) w KV = ∃ v, w.cell? a = some v ∧ KV v := ld_fn 236 _ _ _ a Tryz.underlying236
theorem fe236 (f : Fn) (x y : Array Value) (xo yo : Operand) : vBinO Tryz.prog .eql 236 xo yo (.func f x y) .nilFunc w KV = KV (.bool false) := be_fun Tryz.underlying236 f x y xo yo
theorem sz237 : Tryz.prog.szo 237 = some 1 := by kernel_rfl
theorem ldf237 (a : Addr) : vLoad Tryz.prog 237 (.pointer (some a)) w KV = ∃ v, w.cell? a = some v ∧ KV v := ld_fn 237 _ _ _ a Tryz.underlying237
theorem fe237 (f : Fn) (x y : Array Value) (xo yo : Operand) : vBinO Tryz.prog .eql 237 xo yo (.func f x y) .nilFunc w KV = KV (.bool false) := be_fun Tryz.underlying237 f x y xo yo
theorem sz238 : Tryz.prog.szo 238 = some 1 := by kernel_rfl
theorem pe238 (a : Option Addr) (xo yo : Operand) : vBinO Tryz.prog .eql 238 xo yo (.pointer a) (.pointer none) w KV = KV (.bool a.isNone) := be_ptr Tryz.underlying238 a xo yo
theorem pn238 (a : Option Addr) (xo yo : Operand) : vBinO Tryz.prog .neq 238 xo yo (.pointer a) (.pointer none) w KV = KV (.bool !a.isNone) := bn_ptr Tryz.underlying238 a xo yo
theorem ld238 (a : Addr) : vLoad Tryz.prog 238 (.pointer (some a)) w KV = ∃ v, w.cell? a = some v ∧ KV v := ld_ptr 238 189 a Tryz.underlying238
theorem sz239 : Tryz.prog.szo 239 = some 1 := by kernel_rfl
theorem ldf239 (a : Addr) : vLoad Tryz.prog 239 (.pointer (some a)) w KV = ∃ v, w.cell? a = some v ∧ KV v := ld_fn 239 _ _ _ a Tryz.underlying239
theorem fe239 (f : Fn) (x y : Array Value) (xo yo : Operand) : vBinO Tryz.prog .eql 239 xo yo (.func f x y) .nilFunc w KV = KV (.bool false) := be_fun Tryz.underlying239 f x y xo yo
theorem sz240 : Tryz.prog.szo 240 = some 1 := by kernel_rfl
theorem ldf240 (a : Addr) : vLoad Tryz.prog 240 (.pointer (some a)) w KV = ∃ v, w.cell? a = some v ∧ KV v := ld_fn 240 _ _ _ a Tryz.underlying240
theorem fe240 (f : Fn) (x y : Array Value) (xo yo : Operand) : vBinO Tryz.prog .eql 240 xo yo (.func f x y) .nilFunc w KV = KV (.bool false) := be_fun Tryz.underlying240 f x y xo yo
theorem sz241 : Tryz.prog.szo 241 = some 1 := by kernel_rfl
theorem ln241 (a : Option Addr) (n c : Nat) : vLen Tryz.prog 241 (.slice a n c) KV = KV (.int .i64 n) := ln_sl 241 201 a n c Tryz.underlying241
theorem snn241 (a : Option Addr) (n c : Nat) : vSlice Tryz.prog 241 (.slice a n c) none none KV = (n ≤ c ∧ KV (.slice a n c)) := sl_nn 241 201 a n c 2 Tryz.underlying241 (by kernel_rfl)
theorem sln241 (a : Option Addr) (n c : Nat) (k : IntKind) (l : Int) : vSlice Tryz.prog 241 (.slice a n c) (some (.int k l)) none KV = ((0 ≤ l ∧ l ≤ n ∧ n ≤ c) ∧ KV (.slice (if c = l.toNat then a else a.map (·.add (l.toNat * 2))) (n - l.toNat) (c - l.toNat))) := sl_ln 241 201 a n c 2 k l Tryz.underlying241 (by kernel_rfl)
theorem snh241 (a : Option Addr) (n c : Nat) (k : IntKind) (l : Int) : vSlice Tryz.prog 241 (.slice a n c) none (some (.int k l)) KV = ((0 ≤ l ∧ l ≤ c) ∧ KV (.slice a l.toNat c)) := sl_nh 241 201 a n c 2 k l Tryz.underlying241 (by kernel_rfl)
theorem slh241 (a : Option Addr) (n c : Nat) (k k' : IntKind) (l m : Int) : vSlice Tryz.prog 241 (.slice a n c) (some (.int k l)) (some (.int k' m)) KV = ((0 ≤ l ∧ l ≤ m ∧ m ≤ c) ∧ KV (.slice (if c = l.toNat then a else a.map (·.add (l.toNat * 2))) (m.toNat - l.toNat) (c - l.toNat))) := sl_lh 241 201 a n c 2 k k' l m Tryz.underlying241 (by kernel_rfl)
theorem ia241 (a : Addr) (n c : Nat) (k : IntKind) (i : Int) : vIndexAddr Tryz.prog 241 (.slice (some a) n c) (.int k i) KV = ((0 ≤ i ∧ i < n) ∧ KV (.pointer (some (a.add (i.toNat * 2))))) := ia_sl 241 201 a n c 2 k i Tryz.underlying241 (by kernel_rfl)
theorem ld241 (a : Addr) : vLoad Tryz.prog 241 (.pointer (some a)) w KV = ∃ v, w.cell? a = some v ∧ KV v := ld_sl 241 201 a Tryz.underlying241
theorem sz242 : Tryz.prog.szo 242 = some 1 := by kernel_rfl
theorem sz243 : Tryz.prog.szo 243 = some 1 := by kernel_rfl
theorem ldf243 (a : Addr) : vLoad Tryz.prog 243 (.pointer (some a)) w KV = ∃ v, w.cell? a = some v ∧ KV v := ld_fn 243 _ _ _ a Tryz.underlying243
theorem fe243 (f : Fn) (x y : Array Value) (xo yo : Operand) : vBinO Tryz.prog .eql 243 xo yo (.func f x y) .nilFunc w KV = KV (.bool false) := be_fun Tryz.underlying243 f x y xo yo
theorem sz244 : Tryz.prog.szo 244 = some 2 := by kernel_rfl
theorem ld244 (a : Addr) : vLoad Tryz.prog 244 (.pointer (some a)) w KV = ∃ cs : List Value, (cs.length = 2 ∧ Reads w a cs) ∧ KV (.agg cs.toArray) := ld_st 244 2 a _ Tryz.underlying244 (by kernel_rfl)
theorem bd244 (a0 : Option Addr) (n0 c0 : Nat) (n1 : Int) : vBuild Tryz.prog 244 [(0, .slice a0 n0 c0), (1, .int .i64 n1)] KV = KV (.agg #[.slice a0 n0 c0, .int .i64 n1]) := bd_of (by kernel_rfl)
theorem bz244 : vBuild Tryz.prog 244 [] KV = KV (.agg #[.slice none 0 0, .int .i64 0]) := bd_of (by kernel_rfl)
theorem fd244_0 (l : List Value) : vField Tryz.prog 244 (.agg l.toArray) 0 KV = vNth l 0 KV := fd_cell 244 0 l Tryz.underlying244 rfl (by kernel_rfl) (by kernel_rfl) (by kernel_rfl)
theorem fa244_0 (a : Addr) : vFieldAddr Tryz.prog 244 (.pointer (some a)) 0 KV = KV (.pointer (some (a.add 0))) := fa_st 244 0 a (m := 0) Tryz.underlying244 rfl (by kernel_rfl)
theorem fd244_1 (l : List Value) : vField Tryz.prog 244 (.agg l.toArray) 1 KV = vNth l 1 KV := fd_cell 244 1 l Tryz.underlying244 rfl (by kernel_rfl) (by kernel_rfl) (by kernel_rfl)
theorem fa244_1 (a : Addr) : vFieldAddr Tryz.prog 244 (.pointer (some a)) 1 KV = KV (.pointer (some (a.add 1))) := fa_st 244 1 a (m := 0) Tryz.underlying244 rfl (by kernel_rfl)
theorem sz245 : Tryz.prog.szo 245 = some 2 := by kernel_rfl
theorem ld245 (a : Addr) : vLoad Tryz.prog 245 (.pointer (some a)) w KV = ∃ cs : List Value, (cs.length = 2 ∧ Reads w a cs) ∧ KV (.agg cs.toArray) := ld_st 245 2 a _ Tryz.underlying245 (by kernel_rfl)
theorem bd245 (a0 : Option Addr) (n0 c0 : Nat) (n1 : Int) : vBuild Tryz.prog 245 [(0, .slice a0 n0 c0), (1, .int .i64 n1)] KV = KV (.agg #[.slice a0 n0 c0, .int .i64 n1]) := bd_of (by kernel_rfl)
theorem bz245 : vBuild Tryz.prog 245 [] KV = KV (.agg #[.slice none 0 0, .int .i64 0]) := bd_of (by kernel_rfl)
theorem fd245_0 (l : List Value) : vField Tryz.prog 245 (.agg l.toArray) 0 KV = vNth l 0 KV := fd_cell 245 0 l Tryz.underlying245 rfl (by kernel_rfl) (by kernel_rfl) (by kernel_rfl)
theorem fa245_0 (a : Addr) : vFieldAddr Tryz.prog 245 (.pointer (some a)) 0 KV = KV (.pointer (some (a.add 0))) := fa_st 245 0 a (m := 0) Tryz.underlying245 rfl (by kernel_rfl)
theorem fd245_1 (l : List Value) : vField Tryz.prog 245 (.agg l.toArray) 1 KV = vNth l 1 KV := fd_cell 245 1 l Tryz.underlying245 rfl (by kernel_rfl) (by kernel_rfl) (by kernel_rfl)
theorem fa245_1 (a : Addr) : vFieldAddr Tryz.prog 245 (.pointer (some a)) 1 KV = KV (.pointer (some (a.add 1))) := fa_st 245 1 a (m := 0) Tryz.underlying245 rfl (by kernel_rfl)
theorem sz246 : Tryz.prog.szo 246 = some 1 := by kernel_rfl
theorem ldf246 (a : Addr) : vLoad Tryz.prog 246 (.pointer (some a)) w KV = ∃ v, w.cell? a = some v ∧ KV v := ld_fn 246 _ _ _ a Tryz.underlying246
theorem fe246 (f : Fn) (x y : Array Value) (xo yo : Operand) : vBinO Tryz.prog .eql 246 xo yo (.func f x y) .nilFunc w KV = KV (.bool false) := be_fun Tryz.underlying246 f x y xo yo
theorem sz247 : Tryz.prog.szo 247 = some 1 := by kernel_rfl
theorem ldf247 (a : Addr) : vLoad Tryz.prog 247 (.pointer (some a)) w KV = ∃ v, w.cell? a = some v ∧ KV v := ld_fn 247 _ _ _ a Tryz.underlying247
theorem fe247 (f : Fn) (x y : Array Value) (xo yo : Operand) : vBinO Tryz.prog .eql 247 xo yo (.func f x y) .nilFunc w KV = KV (.bool false) := be_fun Tryz.underlying247 f x y xo yo
theorem sz248 : Tryz.prog.szo 248 = some 1 := by kernel_rfl
theorem ldf248 (a : Addr) : vLoad Tryz.prog 248 (.pointer (some a)) w KV = ∃ v, w.cell? a = some v ∧ KV v := ld_fn 248 _ _ _ a Tryz.underlying248
theorem fe248 (f : Fn) (x y : Array Value) (xo yo : Operand) : vBinO Tryz.prog .eql 248 xo yo (.func f x y) .nilFunc w KV = KV (.bool false) := be_fun Tryz.underlying248 f x y xo yo
theorem sz249 : Tryz.prog.szo 249 = some 1 := by kernel_rfl
theorem ldf249 (a : Addr) : vLoad Tryz.prog 249 (.pointer (some a)) w KV = ∃ v, w.cell? a = some v ∧ KV v := ld_fn 249 _ _ _ a Tryz.underlying249
theorem fe249 (f : Fn) (x y : Array Value) (xo yo : Operand) : vBinO Tryz.prog .eql 249 xo yo (.func f x y) .nilFunc w KV = KV (.bool false) := be_fun Tryz.underlying249 f x y xo yo
theorem sz250 : Tryz.prog.szo 250 = some 1 := by kernel_rfl
theorem ldf250 (a : Addr) : vLoad Tryz.prog 250 (.pointer (some a)) w KV = ∃ v, w.cell? a = some v ∧ KV v := ld_fn 250 _ _ _ a Tryz.underlying250
theorem fe250 (f : Fn) (x y : Array Value) (xo yo : Operand) : vBinO Tryz.prog .eql 250 xo yo (.func f x y) .nilFunc w KV = KV (.bool false) := be_fun Tryz.underlying250 f x y xo yo
theorem sz251 : Tryz.prog.szo 251 = some 1 := by kernel_rfl
theorem ldf251 (a : Addr) : vLoad Tryz.prog 251 (.pointer (some a)) w KV = ∃ v, w.cell? a = some v ∧ KV v := ld_fn 251 _ _ _ a Tryz.underlying251
theorem fe251 (f : Fn) (x y : Array Value) (xo yo : Operand) : vBinO Tryz.prog .eql 251 xo yo (.func f x y) .nilFunc w KV = KV (.bool false) := be_fun Tryz.underlying251 f x y xo yo
theorem sz252 : Tryz.prog.szo 252 = some 1 := by kernel_rfl
theorem ldf252 (a : Addr) : vLoad Tryz.prog 252 (.pointer (some a)) w KV = ∃ v, w.cell? a = some v ∧ KV v := ld_fn 252 _ _ _ a Tryz.underlying252
theorem fe252 (f : Fn) (x y : Array Value) (xo yo : Operand) : vBinO Tryz.prog .eql 252 xo yo (.func f x y) .nilFunc w KV = KV (.bool false) := be_fun Tryz.underlying252 f x y xo yo
theorem sz253 : Tryz.prog.szo 253 = some 1 := by kernel_rfl
theorem pe253 (a : Option Addr) (xo yo : Operand) : vBinO Tryz.prog .eql 253 xo yo (.pointer a) (.pointer none) w KV = KV (.bool a.isNone) := be_ptr Tryz.underlying253 a xo yo
theorem pn253 (a : Option Addr) (xo yo : Operand) : vBinO Tryz.prog .neq 253 xo yo (.pointer a) (.pointer none) w KV = KV (.bool !a.isNone) := bn_ptr Tryz.underlying253 a xo yo
theorem ld253 (a : Addr) : vLoad Tryz.prog 253 (.pointer (some a)) w KV = ∃ v, w.cell? a = some v ∧ KV v := ld_ptr 253 284 a Tryz.underlying253
theorem sz255 : Tryz.prog.szo 255 = some 1 := by kernel_rfl
theorem ldf255 (a : Addr) : vLoad Tryz.prog 255 (.pointer (some a)) w KV = ∃ v, w.cell? a = some v ∧ KV v := ld_fn 255 _ _ _ a Tryz.underlying255
theorem fe255 (f : Fn) (x y : Array Value) (xo yo : Operand) : vBinO Tryz.prog .eql 255 xo yo (.func f x y) .nilFunc w KV = KV (.bool false) := be_fun Tryz.underlying255 f x y xo yo
theorem sz256 : Tryz.prog.szo 256 = some 1 := by kernel_rfl
theorem ldf256 (a : Addr) : vLoad Tryz.prog 256 (.pointer (some a)) w KV = ∃ v, w.cell? a = some v ∧ KV v := ld_fn 256 _ _ _ a Tryz.underlying256
theorem fe256 (f : Fn) (x y : Array Value) (xo yo : Operand) : vBinO Tryz.prog .eql 256 xo yo (.func f x y) .nilFunc w KV = KV (.bool false) := be_fun Tryz.underlying256 f x y xo yo
theorem sz257 : Tryz.prog.szo 257 = some 1 := by kernel_rfl
theorem ldf257 (a : Addr) : vLoad Tryz.prog 257 (.pointer (some a)) w KV = ∃ v, w.cell? a = some v ∧ KV v := ld_fn 257 _ _ _ a Tryz.underlying257
theorem fe257 (f : Fn) (x y : Array Value) (xo yo : Operand) : vBinO Tryz.prog .eql 257 xo yo (.func f x y) .nilFunc w KV = KV (.bool false) := be_fun Tryz.underlying257 f x y xo yo
theorem sz258 : Tryz.prog.szo 258 = some 1 := by kernel_rfl
theorem ldf258 (a : Addr) : vLoad Tryz.prog 258 (.pointer (some a)) w KV = ∃ v, w.cell? a = some v ∧ KV v := ld_fn 258 _ _ _ a Tryz.underlying258
theorem fe258 (f : Fn) (x y : Array Value) (xo yo : Operand) : vBinO Tryz.prog .eql 258 xo yo (.func f x y) .nilFunc w KV = KV (.bool false) := be_fun Tryz.underlying258 f x y xo yo
theorem sz259 : Tryz.prog.szo 259 = some 1 := by kernel_rfl
theorem ldf259 (a : Addr) : vLoad Tryz.prog 259 (.pointer (some a)) w KV = ∃ v, w.cell? a = some v ∧ KV v := ld_fn 259 _ _ _ a Tryz.underlying259
theorem fe259 (f : Fn) (x y : Array Value) (xo yo : Operand) : vBinO Tryz.prog .eql 259 xo yo (.func f x y) .nilFunc w KV = KV (.bool false) := be_fun Tryz.underlying259 f x y xo yo
theorem sz260 : Tryz.prog.szo 260 = some 1 := by kernel_rfl
theorem ldf260 (a : Addr) : vLoad Tryz.prog 260 (.pointer (some a)) w KV = ∃ v, w.cell? a = some v ∧ KV v := ld_fn 260 _ _ _ a Tryz.underlying260
theorem fe260 (f : Fn) (x y : Array Value) (xo yo : Operand) : vBinO Tryz.prog .eql 260 xo yo (.func f x y) .nilFunc w KV = KV (.bool false) := be_fun Tryz.underlying260 f x y xo yo
theorem sz261 : Tryz.prog.szo 261 = some 1 := by kernel_rfl
theorem ldf261 (a : Addr) : vLoad Tryz.prog 261 (.pointer (some a)) w KV = ∃ v, w.cell? a = some v ∧ KV v := ld_fn 261 _ _ _ a Tryz.underlying261
theorem fe261 (f : Fn) (x y : Array Value) (xo yo : Operand) : vBinO Tryz.prog .eql 261 xo yo (.func f x y) .nilFunc w KV = KV (.bool false) := be_fun Tryz.underlying261 f x y xo yo
theorem sz262 : Tryz.prog.szo 262 = some 1 := by kernel_rfl
theorem ldf262 (a : Addr) : vLoad Tryz.prog 262 (.pointer (some a)) w KV = ∃ v, w.cell? a = some v ∧ KV v := ld_fn 262 _ _ _ a Tryz.underlying262
theorem fe262 (f : Fn) (x y : Array Value) (xo yo : Operand) : vBinO Tryz.prog .eql 262 xo yo (.func f x y) .nilFunc w KV = KV (.bool false) := be_fun Tryz.underlying262 f x y xo yo
theorem sz263 : Tryz.prog.szo 263 = some 256 := by kernel_rfl
theorem ld263 (a : Addr) : vLoad Tryz.prog 263 (.pointer (some a)) w KV = ∃ cs : List Value, (cs.length = 256 ∧ Reads w a cs) ∧ KV (.agg cs.toArray) := ld_ar 263 256 256 3 a Tryz.underlying263 (by kernel_rfl)
theorem ln263 (v : Value) : vLen Tryz.prog 263 v KV = KV (.int .i64 ((256 : Nat) : Int)) := ln_ar 263 v Tryz.underlying263
theorem ixa263 (l : List Value) (k : IntKind) (i : Int) : vIndex Tryz.prog 263 (.agg l.toArray) (.int k i) KV = ((0 ≤ i ∧ i < ((256 : Nat) : Int)) ∧ vNth l i.toNat KV) := ix_agg 263 l k i Tryz.underlying263 (by kernel_rfl) (by kernel_rfl) (by kernel_rfl)
theorem ia263 (a : Addr) (k : IntKind) (i : Int) : vIndexAddr Tryz.prog 263 (.pointer (some a)) (.int k i) KV = ((0 ≤ i ∧ i < ((256 : Nat) : Int)) ∧ KV (.pointer (some (a.add (i.toNat * 1))))) := ia_ar 263 3 a 256 1 k i Tryz.underlying263 (by kernel_rfl)
theorem sz264 : Tryz.prog.szo 264 = some 2 := by kernel_rfl
theorem ld264 (a : Addr) : vLoad Tryz.prog 264 (.pointer (some a)) w KV = ∃ cs : List Value, (cs.length = 2 ∧ Reads w a cs) ∧ KV (.agg cs.toArray) := ld_st 264 2 a _ Tryz.underlying264 (by kernel_rfl)
theorem bd264 (f0 : Fn) (x0 y0 : Array Value) (n1 : Int) : vBuild Tryz.prog 264 [(0, .func f0 x0 y0), (1, .int .i64 n1)] KV = KV (.agg #[.func f0 x0 y0, .int .i64 n1]) := bd_of (by kernel_rfl)
theorem bz264 : vBuild Tryz.prog 264 [] KV = KV (.agg #[.nilFunc, .int .i64 0]) := bd_of (by kernel_rfl)
theorem fd264_0 (l : List Value) : vField Tryz.prog 264 (.agg l.toArray) 0 KV = vNth l 0 KV := fd_cell 264 0 l Tryz.underlying264 rfl (by kernel_rfl) (by kernel_rfl) (by kernel_rfl)
theorem fa264_0 (a : Addr) : vFieldAddr Tryz.prog 264 (.pointer (some a)) 0 KV = KV (.pointer (some (a.add 0))) := fa_st 264 0 a (m := 0) Tryz.underlying264 rfl (by kernel_rfl)
theorem fd264_1 (l : List Value) : vField Tryz.prog 264 (.agg l.toArray) 1 KV = vNth l 1 KV := fd_cell 264 1 l Tryz.underlying264 rfl (by kernel_rfl) (by kernel_rfl) (by kernel_rfl)
theorem fa264_1 (a : Addr) : vFieldAddr Tryz.prog 264 (.pointer (some a)) 1 KV = KV (.pointer (some (a.add 1))) := fa_st 264 1 a (m := 0) Tryz.underlying264 rfl (by kernel_rfl)
theorem sz265 : Tryz.prog.szo 265 = some 2 := by kernel_rfl
theorem ld265 (a : Addr) : vLoad Tryz.prog 265 (.pointer (some a)) w KV = ∃ cs : List Value, (cs.length = 2 ∧ Reads w a cs) ∧ KV (.agg cs.toArray) := ld_st 265 2 a _ Tryz.underlying265 (by kernel_rfl)
theorem bd265 (f0 : Fn) (x0 y0 : Array Value) (n1 : Int) : vBuild Tryz.prog 265 [(0, .func f0 x0 y0), (1, .int .i64 n1)] KV = KV (.agg #[.func f0 x0 y0, .int .i64 n1]) := bd_of (by kernel_rfl)
theorem bz265 : vBuild Tryz.prog 265 [] KV = KV (.agg #[.nilFunc, .int .i64 0]) := bd_of (by kernel_rfl)
theorem fd265_0 (l : List Value) : vField Tryz.prog 265 (.agg l.toArray) 0 KV = vNth l 0 KV := fd_cell 265 0 l Tryz.underlying265 rfl (by kernel_rfl) (by kernel_rfl) (by kernel_rfl)
theorem fa265_0 (a : Addr) : vFieldAddr Tryz.prog 265 (.pointer (some a)) 0 KV = KV (.pointer (some (a.add 0))) := fa_st 265 0 a (m := 0) Tryz.underlying265 rfl (by kernel_rfl)
theorem fd265_1 (l : List Value) : vField Tryz.prog 265 (.agg l.toArray) 1 KV = vNth l 1 KV := fd_cell 265 1 l Tryz.underlying265 rfl (by kernel_rfl) (by kernel_rfl) (by kernel_rfl)
theorem fa265_1 (a : Addr) : vFieldAddr Tryz.prog 265 (.pointer (some a)) 1 KV = KV (.pointer (some (a.add 1))) := fa_st 265 1 a (m := 0) Tryz.underlying265 rfl (by kernel_rfl)
theorem sz266 : Tryz.prog.szo 266 = some 1 := by kernel_rfl
theorem ldf266 (a : Addr) : vLoad Tryz.prog 266 (.pointer (some a)) w KV = ∃ v, w.cell? a = some v ∧ KV v := ld_fn 266 _ _ _ a Tryz.underlying266
theorem fe266 (f : Fn) (x y : Array Value) (xo yo : Operand) : vBinO Tryz.prog .eql 266 xo yo (.func f x y) .nilFunc w KV = KV (.bool false) := be_fun Tryz.underlying266 f x y xo yo
theorem sz267 : Tryz.prog.szo 267 = some 1 := by kernel_rfl
theorem ldf267 (a : Addr) : vLoad Tryz.prog 267 (.pointer (some a)) w KV = ∃ v, w.cell? a = some v ∧ KV v := ld_fn 267 _ _ _ a Tryz.underlying267
theorem fe267 (f : Fn) (x y : Array Value) (xo yo : Operand) : vBinO Tryz.prog .eql 267 xo yo (.func f x y) .nilFunc w KV = KV (.bool false) := be_fun Tryz.underlying267 f x y xo yo
theorem sz269 : Tryz.prog.szo 269 = some 1 := by kernel_rfl
theorem ldf269 (a : Addr) : vLoad Tryz.prog 269 (.pointer (some a)) w KV = ∃ v, w.cell? a = some v ∧ KV v := ld_fn 269 _ _ _ a Tryz.underlying269
theorem fe269 (f : Fn) (x y : Array Value) (xo yo : Operand) : vBinO Tryz.prog .eql 269 xo yo (.func f x y) .nilFunc w KV = KV (.bool false) := be_fun Tryz.underlying269 f x y xo yo
theorem sz270 : Tryz.prog.szo 270 = some 1 := by kernel_rfl
theorem ldf270 (a : Addr) : vLoad Tryz.prog 270 (.pointer (some a)) w KV = ∃ v, w.cell? a = some v ∧ KV v := ld_fn 270 _ _ _ a Tryz.underlying270
theorem fe270 (f : Fn) (x y : Array Value) (xo yo : Operand) : vBinO Tryz.prog .eql 270 xo yo (.func f x y) .nilFunc w KV = KV (.bool false) := be_fun Tryz.underlying270 f x y xo yo
theorem sz271 : Tryz.prog.szo 271 = some 1 := by kernel_rfl
theorem ldf271 (a : Addr) : vLoad Tryz.prog 271 (.pointer (some a)) w KV = ∃ v, w.cell? a = some v ∧ KV v := ld_fn 271 _ _ _ a Tryz.underlying271
theorem fe271 (f : Fn) (x y : Array Value) (xo yo : Operand) : vBinO Tryz.prog .eql 271 xo yo (.func f x y) .nilFunc w KV = KV (.bool false) := be_fun Tryz.underlying271 f x y xo yo
theorem sz272 : Tryz.prog.szo 272 = some 4 := by kernel_rfl
theorem ld272 (a : Addr) : vLoad Tryz.prog 272 (.pointer (some a)) w KV = ∃ cs : List Value, (cs.length = 4 ∧ Reads w a cs) ∧ KV (.agg cs.toArray) := ld_ar 272 4 4 3 a Tryz.underlying272 (by kernel_rfl)
theorem ln272 (v : Value) : vLen Tryz.prog 272 v KV = KV (.int .i64 ((4 : Nat) : Int)) := ln_ar 272 v Tryz.underlying272
theorem ixa272 (l : List Value) (k : IntKind) (i : Int) : vIndex Tryz.prog 272 (.agg l.toArray) (.int k i) KV = ((0 ≤ i ∧ i < ((4 : Nat) : Int)) ∧ vNth l i.toNat KV) := ix_agg 272 l k i Tryz.underlying272 (by kernel_rfl) (by kernel_rfl) (by kernel_rfl)
theorem ia272 (a : Addr) (k : IntKind) (i : Int) : vIndexAddr Tryz.prog 272 (.pointer (some a)) (.int k i) KV = ((0 ≤ i ∧ i < ((4 : Nat) : Int)) ∧ KV (.pointer (some (a.add (i.toNat * 1))))) := ia_ar 272 3 a 4 1 k i Tryz.underlying272 (by kernel_rfl)
theorem sz273 : Tryz.prog.szo 273 = some 1 := by kernel_rfl
theorem ldf273 (a : Addr) : vLoad Tryz.prog 273 (.pointer (some a)) w KV = ∃ v, w.cell? a = some v ∧ KV v := ld_fn 273 _ _ _ a Tryz.underlying273
theorem fe273 (f : Fn) (x y : Array Value) (xo yo : Operand) : vBinO Tryz.prog .eql 273 xo yo (.func f x y) .nilFunc w KV = KV (.bool false) := be_fun Tryz.underlying273 f x y xo yo
theorem sz274 : Tryz.prog.szo 274 = some 1 := by kernel_rfl
theorem ldf274 (a : Addr) : vLoad Tryz.prog 274 (.pointer (some a)) w KV = ∃ v, w.cell? a = some v ∧ KV v := ld_fn 274 _ _ _ a Tryz.underlying274
theorem fe274 (f : Fn) (x y : Array Value) (xo yo : Operand) : vBinO Tryz.prog .eql 274 xo yo (.func f x y) .nilFunc w KV = KV (.bool false) := be_fun Tryz.underlying274 f x y xo yo
theorem sz275 : Tryz.prog.szo 275 = some 1 := by kernel_rfl
theorem ln275 (a : Option Addr) (n c : Nat) : vLen Tryz.prog 275 (.slice a n c) KV = KV (.int .i64 n) := ln_sl 275 277 a n c Tryz.underlying275
theorem snn275 (a : Option Addr) (n c : Nat) : vSlice Tryz.prog 275 (.slice a n c) none none KV = (n ≤ c ∧ KV (.slice a n c)) := sl_nn 275 277 a n c 2 Tryz.underlying275 (by kernel_rfl)
theorem sln275 (a : Option Addr) (n c : Nat) (k : IntKind) (l : Int) : vSlice Tryz.prog 275 (.slice a n c) (some (.int k l)) none KV = ((0 ≤ l ∧ l ≤ n ∧ n ≤ c) ∧ KV (.slice (if c = l.toNat then a else a.map (·.add (l.toNat * 2))) (n - l.toNat) (c - l.toNat))) := sl_ln 275 277 a n c 2 k l Tryz.underlying275 (by kernel_rfl)
theorem snh275 (a : Option Addr) (n c : Nat) (k : IntKind) (l : Int) : vSlice Tryz.prog 275 (.slice a n c) none (some (.int k l)) KV = ((0 ≤ l ∧ l ≤ c) ∧ KV (.slice a l.toNat c)) := sl_nh 275 277 a n c 2 k l Tryz.underlying275 (by kernel_rfl)
theorem slh275 (a : Option Addr) (n c : Nat) (k k' : IntKind) (l m : Int) : vSlice Tryz.prog 275 (.slice a n c) (some (.int k l)) (some (.int k' m)) KV = ((0 ≤ l ∧ l ≤ m ∧ m ≤ c) ∧ KV (.slice (if c = l.toNat then a else a.map (·.add (l.toNat * 2))) (m.toNat - l.toNat) (c - l.toNat))) := sl_lh 275 277 a n c 2 k k' l m Tryz.underlying275 (by kernel_rfl)
theorem ia275 (a : Addr) (n c : Nat) (k : IntKind) (i : Int) : vIndexAddr Tryz.prog 275 (.slice (some a) n c) (.int k i) KV = ((0 ≤ i ∧ i < n) ∧ KV (.pointer (some (a.add (i.toNat * 2))))) := ia_sl 275 277 a n c 2 k i Tryz.underlying275 (by kernel_rfl)
theorem ld275 (a : Addr) : vLoad Tryz.prog 275 (.pointer (some a)) w KV = ∃ v, w.cell? a = some v ∧ KV v := ld_sl 275 277 a Tryz.underlying275
theorem sz276 : Tryz.prog.szo 276 = some 2 := by kernel_rfl
theorem ld276 (a : Addr) : vLoad Tryz.prog 276 (.pointer (some a)) w KV = ∃ cs : List Value, (cs.length = 2 ∧ Reads w a cs) ∧ KV (.agg cs.toArray) := ld_st 276 2 a _ Tryz.underlying276 (by kernel_rfl)
theorem bd276 (n0 : Int) (n1 : Int) : vBuild Tryz.prog 276 [(0, .int .i64 n0), (1, .int .i64 n1)] KV = KV (.agg #[.int .i64 n0, .int .i64 n1]) := bd_of (by kernel_rfl)
theorem bz276 : vBuild Tryz.prog 276 [] KV = KV (.agg #[.int .i64 0, .int .i64 0]) := bd_of (by kernel_rfl)
theorem fd276_0 (l : List Value) : vField Tryz.prog 276 (.agg l.toArray) 0 KV = vNth l 0 KV := fd_cell 276 0 l Tryz.underlying276 rfl (by kernel_rfl) (by kernel_rfl) (by kernel_rfl)
theorem fa276_0 (a : Addr) : vFieldAddr Tryz.prog 276 (.pointer (some a)) 0 KV = KV (.pointer (some (a.add 0))) := fa_st 276 0 a (m := 0) Tryz.underlying276 rfl (by kernel_rfl)
theorem fd276_1 (l : List Value) : vField Tryz.prog 276 (.agg l.toArray) 1 KV = vNth l 1 KV := fd_cell 276 1 l Tryz.underlying276 rfl (by kernel_rfl) (by kernel_rfl) (by kernel_rfl)
theorem fa276_1 (a : Addr) : vFieldAddr Tryz.prog 276 (.pointer (some a)) 1 KV = KV (.pointer (some (a.add 1))) := fa_st 276 1 a (m := 0) Tryz.underlying276 rfl (by kernel_rfl)
theorem sz277 : Tryz.prog.szo 277 = some 2 := by kernel_rfl
theorem ld277 (a : Addr) : vLoad Tryz.prog 277 (.pointer (some a)) w KV = ∃ cs : List Value, (cs.length = 2 ∧ Reads w a cs) ∧ KV (.agg cs.toArray) := ld_st 277 2 a _ Tryz.underlying277 (by kernel_rfl)
theorem bd277 (n0 : Int) (n1 : Int) : vBuild Tryz.prog 277 [(0, .int .i64 n0), (1, .int .i64 n1)] KV = KV (.agg #[.int .i64 n0, .int .i64 n1]) := bd_of (by kernel_rfl)
theorem bz277 : vBuild Tryz.prog 277 [] KV = KV (.agg #[.int .i64 0, .int .i64 0]) := bd_of (by kernel_rfl)
theorem fd277_0 (l : List Value) : vField Tryz.prog 277 (.agg l.toArray) 0 KV = vNth l 0 KV := fd_cell 277 0 l Tryz.underlying277 rfl (by kernel_rfl) (by kernel_rfl) (by kernel_rfl)
theorem fa277_0 (a : Addr) : vFieldAddr Tryz.prog 277 (.pointer (some a)) 0 KV = KV (.pointer (some (a.add 0))) := fa_st 277 0 a (m := 0) Tryz.underlying277 rfl (by kernel_rfl)
theorem fd277_1 (l : List Value) : vField Tryz.prog 277 (.agg l.toArray) 1 KV = vNth l 1 KV := fd_cell 277 1 l Tryz.underlying277 rfl (by kernel_rfl) (by kernel_rfl) (by kernel_rfl)
theorem fa277_1 (a : Addr) : vFieldAddr Tryz.prog 277 (.pointer (some a)) 1 KV = KV (.pointer (some (a.add 1))) := fa_st 277 1 a (m := 0) Tryz.underlying277 rfl (by kernel_rfl)
theorem sz278 : Tryz.prog.szo 278 = some 1 := by kernel_rfl
theorem ldf278 (a : Addr) : vLoad Tryz.prog 278 (.pointer (some a)) w KV = ∃ v, w.cell? a = some v ∧ KV v := ld_fn 278 _ _ _ a Tryz.underlying278
theorem fe278 (f : Fn) (x y : Array Value) (xo yo : Operand) : vBinO Tryz.prog .eql 278 xo yo (.func f x y) .nilFunc w KV = KV (.bool false) := be_fun Tryz.underlying278 f x y xo yo
theorem sz279 : Tryz.prog.szo 279 = some 1 := by kernel_rfl
theorem ldf279 (a : Addr) : vLoad Tryz.prog 279 (.pointer (some a)) w KV = ∃ v, w.cell? a = some v ∧ KV v := ld_fn 279 _ _ _ a Tryz.underlying279
theorem fe279 (f : Fn) (x y : Array Value) (xo yo : Operand) : vBinO Tryz.prog .eql 279 xo yo (.func f x y) .nilFunc w KV = KV (.bool false) := be_fun Tryz.underlying279 f x y xo yo
theorem sz280 : Tryz.prog.szo 280 = some 1 := by kernel_rfl
theorem ld280 (a : Addr) : vLoad Tryz.prog 280 (.pointer (some a)) w KV = ∃ cs : List Value, (cs.length = 1 ∧ Reads w a cs) ∧ KV (.agg cs.toArray) := ld_st 280 1 a _ Tryz.underlying280 (by kernel_rfl)
theorem bd280 (a0 : Option Addr) (n0 c0 : Nat) : vBuild Tryz.prog 280 [(0, .slice a0 n0 c0)] KV = KV (.agg #[.slice a0 n0 c0]) := bd_of (by kernel_rfl)
theorem bz280 : vBuild Tryz.prog 280 [] KV = KV (.agg #[.slice none 0 0]) := bd_of (by kernel_rfl)
theorem fd280_0 (l : List Value) : vField Tryz.prog 280 (.agg l.toArray) 0 KV = vNth l 0 KV := fd_cell 280 0 l Tryz.underlying280 rfl (by kernel_rfl) (by kernel_rfl) (by kernel_rfl)
theorem fa280_0 (a : Addr) : vFieldAddr Tryz.prog 280 (.pointer (some a)) 0 KV = KV (.pointer (some (a.add 0))) := fa_st 280 0 a (m := 0) Tryz.underlying280 rfl (by kernel_rfl)
theorem sz281 : Tryz.prog.szo 281 = some 1 := by kernel_rfl
theorem ld281 (a : Addr) : vLoad Tryz.prog 281 (.pointer (some a)) w KV = ∃ cs : List Value, (cs.length = 1 ∧ Reads w a cs) ∧ KV (.agg cs.toArray) := ld_st 281 1 a _ Tryz.underlying281 (by kernel_rfl)
theorem bd281 (a0 : Option Addr) (n0 c0 : Nat) : vBuild Tryz.prog 281 [(0, .slice a0 n0 c0)] KV = KV (.agg #[.slice a0 n0 c0]) := bd_of (by kernel_rfl)
theorem bz281 : vBuild Tryz.prog 281 [] KV = KV (.agg #[.slice none 0 0]) := bd_of (by kernel_rfl)
theorem fd281_0 (l : List Value) : vField Tryz.prog 281 (.agg l.toArray) 0 KV = vNth l 0 KV := fd_cell 281 0 l Tryz.underlying281 rfl (by kernel_rfl) (by kernel_rfl) (by kernel_rfl)
theorem fa281_0 (a : Addr) : vFieldAddr Tryz.prog 281 (.pointer (some a)) 0 KV = KV (.pointer (some (a.add 0))) := fa_st 281 0 a (m := 0) Tryz.underlying281 rfl (by kernel_rfl)
theorem sz282 : Tryz.prog.szo 282 = some 22 := by kernel_rfl
theorem ld282 (a : Addr) : vLoad Tryz.prog 282 (.pointer (some a)) w KV = ∃ cs : List Value, (cs.length = 22 ∧ Reads w a cs) ∧ KV (.agg cs.toArray) := ld_ar 282 22 22 3 a Tryz.underlying282 (by kernel_rfl)
theorem ln282 (v : Value) : vLen Tryz.prog 282 v KV = KV (.int .i64 ((22 : Nat) : Int)) := ln_ar 282 v Tryz.underlying282
theorem ixa282 (l : List Value) (k : IntKind) (i : Int) : vIndex Tryz.prog 282 (.agg l.toArray) (.int k i) KV = ((0 ≤ i ∧ i < ((22 : Nat) : Int)) ∧ vNth l i.toNat KV) := ix_agg 282 l k i Tryz.underlying282 (by kernel_rfl) (by kernel_rfl) (by kernel_rfl)
theorem ia282 (a : Addr) (k : IntKind) (i : Int) : vIndexAddr Tryz.prog 282 (.pointer (some a)) (.int k i) KV = ((0 ≤ i ∧ i < ((22 : Nat) : Int)) ∧ KV (.pointer (some (a.add (i.toNat * 1))))) := ia_ar 282 3 a 22 1 k i Tryz.underlying282 (by kernel_rfl)
theorem sz283 : Tryz.prog.szo 283 = some 68 := by kernel_rfl
theorem ld283 (a : Addr) : vLoad Tryz.prog 283 (.pointer (some a)) w KV = ∃ cs : List Value, (cs.length = 68 ∧ Reads w a cs) ∧ KV (.agg cs.toArray) := ld_st 283 68 a _ Tryz.underlying283 (by kernel_rfl)
theorem fd283_0 (l : List Value) : vField Tryz.prog 283 (.agg l.toArray) 0 KV = KV (.agg ((l.take 1).drop 0).toArray) := fd_agg 283 0 l 1 Tryz.underlying283 rfl (by kernel_rfl) (by kernel_rfl) (by kernel_rfl)
theorem fa283_0 (a : Addr) : vFieldAddr Tryz.prog 283 (.pointer (some a)) 0 KV = KV (.pointer (some (a.add 0))) := fa_st 283 0 a (m := 0) Tryz.underlying283 rfl (by kernel_rfl)
theorem fd283_1 (l : List Value) : vField Tryz.prog 283 (.agg l.toArray) 1 KV = vNth l 1 KV := fd_cell 283 1 l Tryz.underlying283 rfl (by kernel_rfl) (by kernel_rfl) (by kernel_rfl)
theorem fa283_1 (a : Addr) : vFieldAddr Tryz.prog 283 (.pointer (some a)) 1 KV = KV (.pointer (some (a.add 1))) := fa_st 283 1 a (m := 0) Tryz.underlying283 rfl (by kernel_rfl)
theorem fd283_2 (l : List Value) : vField Tryz.prog 283 (.agg l.toArray) 2 KV = KV (.agg ((l.take 24).drop 2).toArray) := fd_agg 283 2 l 22 Tryz.underlying283 rfl (by kernel_rfl) (by kernel_rfl) (by kernel_rfl)
theorem fa283_2 (a : Addr) : vFieldAddr Tryz.prog 283 (.pointer (some a)) 2 KV = KV (.pointer (some (a.add 2))) := fa_st 283 2 a (m := 21) Tryz.underlying283 rfl (by kernel_rfl)
theorem fd283_3 (l : List Value) : vField Tryz.prog 283 (.agg l.toArray) 3 KV = KV (.agg ((l.take 46).drop 24).toArray) := fd_agg 283 3 l 22 Tryz.underlying283 rfl (by kernel_rfl) (by kernel_rfl) (by kernel_rfl)
theorem fa283_3 (a : Addr) : vFieldAddr Tryz.prog 283 (.pointer (some a)) 3 KV = KV (.pointer (some (a.add 24))) := fa_st 283 3 a (m := 21) Tryz.underlying283 rfl (by kernel_rfl)
theorem fd283_4 (l : List Value) : vField Tryz.prog 283 (.agg l.toArray) 4 KV = KV (.agg ((l.take 68).drop 46).toArray) := fd_agg 283 4 l 22 Tryz.underlying283 rfl (by kernel_rfl) (by kernel_rfl) (by kernel_rfl)
theorem fa283_4 (a : Addr) : vFieldAddr Tryz.prog 283 (.pointer (some a)) 4 KV = KV (.pointer (some (a.add 46))) := fa_st 283 4 a (m := 21) Tryz.underlying283 rfl (by kernel_rfl)
theorem sz284 : Tryz.prog.szo 284 = some 68 := by kernel_rfl
theorem ld284 (a : Addr) : vLoad Tryz.prog 284 (.pointer (some a)) w KV = ∃ cs : List Value, (cs.length = 68 ∧ Reads w a cs) ∧ KV (.agg cs.toArray) := ld_st 284 68 a _ Tryz.underlying284 (by kernel_rfl)
theorem fd284_0 (l : List Value) : vField Tryz.prog 284 (.agg l.toArray) 0 KV = KV (.agg ((l.take 1).drop 0).toArray) := fd_agg 284 0 l 1 Tryz.underlying284 rfl (by kernel_rfl) (by kernel_rfl) (by kernel_rfl)
theorem fa284_0 (a : Addr) : vFieldAddr Tryz.prog 284 (.pointer (some a)) 0 KV = KV (.pointer (some (a.add 0))) := fa_st 284 0 a (m := 0) Tryz.underlying284 rfl (by kernel_rfl)
theorem fd284_1 (l : List Value) : vField Tryz.prog 284 (.agg l.toArray) 1 KV = vNth l 1 KV := fd_cell 284 1 l Tryz.underlying284 rfl (by kernel_rfl) (by kernel_rfl) (by kernel_rfl)
theorem fa284_1 (a : Addr) : vFieldAddr Tryz.prog 284 (.pointer (some a)) 1 KV = KV (.pointer (some (a.add 1))) := fa_st 284 1 a (m := 0) Tryz.underlying284 rfl (by kernel_rfl)
theorem fd284_2 (l : List Value) : vField Tryz.prog 284 (.agg l.toArray) 2 KV = KV (.agg ((l.take 24).drop 2).toArray) := fd_agg 284 2 l 22 Tryz.underlying284 rfl (by kernel_rfl) (by kernel_rfl) (by kernel_rfl)
theorem fa284_2 (a : Addr) : vFieldAddr Tryz.prog 284 (.pointer (some a)) 2 KV = KV (.pointer (some (a.add 2))) := fa_st 284 2 a (m := 21) Tryz.underlying284 rfl (by kernel_rfl)
theorem fd284_3 (l : List Value) : vField Tryz.prog 284 (.agg l.toArray) 3 KV = KV (.agg ((l.take 46).drop 24).toArray) := fd_agg 284 3 l 22 Tryz.underlying284 rfl (by kernel_rfl) (by kernel_rfl) (by kernel_rfl)
theorem fa284_3 (a : Addr) : vFieldAddr Tryz.prog 284 (.pointer (some a)) 3 KV = KV (.pointer (some (a.add 24))) := fa_st 284 3 a (m := 21) Tryz.underlying284 rfl (by kernel_rfl)
theorem fd284_4 (l : List Value) : vField Tryz.prog 284 (.agg l.toArray) 4 KV = KV (.agg ((l.take 68).drop 46).toArray) := fd_agg 284 4 l 22 Tryz.underlying284 rfl (by kernel_rfl) (by kernel_rfl) (by kernel_rfl)
theorem fa284_4 (a : Addr) : vFieldAddr Tryz.prog 284 (.pointer (some a)) 4 KV = KV (.pointer (some (a.add 46))) := fa_st 284 4 a (m := 21) Tryz.underlying284 rfl (by kernel_rfl)
theorem sz285 : Tryz.prog.szo 285 = some 1 := by kernel_rfl
theorem ldf285 (a : Addr) : vLoad Tryz.prog 285 (.pointer (some a)) w KV = ∃ v, w.cell? a = some v ∧ KV v := ld_fn 285 _ _ _ a Tryz.underlying285
theorem fe285 (f : Fn) (x y : Array Value) (xo yo : Operand) : vBinO Tryz.prog .eql 285 xo yo (.func f x y) .nilFunc w KV = KV (.bool false) := be_fun Tryz.underlying285 f x y xo yo
theorem sz286 : Tryz.prog.szo 286 = some 1 := by kernel_rfl
theorem ldf286 (a : Addr) : vLoad Tryz.prog 286 (.pointer (some a)) w KV = ∃ v, w.cell? a = some v ∧ KV v := ld_fn 286 _ _ _ a Tryz.underlying286
theorem fe286 (f : Fn) (x y : Array Value) (xo yo : Operand) : vBinO Tryz.prog .eql 286 xo yo (.func f x y) .nilFunc w KV = KV (.bool false) := be_fun Tryz.underlying286 f x y xo yo
theorem sz287 : Tryz.prog.szo 287 = some 1 := by kernel_rfl
theorem pe287 (a : Option Addr) (xo yo : Operand) : vBinO Tryz.prog .eql 287 xo yo (.pointer a) (.pointer none) w KV = KV (.bool a.isNone) := be_ptr Tryz.underlying287 a xo yo
theorem pn287 (a : Option Addr) (xo yo : Operand) : vBinO Tryz.prog .neq 287 xo yo (.pointer a) (.pointer none) w KV = KV (.bool !a.isNone) := bn_ptr Tryz.underlying287 a xo yo
theorem ld287 (a : Addr) : vLoad Tryz.prog 287 (.pointer (some a)) w KV = ∃ v, w.cell? a = some v ∧ KV v := ld_ptr 287 265 a Tryz.underlying287
theorem sz288 : Tryz.prog.szo 288 = some 24 := by kernel_rfl
theorem ld288 (a : Addr) : vLoad Tryz.prog 288 (.pointer (some a)) w KV = ∃ cs : List Value, (cs.length = 24 ∧ Reads w a cs) ∧ KV (.agg cs.toArray) := ld_ar 288 24 24 5 a Tryz.underlying288 (by kernel_rfl)
theorem ln288 (v : Value) : vLen Tryz.prog 288 v KV = KV (.int .i64 ((24 : Nat) : Int)) := ln_ar 288 v Tryz.underlying288
theorem ixa288 (l : List Value) (k : IntKind) (i : Int) : vIndex Tryz.prog 288 (.agg l.toArray) (.int k i) KV = ((0 ≤ i ∧ i < ((24 : Nat) : Int)) ∧ vNth l i.toNat KV) := ix_agg 288 l k i Tryz.underlying288 (by kernel_rfl) (by kernel_rfl) (by kernel_rfl)
theorem ia288 (a : Addr) (k : IntKind) (i : Int) : vIndexAddr Tryz.prog 288 (.pointer (some a)) (.int k i) KV = ((0 ≤ i ∧ i < ((24 : Nat) : Int)) ∧ KV (.pointer (some (a.add (i.toNat * 1))))) := ia_ar 288 5 a 24 1 k i Tryz.underlying288 (by kernel_rfl)
theorem sz289 : Tryz.prog.szo 289 = some 1 := by kernel_rfl
theorem ldf289 (a : Addr) : vLoad Tryz.prog 289 (.pointer (some a)) w KV = ∃ v, w.cell? a = some v ∧ KV v := ld_fn 289 _ _ _ a Tryz.underlying289
theorem fe289 (f : Fn) (x y : Array Value) (xo yo : Operand) : vBinO Tryz.prog .eql 289 xo yo (.func f x y) .nilFunc w KV = KV (.bool false) := be_fun Tryz.underlying289 f x y xo yo
theorem sz291 : Tryz.prog.szo 291 = some 1 := by kernel_rfl
theorem ldf291 (a : Addr) : vLoad Tryz.prog 291 (.pointer (some a)) w KV = ∃ v, w.cell? a = some v ∧ KV v := ld_fn 291 _ _ _ a Tryz.underlying291
theorem fe291 (f : Fn) (x y : Array Value) (xo yo : Operand) : vBinO Tryz.prog .eql 291 xo yo (.func f x y) .nilFunc w KV = KV (.bool false) := be_fun Tryz.underlying291 f x y xo yo
theorem sz292 : Tryz.prog.szo 292 = some 1 := by kernel_rfl
theorem ldf292 (a : Addr) : vLoad Tryz.prog 292 (.pointer (some a)) w KV = ∃ v, w.cell? a = some v ∧ KV v := ld_fn 292 _ _ _ a Tryz.underlying292
theorem fe292 (f : Fn) (x y : Array Value) (xo yo : Operand) : vBinO Tryz.prog .eql 292 xo yo (.func f x y) .nilFunc w KV = KV (.bool false) := be_fun Tryz.underlying292 f x y xo yo
theorem sz293 : Tryz.prog.szo 293 = some 1 := by kernel_rfl
theorem ldf293 (a : Addr) : vLoad Tryz.prog 293 (.pointer (some a)) w KV = ∃ v, w.cell? a = some v ∧ KV v := ld_fn 293 _ _ _ a Tryz.underlying293
theorem fe293 (f : Fn) (x y : Array Value) (xo yo : Operand) : vBinO Tryz.prog .eql 293 xo yo (.func f x y) .nilFunc w KV = KV (.bool false) := be_fun Tryz.underlying293 f x y xo yo
theorem sz294 : Tryz.prog.szo 294 = some 1 := by kernel_rfl
theorem ldf294 (a : Addr) : vLoad Tryz.prog 294 (.pointer (some a)) w KV = ∃ v, w.cell? a = some v ∧ KV v := ld_fn 294 _ _ _ a Tryz.underlying294
theorem fe294 (f : Fn) (x y : Array Value) (xo yo : Operand) : vBinO Tryz.prog .eql 294 xo yo (.func f x y) .nilFunc w KV = KV (.bool false) := be_fun Tryz.underlying294 f x y xo yo
theorem sz295 : Tryz.prog.szo 295 = some 1 := by kernel_rfl
theorem ldf295 (a : Addr) : vLoad Tryz.prog 295 (.pointer (some a)) w KV = ∃ v, w.cell? a = some v ∧ KV v := ld_fn 295 _ _ _ a Tryz.underlying295
theorem fe295 (f : Fn) (x y : Array Value) (xo yo : Operand) : vBinO Tryz.prog .eql 295 xo yo (.func f x y) .nilFunc w KV = KV (.bool false) := be_fun Tryz.underlying295 f x y xo yo
theorem sz296 : Tryz.prog.szo 296 = some 1 := by kernel_rfl
theorem ldf296 (a : Addr) : vLoad Tryz.prog 296 (.pointer (some a)) w KV = ∃ v, w.cell? a = some v ∧ KV v := ld_fn 296 _ _ _ a Tryz.underlying296
theorem fe296 (f : Fn) (x y : Array Value) (xo yo : Operand) : vBinO Tryz.prog .eql 296 xo yo (.func f x y) .nilFunc w KV = KV (.bool false) := be_fun Tryz.underlying296 f x y xo yo
theorem sz297 : Tryz.prog.szo 297 = some 1 := by kernel_rfl
theorem ldf297 (a : Addr) : vLoad Tryz.prog 297 (.pointer (some a)) w KV = ∃ v, w.cell? a = some v ∧ KV v := ld_fn 297 _ _ _ a Tryz.underlying297
theorem fe297 (f : Fn) (x y : Array Value) (xo yo : Operand) : vBinO Tryz.prog .eql 297 xo yo (.func f x y) .nilFunc w KV = KV (.bool false) := be_fun Tryz.underlying297 f x y xo yo
theorem sz298 : Tryz.prog.szo 298 = some 1 := by kernel_rfl
theorem ldf298 (a : Addr) : vLoad Tryz.prog 298 (.pointer (some a)) w KV = ∃ v, w.cell? a = some v ∧ KV v := ld_fn 298 _ _ _ a Tryz.underlying298
theorem fe298 (f : Fn) (x y : Array Value) (xo yo : Operand) : vBinO Tryz.prog .eql 298 xo yo (.func f x y) .nilFunc w KV = KV (.bool false) := be_fun Tryz.underlying298 f x y xo yo
theorem sz299 : Tryz.prog.szo 299 = some 1 := by kernel_rfl
theorem ldf299 (a : Addr) : vLoad Tryz.prog 299 (.pointer (some a)) w KV = ∃ v, w.cell? a = some v ∧ KV v := ld_fn 299 _ _ _ a Tryz.underlying299
theorem fe299 (f : Fn) (x y : Array Value) (xo yo : Operand) : vBinO Tryz.prog .eql 299 xo yo (.func f x y) .nilFunc w KV = KV (.bool false) := be_fun Tryz.underlying299 f x y xo yo
theorem sz300 : Tryz.prog.szo 300 = some 1 := by kernel_rfl
theorem ldf300 (a : Addr) : vLoad Tryz.prog 300 (.pointer (some a)) w KV = ∃ v, w.cell? a = some v ∧ KV v := ld_fn 300 _ _ _ a Tryz.underlying300
theorem fe300 (f : Fn) (x y : Array Value) (xo yo : Operand) : vBinO Tryz.prog .eql 300 xo yo (.func f x y) .nilFunc w KV = KV (.bool false) := be_fun Tryz.underlying300 f x y xo yo
theorem sz301 : Tryz.prog.szo 301 = some 256 := by kernel_rfl
theorem ld301 (a : Addr) : vLoad Tryz.prog 301 (.pointer (some a)) w KV = ∃ cs : List Value, (cs.length = 256 ∧ Reads w a cs) ∧ KV (.agg cs.toArray) := ld_ar 301 256 256 5 a Tryz.underlying301 (by kernel_rfl)
theorem ln301 (v : Value) : vLen Tryz.prog 301 v KV = KV (.int .i64 ((256 : Nat) : Int)) := ln_ar 301 v Tryz.underlying301
theorem ixa301 (l : List Value) (k : IntKind) (i : Int) : vIndex Tryz.prog 301 (.agg l.toArray) (.int k i) KV = ((0 ≤ i ∧ i < ((256 : Nat) : Int)) ∧ vNth l i.toNat KV) := ix_agg 301 l k i Tryz.underlying301 (by kernel_rfl) (by kernel_rfl) (by kernel_rfl)
theorem ia301 (a : Addr) (k : IntKind) (i : Int) : vIndexAddr Tryz.prog 301 (.pointer (some a)) (.int k i) KV = ((0 ≤ i ∧ i < ((256 : Nat) : Int)) ∧ KV (.pointer (some (a.add (i.toNat * 1))))) := ia_ar 301 5 a 256 1 k i Tryz.underlying301 (by kernel_rfl)
theorem sz302 : Tryz.prog.szo 302 = some 2 := by kernel_rfl
theorem ld302 (a : Addr) : vLoad Tryz.prog 302 (.pointer (some a)) w KV = ∃ cs : List Value, (cs.length = 2 ∧ Reads w a cs) ∧ KV (.agg cs.toArray) := ld_st 302 2 a _ Tryz.underlying302 (by kernel_rfl)
theorem bd302 (n0 : Int) (n1 : Int) : vBuild Tryz.prog 302 [(0, .int .u8 n0), (1, .int .u8 n1)] KV = KV (.agg #[.int .u8 n0, .int .u8 n1]) := bd_of (by kernel_rfl)
theorem bz302 : vBuild Tryz.prog 302 [] KV = KV (.agg #[.int .u8 0, .int .u8 0]) := bd_of (by kernel_rfl)
theorem fd302_0 (l : List Value) : vField Tryz.prog 302 (.agg l.toArray) 0 KV = vNth l 0 KV := fd_cell 302 0 l Tryz.underlying302 rfl (by kernel_rfl) (by kernel_rfl) (by kernel_rfl)
theorem fa302_0 (a : Addr) : vFieldAddr Tryz.prog 302 (.pointer (some a)) 0 KV = KV (.pointer (some (a.add 0))) := fa_st 302 0 a (m := 0) Tryz.underlying302 rfl (by kernel_rfl)
theorem fd302_1 (l : List Value) : vField Tryz.prog 302 (.agg l.toArray) 1 KV = vNth l 1 KV := fd_cell 302 1 l Tryz.underlying302 rfl (by kernel_rfl) (by kernel_rfl) (by kernel_rfl)
theorem fa302_1 (a : Addr) : vFieldAddr Tryz.prog 302 (.pointer (some a)) 1 KV = KV (.pointer (some (a.add 1))) := fa_st 302 1 a (m := 0) Tryz.underlying302 rfl (by kernel_rfl)
theorem sz303 : Tryz.prog.szo 303 = some 2 := by kernel_rfl
theorem ld303 (a : Addr) : vLoad Tryz.prog 303 (.pointer (some a)) w KV = ∃ cs : List Value, (cs.length = 2 ∧ Reads w a cs) ∧ KV (.agg cs.toArray) := ld_st 303 2 a _ Tryz.underlying303 (by kernel_rfl)
theorem bd303 (n0 : Int) (n1 : Int) : vBuild Tryz.prog 303 [(0, .int .u8 n0), (1, .int .u8 n1)] KV = KV (.agg #[.int .u8 n0, .int .u8 n1]) := bd_of (by kernel_rfl)
theorem bz303 : vBuild Tryz.prog 303 [] KV = KV (.agg #[.int .u8 0, .int .u8 0]) := bd_of (by kernel_rfl)
theorem fd303_0 (l : List Value) : vField Tryz.prog 303 (.agg l.toArray) 0 KV = vNth l 0 KV := fd_cell 303 0 l Tryz.underlying303 rfl (by kernel_rfl) (by kernel_rfl) (by kernel_rfl)
theorem fa303_0 (a : Addr) : vFieldAddr Tryz.prog 303 (.pointer (some a)) 0 KV = KV (.pointer (some (a.add 0))) := fa_st 303 0 a (m := 0) Tryz.underlying303 rfl (by kernel_rfl)
theorem fd303_1 (l : List Value) : vField Tryz.prog 303 (.agg l.toArray) 1 KV = vNth l 1 KV := fd_cell 303 1 l Tryz.underlying303 rfl (by kernel_rfl) (by kernel_rfl) (by kernel_rfl)
theorem fa303_1 (a : Addr) : vFieldAddr Tryz.prog 303 (.pointer (some a)) 1 KV = KV (.pointer (some (a.add 1))) := fa_st 303 1 a (m := 0) Tryz.underlying303 rfl (by kernel_rfl)
theorem sz304 : Tryz.prog.szo 304 = some 32 := by kernel_rfl
theorem ld304 (a : Addr) : vLoad Tryz.prog 304 (.pointer (some a)) w KV = ∃ cs : List Value, (cs.length = 32 ∧ Reads w a cs) ∧ KV (.agg cs.toArray) := ld_ar 304 32 16 303 a Tryz.underlying304 (by kernel_rfl)
theorem ln304 (v : Value) : vLen Tryz.prog 304 v KV = KV (.int .i64 ((16 : Nat) : Int)) := ln_ar 304 v Tryz.underlying304
theorem ia304 (a : Addr) (k : IntKind) (i : Int) : vIndexAddr Tryz.prog 304 (.pointer (some a)) (.int k i) KV = ((0 ≤ i ∧ i < ((16 : Nat) : Int)) ∧ KV (.pointer (some (a.add (i.toNat * 2))))) := ia_ar 304 303 a 16 2 k i Tryz.underlying304 (by kernel_rfl)
theorem sz305 : Tryz.prog.szo 305 = some 1 := by kernel_rfl
theorem ldf305 (a : Addr) : vLoad Tryz.prog 305 (.pointer (some a)) w KV = ∃ v, w.cell? a = some v ∧ KV v := ld_fn 305 _ _ _ a Tryz.underlying305
theorem fe305 (f : Fn) (x y : Array Value) (xo yo : Operand) : vBinO Tryz.prog .eql 305 xo yo (.func f x y) .nilFunc w KV = KV (.bool false) := be_fun Tryz.underlying305 f x y xo yo
theorem sz306 : Tryz.prog.szo 306 = some 20 := by kernel_rfl
theorem ld306 (a : Addr) : vLoad Tryz.prog 306 (.pointer (some a)) w KV = ∃ cs : List Value, (cs.length = 20 ∧ Reads w a cs) ∧ KV (.agg cs.toArray) := ld_ar 306 20 20 113 a Tryz.underlying306 (by kernel_rfl)
theorem ln306 (v : Value) : vLen Tryz.prog 306 v KV = KV (.int .i64 ((20 : Nat) : Int)) := ln_ar 306 v Tryz.underlying306
theorem ixa306 (l : List Value) (k : IntKind) (i : Int) : vIndex Tryz.prog 306 (.agg l.toArray) (.int k i) KV = ((0 ≤ i ∧ i < ((20 : Nat) : Int)) ∧ vNth l i.toNat KV) := ix_agg 306 l k i Tryz.underlying306 (by kernel_rfl) (by kernel_rfl) (by kernel_rfl)
theorem ia306 (a : Addr) (k : IntKind) (i : Int) : vIndexAddr Tryz.prog 306 (.pointer (some a)) (.int k i) KV = ((0 ≤ i ∧ i < ((20 : Nat) : Int)) ∧ KV (.pointer (some (a.add (i.toNat * 1))))) := ia_ar 306 113 a 20 1 k i Tryz.underlying306 (by kernel_rfl)
theorem sz307 : Tryz.prog.szo 307 = some 65 := by kernel_rfl
theorem ld307 (a : Addr) : vLoad Tryz.prog 307 (.pointer (some a)) w KV = ∃ cs : List Value, (cs.length = 65 ∧ Reads w a cs) ∧ KV (.agg cs.toArray) := ld_ar 307 65 65 5 a Tryz.underlying307 (by kernel_rfl)
theorem ln307 (v : Value) : vLen Tryz.prog 307 v KV = KV (.int .i64 ((65 : Nat) : Int)) := ln_ar 307 v Tryz.underlying307
theorem ixa307 (l : List Value) (k : IntKind) (i : Int) : vIndex Tryz.prog 307 (.agg l.toArray) (.int k i) KV = ((0 ≤ i ∧ i < ((65 : Nat) : Int)) ∧ vNth l i.toNat KV) := ix_agg 307 l k i Tryz.underlying307 (by kernel_rfl) (by kernel_rfl) (by kernel_rfl)
theorem ia307 (a : Addr) (k : IntKind) (i : Int) : vIndexAddr Tryz.prog 307 (.pointer (some a)) (.int k i) KV = ((0 ≤ i ∧ i < ((65 : Nat) : Int)) ∧ KV (.pointer (some (a.add (i.toNat * 1))))) := ia_ar 307 5 a 65 1 k i Tryz.underlying307 (by kernel_rfl)
theorem sz308 : Tryz.prog.szo 308 = some 1 := by kernel_rfl
theorem ldf308 (a : Addr) : vLoad Tryz.prog 308 (.pointer (some a)) w KV = ∃ v, w.cell? a = some v ∧ KV v := ld_fn 308 _ _ _ a Tryz.underlying308
theorem fe308 (f : Fn) (x y : Array Value) (xo yo : Operand) : vBinO Tryz.prog .eql 308 xo yo (.func f x y) .nilFunc w KV = KV (.bool false) := be_fun Tryz.underlying308 f x y xo yo
theorem sz309 : Tryz.prog.szo 309 = some 1 := by kernel_rfl
theorem ldf309 (a : Addr) : vLoad Tryz.prog 309 (.pointer (some a)) w KV = ∃ v, w.cell? a = some v ∧ KV v := ld_fn 309 _ _ _ a Tryz.underlying309
theorem fe309 (f : Fn) (x y : Array Value) (xo yo : Operand) : vBinO Tryz.prog .eql 309 xo yo (.func f x y) .nilFunc w KV = KV (.bool false) := be_fun Tryz.underlying309 f x y xo yo
theorem sz310 : Tryz.prog.szo 310 = some 1 := by kernel_rfl
theorem ldf310 (a : Addr) : vLoad Tryz.prog 310 (.pointer (some a)) w KV = ∃ v, w.cell? a = some v ∧ KV v := ld_fn 310 _ _ _ a Tryz.underlying310
theorem fe310 (f : Fn) (x y : Array Value) (xo yo : Operand) : vBinO Tryz.prog .eql 310 xo yo (.func f x y) .nilFunc w KV = KV (.bool false) := be_fun Tryz.underlying310 f x y xo yo
theorem sz311 : Tryz.prog.szo 311 = some 1 := by kernel_rfl
theorem ldf311 (a : Addr) : vLoad Tryz.prog 311 (.pointer (some a)) w KV = ∃ v, w.cell? a = some v ∧ KV v := ld_fn 311 _ _ _ a Tryz.underlying311
theorem fe311 (f : Fn) (x y : Array Value) (xo yo : Operand) : vBinO Tryz.prog .eql 311 xo yo (.func f x y) .nilFunc w KV = KV (.bool false) := be_fun Tryz.underlying311 f x y xo yo
theorem sz312 : Tryz.prog.szo 312 = some 1 := by kernel_rfl
theorem ldf312 (a : Addr) : vLoad Tryz.prog 312 (.pointer (some a)) w KV = ∃ v, w.cell? a = some v ∧ KV v := ld_fn 312 _ _ _ a Tryz.underlying312
theorem fe312 (f : Fn) (x y : Array Value) (xo yo : Operand) : vBinO Tryz.prog .eql 312 xo yo (.func f x y) .nilFunc w KV = KV (.bool false) := be_fun Tryz.underlying312 f x y xo yo
theorem sz313 : Tryz.prog.szo 313 = some 1 := by kernel_rfl
theorem ldf313 (a : Addr) : vLoad Tryz.prog 313 (.pointer (some a)) w KV = ∃ v, w.cell? a = some v ∧ KV v := ld_fn 313 _ _ _ a Tryz.underlying313
theorem fe313 (f : Fn) (x y : Array Value) (xo yo : Operand) : vBinO Tryz.prog .eql 313 xo yo (.func f x y) .nilFunc w KV = KV (.bool false) := be_fun Tryz.underlying313 f x y xo yo
theorem sz314 : Tryz.prog.szo 314 = some 1 := by kernel_rfl
theorem ldf314 (a : Addr) : vLoad Tryz.prog 314 (.pointer (some a)) w KV = ∃ v, w.cell? a = some v ∧ KV v := ld_fn 314 _ _ _ a Tryz.underlying314
theorem fe314 (f : Fn) (x y : Array Value) (xo yo : Operand) : vBinO Tryz.prog .eql 314 xo yo (.func f x y) .nilFunc w KV = KV (.bool false) := be_fun Tryz.underlying314 f x y xo yo
theorem sz315 : Tryz.prog.szo 315 = some 1 := by kernel_rfl
theorem ldf315 (a : Addr) : vLoad Tryz.prog 315 (.pointer (some a)) w KV = ∃ v, w.cell? a = some v ∧ KV v := ld_fn 315 _ _ _ a Tryz.underlying315
theorem fe315 (f : Fn) (x y : Array Value) (xo yo : Operand) : vBinO Tryz.prog .eql 315 xo yo (.func f x y) .nilFunc w KV = KV (.bool false) := be_fun Tryz.underlying315 f x y xo yo
theorem sz316 : Tryz.prog.szo 316 = some 1 := by kernel_rfl
theorem ldf316 (a : Addr) : vLoad Tryz.prog 316 (.pointer (some a)) w KV = ∃ v, w.cell? a = some v ∧ KV v := ld_fn 316 _ _ _ a Tryz.underlying316
theorem fe316 (f : Fn) (x y : Array Value) (xo yo : Operand) : vBinO Tryz.prog .eql 316 xo yo (.func f x y) .nilFunc w KV = KV (.bool false) := be_fun Tryz.underlying316 f x y xo yo
theorem sz317 : Tryz.prog.szo 317 = some 1 := by kernel_rfl
theorem ldf317 (a : Addr) : vLoad Tryz.prog 317 (.pointer (some a)) w KV = ∃ v, w.cell? a = some v ∧ KV v := ld_fn 317 _ _ _ a Tryz.underlying317
theorem fe317 (f : Fn) (x y : Array Value) (xo yo : Operand) : vBinO Tryz.prog .eql 317 xo yo (.func f x y) .nilFunc w KV = KV (.bool false) := be_fun Tryz.underlying317 f x y xo yo
theorem sz318 : Tryz.prog.szo 318 = some 1 := by kernel_rfl
theorem ldf318 (a : Addr) : vLoad Tryz.prog 318 (.pointer (some a)) w KV = ∃ v, w.cell? a = some v ∧ KV v := ld_fn 318 _ _ _ a Tryz.underlying318
theorem fe318 (f : Fn) (x y : Array Value) (xo yo : Operand) : vBinO Tryz.prog .eql 318 xo yo (.func f x y) .nilFunc w KV = KV (.bool false) := be_fun Tryz.underlying318 f x y xo yo
theorem sz319 : Tryz.prog.szo 319 = some 32 := by kernel_rfl
theorem ld319 (a : Addr) : vLoad Tryz.prog 319 (.pointer (some a)) w KV = ∃ cs : List Value, (cs.length = 32 ∧ Reads w a cs) ∧ KV (.agg cs.toArray) := ld_ar 319 32 32 5 a Tryz.underlying319 (by kernel_rfl)
theorem ln319 (v : Value) : vLen Tryz.prog 319 v KV = KV (.int .i64 ((32 : Nat) : Int)) := ln_ar 319 v Tryz.underlying319
theorem ixa319 (l : List Value) (k : IntKind) (i : Int) : vIndex Tryz.prog 319 (.agg l.toArray) (.int k i) KV = ((0 ≤ i ∧ i < ((32 : Nat) : Int)) ∧ vNth l i.toNat KV) := ix_agg 319 l k i Tryz.underlying319 (by kernel_rfl) (by kernel_rfl) (by kernel_rfl)
theorem ia319 (a : Addr) (k : IntKind) (i : Int) : vIndexAddr Tryz.prog 319 (.pointer (some a)) (.int k i) KV = ((0 ≤ i ∧ i < ((32 : Nat) : Int)) ∧ KV (.pointer (some (a.add (i.toNat * 1))))) := ia_ar 319 5 a 32 1 k i Tryz.underlying319 (by kernel_rfl)
theorem sz320 : Tryz.prog.szo 320 = some 64 := by kernel_rfl
theorem ld320 (a : Addr) : vLoad Tryz.prog 320 (.pointer (some a)) w KV = ∃ cs : List Value, (cs.length = 64 ∧ Reads w a cs) ∧ KV (.agg cs.toArray) := ld_ar 320 64 64 5 a Tryz.underlying320 (by kernel_rfl)
theorem ln320 (v : Value) : vLen Tryz.prog 320 v KV = KV (.int .i64 ((64 : Nat) : Int)) := ln_ar 320 v Tryz.underlying320
theorem ixa320 (l : List Value) (k : IntKind) (i : Int) : vIndex Tryz.prog 320 (.agg l.toArray) (.int k i) KV = ((0 ≤ i ∧ i < ((64 : Nat) : Int)) ∧ vNth l i.toNat KV) := ix_agg 320 l k i Tryz.underlying320 (by kernel_rfl) (by kernel_rfl) (by kernel_rfl)
theorem ia320 (a : Addr) (k : IntKind) (i : Int) : vIndexAddr Tryz.prog 320 (.pointer (some a)) (.int k i) KV = ((0 ≤ i ∧ i < ((64 : Nat) : Int)) ∧ KV (.pointer (some (a.add (i.toNat * 1))))) := ia_ar 320 5 a 64 1 k i Tryz.underlying320 (by kernel_rfl)
theorem sz321 : Tryz.prog.szo 321 = some 1 := by kernel_rfl
theorem ldf321 (a : Addr) : vLoad Tryz.prog 321 (.pointer (some a)) w KV = ∃ v, w.cell? a = some v ∧ KV v := ld_fn 321 _ _ _ a Tryz.underlying321
theorem fe321 (f : Fn) (x y : Array Value) (xo yo : Operand) : vBinO Tryz.prog .eql 321 xo yo (.func f x y) .nilFunc w KV = KV (.bool false) := be_fun Tryz.underlying321 f x y xo yo
theorem sz327 : Tryz.prog.szo 327 = some 1 := by kernel_rfl
theorem sz328 : Tryz.prog.szo 328 = some 1 := by kernel_rfl
theorem sz329 : Tryz.prog.szo 329 = some 1 := by kernel_rfl
theorem ldf329 (a : Addr) : vLoad Tryz.prog 329 (.pointer (some a)) w KV = ∃ v, w.cell? a = some v ∧ KV v := ld_fn 329 _ _ _ a Tryz.underlying329
theorem fe329 (f : Fn) (x y : Array Value) (xo yo : Operand) : vBinO Tryz.prog .eql 329 xo yo (.func f x y) .nilFunc w KV = KV (.bool false) := be_fun Tryz.underlying329 f x y xo yo
theorem sz330 : Tryz.prog.szo 330 = some 1 := by kernel_rfl
theorem sz331 : Tryz.prog.szo 331 = some 1 := by kernel_rfl
end
attribute [go_sem ↓] ldf1 fe1 ld2 cv2_2 cv2_3 cv2_5 cv2_12 cv2_21 cv2_24 cv2_90 cv2_108 cv2_113 cv2_130 cv2_189 ld3 cv3_2 cv3_3 cv3_5 cv3_12 cv3_21 cv3_24 cv3_90 cv3_108 cv3_113 cv3_130 cv3_189 ld4 beql4 bneq4 ld5 cv5_2 cv5_3 cv5_5 cv5_12 cv5_21 cv5_24 cv5_90 cv5_108 cv5_113 cv5_130 cv5_189 ln9 ix9 snn9 sln9 snh9 slh9 ld9 ld12 cv12_2 cv12_3 cv12_5 cv12_12 cv12_21 cv12_24 cv12_90 cv12_108 cv12_113 cv12_130 cv12_189 ld21 cv21_2 cv21_3 cv21_5 cv21_12 cv21_21 cv21_24 cv21_90 cv21_108 cv21_113 cv21_130 cv21_189 ln22 snn22 sln22 snh22 slh22 ia22 ld22 ldf23 fe23 ld24 cv24_2 cv24_3 cv24_5 cv24_12 cv24_21 cv24_24 cv24_90 cv24_108 cv24_113 cv24_130 cv24_189 ldf26 fe26 ldf28 fe28 ldf29 fe29 ldf30 fe30 ldf31 fe31 ldf32 fe32 ldf33 fe33 ld34 bd34 bz34 fd34_0 fa34_0 fd34_1 fa34_1 ld35 bd35 bz35 fd35_0 fa35_0 fd35_1 fa35_1 ldf37 fe37 ldf39 fe39 ldf40 fe40 ln41 snn41 sln41 snh41 slh41 ia41 ld41 ld42 bd42 bz42 fd42_0 fa42_0 fd42_1 fa42_1 ld43 bd43 bz43 fd43_0 fa43_0 fd43_1 fa43_1 ld44 fd44_0 fa44_0 fd44_1 fa44_1 ld45 fd45_0 fa45_0 fd45_1 fa45_1 ldf46 fe46 ln47 snn47 sln47 snh47 slh47 ia47 ld47 ldf48 fe48 ldf49 fe49 ldf50 fe50 ldf52 fe52 ldf54 fe54 ldf55 fe55 ln56 snn56 sln56 snh56 slh56 ia56 ld56 ldf58 fe58 ldf59 fe59 ln60 snn60 sln60 snh60 slh60 ia60 ld60 cv60_9 ldf63 fe63 ldf64 fe64 ldf65 fe65 ldf66 fe66 ldf67 fe67 ldf68 fe68 ldf69 fe69 ld70 ln70 ixa70 ia70 ld71 ln71 ixa71 ia71 ld72 fd72_0 fa72_0 fd72_1 fa72_1 fd72_2 fa72_2 fd72_3 fa72_3 fd72_4 fa72_4 fd72_5 fa72_5 fd72_6 fa72_6 fd72_7 fa72_7 ld73 fd73_0 fa73_0 fd73_1 fa73_1 fd73_2 fa73_2 fd73_3 fa73_3 fd73_4 fa73_4 fd73_5 fa73_5 fd73_6 fa73_6 fd73_7 fa73_7 ldf75 fe75 ln76 snn76 sln76 snh76 slh76 ia76 ld76 ldf78 fe78 ld79 bd79 bz79 fd79_0 fa79_0 fd79_1 fa79_1 ld80 bd80 bz80 fd80_0 fa80_0 fd80_1 fa80_1 ldf82 fe82 ldf83 fe83 ldf84 fe84 ldf85 fe85 ldf86 fe86 ldf87 fe87 ldf88 fe88 ldf89 fe89 ld90 cv90_2 cv90_3 cv90_5 cv90_12 cv90_21 cv90_24 cv90_90 cv90_108 cv90_113 cv90_130 cv90_189 ln91 snn91 sln91 snh91 slh91 ia91 ld91 ldf92 fe92 ldf93 fe93 ldf95 fe95 ldf96 fe96 ldf97 fe97 ldf98 fe98 ld99 bd99 bz99 fd99_0 fa99_0 fd99_1 fa99_1 ld100 bd100 bz100 fd100_0 fa100_0 fd100_1 fa100_1 ln101 snn101 sln101 snh101 slh101 ia101 ld101 ln102 snn102 sln102 snh102 slh102 ia102 ld102 ldf103 fe103 ldf104 fe104 ldf105 fe105 ldf107 fe107 ld108 cv108_2 cv108_3 cv108_5 cv108_12 cv108_21 cv108_24 cv108_90 cv108_108 cv108_113 cv108_130 cv108_189 ldf109 fe109 pe110 pn110 ld110 ldf111 fe111 ldf112 fe112 ld113 cv113_2 cv113_3 cv113_5 cv113_12 cv113_21 cv113_24 cv113_90 cv113_108 cv113_113 cv113_130 cv113_189 ldf114 fe114 ldf115 fe115 ldf116 fe116 ldf117 fe117 ldf118 fe118 ldf120 fe120 ldf121 fe121 ldf122 fe122 ldf123 fe123 ldf125 fe125 ldf127 fe127 ldf128 fe128 ldf129 fe129 ld130 cv130_2 cv130_3 cv130_5 cv130_12 cv130_21 cv130_24 cv130_90 cv130_108 cv130_113 cv130_130 cv130_189 ldf132 fe132 ldf133 fe133 ldf134 fe134 ldf136 fe136 ldf137 fe137 ldf138 fe138 ldf139 fe139 ldf140 fe140 ldf141 fe141 pe142 pn142 ld142 ld143 bd143 bz143 fd143_0 fa143_0 fd143_1 fa143_1 ld144 bd144 bz144 fd144_0 fa144_0 fd144_1 fa144_1 ldf145 fe145 ldf149 fe149 ldf150 fe150 ldf151 fe151 ldf152 fe152 ln153 snn153 sln153 snh153 slh153 ia153 ld153 ldf155 fe155 ldf156 fe156 ln157 snn157 sln157 snh157 slh157 ia157 ld157 ld158 bd158 bz158 fd158_0 fa158_0 fd158_1 fa158_1 ld159 bd159 bz159 fd159_0 fa159_0 fd159_1 fa159_1 ldf161 fe161 ldf162 fe162 ldf163 fe163 ldf164 fe164 ld165 bd165 bz165 fd165_0 fa165_0 fd165_1 fa165_1 ld166 bd166 bz166 fd166_0 fa166_0 fd166_1 fa166_1 ldf167 fe167 pe168 pn168 ld168 ldf169 fe169 ldf170 fe170 ldf172 fe172 ldf173 fe173 pe174 pn174 ld174 ld175 bd175 bz175 fd175_0 fa175_0 fd175_1 fa175_1 ld176 bd176 bz176 fd176_0 fa176_0 fd176_1 fa176_1 ldf178 fe178 ldf180 fe180 ldf182 fe182 ldf183 fe183 ldf184 fe184 ldf185 fe185 ldf186 fe186 ldf187 fe187 ldf188 fe188 ld189 cv189_2 cv189_3 cv189_5 cv189_12 cv189_21 cv189_24 cv189_90 cv189_108 cv189_113 cv189_130 cv189_189 ldf190 fe190 ldf191 fe191 ldf192 fe192 pe193 pn193 ld193 ldf194 fe194 ldf195 fe195 ldf196 fe196 ldf197 fe197 ldf199 fe199 ld200 bd200 bz200 fd200_0 fa200_0 fd200_1 fa200_1 ld201 bd201 bz201 fd201_0 fa201_0 fd201_1 fa201_1 ldf202 fe202 ldf203 fe203 ldf204 fe204 pe205 pn205 ld205 ldf206 fe206 ld207 ln207 ixa207 ia207 ldf208 fe208 ldf209 fe209 ldf210 fe210 ld211 ln211 ixa211 ia211 ldf212 fe212 ldf213 fe213 ldf214 fe214 ldf215 fe215 ld216 ln216 ixa216 ia216 ldf217 fe217 ldf218 fe218 ld219 bd219 bz219 fd219_0 fa219_0 fd219_1 fa219_1 fd219_2 fa219_2 ld220 bd220 bz220 fd220_0 fa220_0 fd220_1 fa220_1 fd220_2 fa220_2 ldf222 fe222 ldf224 fe224 ld225 bd225 bz225 fd225_0 fa225_0 ld226 bd226 bz226 fd226_0 fa226_0 ldf228 fe228 ldf229 fe229 ldf230 fe230 ldf231 fe231 ldf232 fe232 ldf233 fe233 ldf234 fe234 ldf235 fe235 ldf236 fe236 ldf237 fe237 pe238 pn238 ld238 ldf239 fe239 ldf240 fe240 ln241 snn241 sln241 snh241 slh241 ia241 ld241 ldf243 fe243 ld244 bd244 bz244 fd244_0 fa244_0 fd244_1 fa244_1 ld245 bd245 bz245 fd245_0 fa245_0 fd245_1 fa245_1 ldf246 fe246 ldf247 fe247 ldf248 fe248 ldf249 fe249 ldf250 fe250 ldf251 fe251 ldf252 fe252 pe253 pn253 ld253 ldf255 fe255 ldf256 fe256 ldf257 fe257 ldf258 fe258 ldf259 fe259 ldf260 fe260 ldf261 fe261 ldf262 fe262 ld263 ln263 ixa263 ia263 ld264 bd264 bz264 fd264_0 fa264_0 fd264_1 fa264_1 ld265 bd265 bz265 fd265_0 fa265_0 fd265_1 fa265_1 ldf266 fe266 ldf267 fe267 ldf269 fe269 ldf270 fe270 ldf271 fe271 ld272 ln272 ixa272 ia272 ldf273 fe273 ldf274 fe274 ln275 snn275 sln275 snh275 slh275 ia275 ld275 ld276 bd276 bz276 fd276_0 fa276_0 fd276_1 fa276_1 ld277 bd277 bz277 fd277_0 fa277_0 fd277_1 fa277_1 ldf278 fe278 ldf279 fe279 ld280 bd280 bz280 fd280_0 fa280_0 ld281 bd281 bz281 fd281_0 fa281_0 ld282 ln282 ixa282 ia282 ld283 fd283_0 fa283_0 fd283_1 fa283_1 fd283_2 fa283_2 fd283_3 fa283_3 fd283_4 fa283_4 ld284 fd284_0 fa284_0 fd284_1 fa284_1 fd284_2 fa284_2 fd284_3 fa284_3 fd284_4 fa284_4 ldf285 fe285 ldf286 fe286 pe287 pn287 ld287 ld288 ln288 ixa288 ia288 ldf289 fe289 ldf291 fe291 ldf292 fe292 ldf293 fe293 ldf294 fe294 ldf295 fe295 ldf296 fe296 ldf297 fe297 ldf298 fe298 ldf299 fe299 ldf300 fe300 ld301 ln301 ixa301 ia301 ld302 bd302 bz302 fd302_0 fa302_0 fd302_1 fa302_1 ld303 bd303 bz303 fd303_0 fa303_0 fd303_1 fa303_1 ld304 ln304 ia304 ldf305 fe305 ld306 ln306 ixa306 ia306 ld307 ln307 ixa307 ia307 ldf308 fe308 ldf309 fe309 ldf310 fe310 ldf311 fe311 ldf312 fe312 ldf313 fe313 ldf314 fe314 ldf315 fe315 ldf316 fe316 ldf317 fe317 ldf318 fe318 ld319 ln319 ixa319 ia319 ld320 ln320 ixa320 ia320 ldf321 fe321 ldf329 fe329
attribute [go_sem] sz1 sz2 cp2_2 cp2_3 cp2_5 cp2_12 cp2_21 cp2_24 cp2_90 cp2_108 cp2_113 cp2_130 cp2_189 sz3 cp3_2 cp3_3 cp3_5 cp3_12 cp3_21 cp3_24 cp3_90 cp3_108 cp3_113 cp3_130 cp3_189 sz4 sz5 cp5_2 cp5_3 cp5_5 cp5_12 cp5_21 cp5_24 cp5_90 cp5_108 cp5_113 cp5_130 cp5_189 sz6 sz9 sz12 cp12_2 cp12_3 cp12_5 cp12_12 cp12_21 cp12_24 cp12_90 cp12_108 cp12_113 cp12_130 cp12_189 sz20 sz21 cp21_2 cp21_3 cp21_5 cp21_12 cp21_21 cp21_24 cp21_90 cp21_108 cp21_113 cp21_130 cp21_189 sz22 sz23 sz24 cp24_2 cp24_3 cp24_5 cp24_12 cp24_21 cp24_24 cp24_90 cp24_108 cp24_113 cp24_130 cp24_189 sz26 sz28 sz29 sz30 sz31 sz32 sz33 sz34 sz35 sz37 sz39 sz40 sz41 sz42 sz43 sz44 sz45 sz46 sz47 sz48 sz49 sz50 sz52 sz54 sz55 sz56 sz58 sz59 sz60 cp60_9 cp9_60 sz61 sz63 sz64 sz65 sz66 sz67 sz68 sz69 sz70 sz71 sz72 sz73 sz75 sz76 sz78 sz79 sz80 sz82 sz83 sz84 sz85 sz86 sz87 sz88 sz89 sz90 cp90_2 cp90_3 cp90_5 cp90_12 cp90_21 cp90_24 cp90_90 cp90_108 cp90_113 cp90_130 cp90_189 sz91 sz92 sz93 sz95 sz96 sz97 sz98 sz99 sz100 sz101 sz102 sz103 sz104 sz105 sz107 sz108 cp108_2 cp108_3 cp108_5 cp108_12 cp108_21 cp108_24 cp108_90 cp108_108 cp108_113 cp108_130 cp108_189 sz109 sz110 sz111 sz112 sz113 cp113_2 cp113_3 cp113_5 cp113_12 cp113_21 cp113_24 cp113_90 cp113_108 cp113_113 cp113_130 cp113_189 sz114 sz115 sz116 sz117 sz118 sz120 sz121 sz122 sz123 sz125 sz127 sz128 sz129 sz130 cp130_2 cp130_3 cp130_5 cp130_12 cp130_21 cp130_24 cp130_90 cp130_108 cp130_113 cp130_130 cp130_189 sz132 sz133 sz134 sz136 sz137 sz138 sz139 sz140 sz141 sz142 sz143 sz144 sz145 sz146 sz147 sz149 sz150 sz151 sz152 sz153 sz155 sz156 sz157 sz158 sz159 sz161 sz162 sz163 sz164 sz165 sz166 sz167 sz168 sz169 sz170 sz172 sz173 sz174 sz175 sz176 sz178 sz180 sz182 sz183 sz184 sz185 sz186 sz187 sz188 sz189 cp189_2 cp189_3 cp189_5 cp189_12 cp189_21 cp189_24 cp189_90 cp189_108 cp189_113 cp189_130 cp189_189 sz190 sz191 sz192 sz193 sz194 sz195 sz196 sz197 sz199 sz200 sz201 sz202 sz203 sz204 sz205 sz206 sz207 sz208 sz209 sz210 sz211 sz212 sz213 sz214 sz215 sz216 sz217 sz218 sz219 sz220 sz222 sz224 sz225 sz226 sz228 sz229 sz230 sz231 sz232 sz233 sz234 sz235 sz236 sz237 sz238 sz239 sz240 sz241 sz242 sz243 sz244 sz245 sz246 sz247 sz248 sz249 sz250 sz251 sz252 sz253 sz255 sz256 sz257 sz258 sz259 sz260 sz261 sz262 sz263 sz264 sz265 sz266 sz267 sz269 sz270 sz271 sz272 sz273 sz274 sz275 sz276 sz277 sz278 sz279 sz280 sz281 sz282 sz283 sz284 sz285 sz286 sz287 sz288 sz289 sz291 sz292 sz293 sz294 sz295 sz296 sz297 sz298 sz299 sz300 sz301 sz302 sz303 sz304 sz305 sz306 sz307 sz308 sz309 sz310 sz311 sz312 sz313 sz314 sz315 sz316 sz317 sz318 sz319 sz320 sz321 sz327 sz328 sz329 sz330 sz331
theorem zi4 : (Tryz.prog.info? 4).map (fun i => (i.zero.map Value.cells, i.size, i.bytes)) = some (some #[.bool false], 1, 1) := by kernel_rfl
theorem zi5 : (Tryz.prog.info? 5).map (fun i => (i.zero.map Value.cells, i.size, i.bytes)) = some (some #[.int .u8 0], 1, 1) := by kernel_rfl
theorem zi9 : (Tryz.prog.info? 9).map (fun i => (i.zero.map Value.cells, i.size, i.bytes)) = some (some #[.string ⟨#[]⟩], 1, 16) := by kernel_rfl
theorem zi108 : (Tryz.prog.info? 108).map (fun i => (i.zero.map Value.cells, i.size, i.bytes)) = some (some #[.int .u32 0], 1, 4) := by kernel_rfl
theorem zi3 : (Tryz.prog.info? 3).map (fun i => (i.zero.map Value.cells, i.size, i.bytes)) = some (some #[.int .i64 0], 1, 8) := by kernel_rfl
theorem zi153 : (Tryz.prog.info? 153).map (fun i => (i.zero.map Value.cells, i.size, i.bytes)) = some (some #[.slice none 0 0], 1, 24) := by kernel_rfl
end Go.Proofs.YtoioaddfachjhaaGreatDoor
namespace Go.Proofs.YtoioaddfachjhaaGreatDoor
open Go Go.Eng
set_option maxRecDepth 100000
set_option linter.unusedSimpArgs false
set_option linter.unusedVariables false
theorem addr_add_add (p : Addr) (k j : Nat) : (p.add k).add j = p.add (k + j) := by
  unfold Addr.add
  by_cases h1 : k = 0 <;> by_cases h2 : j = 0 <;> simp_all <;> omega
theorem ex_hit {w : World} {a : Addr} {u : Value} {K : Value → Prop} (h : w.cell? a = some u) : (∃ v, w.cell? a = some v ∧ K v) = K u := by
  apply propext
  constructor
  · rintro ⟨v, hv, hk⟩
    rw [h] at hv
    cases hv
    exact hk
  · exact fun hk => ⟨u, h, hk⟩
theorem ex_reads {w : World} {a : Addr} {us : List Value} {n : Nat} {K : Value → Prop} (h : Reads w a us) (hn : us.length = n) : (∃ cs : List Value, (cs.length = n ∧ Reads w a cs) ∧ K (.agg cs.toArray)) = K (.agg us.toArray) := by
  apply propext
  constructor
  · rintro ⟨cs, ⟨hl, hr⟩, hk⟩
    have : cs = us := by
      apply List.ext_getElem
      · omega
      · intro i h1 h2
        have e1 := hr i _ (List.getElem?_eq_getElem h1)
        have e2 := h i _ (List.getElem?_eq_getElem h2)
        rw [e1] at e2
        exact Option.some.inj e2
    rw [← this]
    exact hk
  · exact fun hk => ⟨us, ⟨hn, h⟩, hk⟩
theorem MemK_callD {P : Program} {N : Nat} {d : Option Tmp} {ty : Nat} {pos : String} {af : Array Edge} {gd : Option (Nat × Bool)} {e : Env} {w : World} {R : Env → World → (Env → World → Prop) → Prop} {K : Env → World → Prop}
    {f : FuncId} {ao : Array Operand} {ts : Array TypeId} {vs : List Value} {F : Value → World → Prop} (hf : ∀ args w, (callFunc f args).run P w = .ok (.enter f args) w)
    (hD : Does P f vs.toArray w F) (ha : argL e ao.toList fun us => us = vs) (hC : ∀ v w', F v w' → R (e.put d v) w' K) :
    MemK P N ⟨d, .call { callee := .value (.func f), args := ao, argTypes := ts }, ty, pos, af, gd⟩ e w R K :=
  MemK_call hf (argL_mono' _ _ _ ha fun us _ h => h ▸ CallK.mk hD hC)
theorem gB_ntt {A B : Prop} : gB (!true) true A B = B := by simp [gB]
theorem gB_ntf {A B : Prop} : gB (!true) false A B = A := by simp [gB]
theorem gB_nft {A B : Prop} : gB (!false) true A B = A := by simp [gB]
theorem gB_nff {A B : Prop} : gB (!false) false A B = B := by simp [gB]
attribute [go_sem ↓] gB_ntt gB_ntf gB_nft gB_nff
theorem add_nought (p : Addr) : p.add 0 = p := by unfold Addr.add; simp
theorem take_snoc {α : Type} {l : List α} {i : Nat} {x : α} (h : l[i]? = some x) : l.take (i + 1) = l.take i ++ [x] := by
  rw [List.take_add_one, h]; rfl
def strsV (l : List (List UInt8)) : List Value := l.map Str
theorem strsV_len (l : List (List UInt8)) : (strsV l).length = l.length * 1 := by simp [strsV]
theorem strsV_one (l : List (List UInt8)) : ∀ v ∈ strsV l, v.oneCell' = true := by
  intro v hv
  obtain ⟨s, _, rfl⟩ := List.mem_map.1 hv
  rfl
theorem strsV_get {l : List (List UInt8)} {i : Nat} {s : List UInt8} (h : l[i]? = some s) : (strsV l)[i]? = some (Str s) := by simp [strsV, h]
theorem strsV_append (l m : List (List UInt8)) : strsV (l ++ m) = strsV l ++ strsV m := by simp [strsV]
@[simp] theorem strsV_length (l : List (List UInt8)) : (strsV l).length = l.length := by simp [strsV]
theorem strsV_set (l : List (List UInt8)) (i : Nat) (x : List UInt8) (h : i < l.length) : (strsV l).take i ++ [Str x] ++ (strsV l).drop (i + 1) = strsV (l.set i x) := by
  rw [List.set_eq_take_append_cons_drop, if_pos h]
  simp [strsV, List.map_take, List.map_drop]
theorem StoreK_rowD {P : Program} {w : World} {w0 : World} {B : List Nat} {G : List Res} (hH : Heap w0 B w G) (i : Nat) {o n cap sz : Nat} {ad ap : Addr} {T T' : TypeId} {xs vs : List Value} {v : Value} {C : World → Prop} (hi : G[i]? = some (Res.row T' sz (some ad) n cap xs)) (hp : ap = ad.add o) (hv : v.cells = vs.toArray) (hsz : P.szo T = some vs.length) (hl : o + vs.length ≤ xs.length) (h1 : ∀ u ∈ vs, u.oneCell' = true)
    (h : ∀ w', Heap w0 B w' (G.set i (Res.row T' sz (some ad) n cap (xs.take o ++ vs ++ xs.drop (o + vs.length)))) → w'.drawn = w.drawn → C w') : StoreK P T (.pointer (some ap)) v w C := by
  obtain ⟨h2, h3, h4, h5⟩ := hH.at i hi
  rcases h5 with h5 | ⟨g, rest, fz, hg0, hg, hl2, hfz⟩
  · cases h5.1
  · cases hg0
    subst hp
    have hlt : g < w.heap.size := (Array.getElem?_eq_some_iff.1 hg).1
    have hadd : (⟨g, 0, none⟩ : Addr).add o = ⟨g, o, none⟩ := by unfold Addr.add; split <;> simp_all
    rw [hadd]
    have hlen : o + vs.length ≤ (xs ++ rest).length := by simp; omega
    refine ⟨_, run_storeVar_blk hv hsz hg (by rw [hl2]; exact hfz) hlen h1, h _ (hH.set i hi (putBlk_upd _ _ _ _ _) ?_ ?_) rfl⟩
    · refine ⟨by simp; omega, h3, h4, .inr ⟨g, rest, fz, rfl, ?_, by simp at hl2 ⊢; omega, hfz⟩⟩
      rw [putBlk_at hlt]
      congr 3
      rw [List.take_append_of_le_length (by omega), List.drop_append_of_le_length (by omega)]
      simp
    · intro b hb
      exact ⟨.inl hb, by rw [putBlk_size]; simp [Res.row] at hb; omega⟩
theorem grown_of {w w' : World} (h : Heap w [] w' []) (hd : w'.drawn = w.drawn) : ∃ o, w' = Go.Sort.grow w o := by
  obtain ⟨⟨h1, h2, h3, h4, h5⟩, _⟩ := h
  refine ⟨w'.heap.extract w.heap.size w'.heap.size, ?_⟩
  have hh : w'.heap = w.heap ++ w'.heap.extract w.heap.size w'.heap.size := by
    apply Array.ext_getElem?
    intro k
    by_cases hk : k < w.heap.size
    · rw [Array.getElem?_append_left hk, h5 k hk (by simp)]
    · rw [Array.getElem?_append_right (by omega), Array.getElem?_extract]
      split
      · congr 1; omega
      · rw [Array.getElem?_eq_none (by omega)]
  obtain ⟨a, b, c, d, e⟩ := w
  obtain ⟨a', b', c', d', e'⟩ := w'
  simp only at h1 h2 h3 hd hh
  subst h1 h2 h3 hd
  unfold Go.Sort.grow
  congr 1
theorem strsV_rep (n : Nat) : List.replicate n (Value.string ⟨#[]⟩) = strsV (List.replicate n []) := by
  simp [strsV]
theorem does_same {P : Program} {f : FuncId} {args : Array Value} {w : World} {v : Value} (h : ∀ w, Calls P f args w fun e w' => e = .returned v ∧ w' = w) : Does P f args w fun u w' => w' = w ∧ u = v :=
  fun n => (h (w.drewN n)).mono fun e w' ⟨he, hw⟩ => ⟨v, w, n, he, hw, rfl, rfl⟩
end Go.Proofs.YtoioaddfachjhaaGreatDoor
namespace Go.Eng
open Go
set_option linter.unusedSimpArgs false
set_option linter.unusedVariables false
def Res.obj (l : Nat) (o : Obj) : Res := ⟨[l], fun w => w.heap[l]? = some o, fun _ _ h hh => (h l (by simp)).trans hh⟩
theorem Heap.newObj {w0 w : World} {B : List Nat} {G : List Res} (h : Heap w0 B w G) (o : Obj) : Heap w0 B (w.alloc o) (Res.obj w.heap.size o :: G) :=
  h.new _ (heap_alloc_new w o) (by simp [Res.obj])
theorem putObj_at {w : World} {l : Nat} {o : Obj} (h : l < w.heap.size) : (w.putObj l o).heap[l]? = some o := by
  simp [World.putObj, h]
theorem putObj_ne {w : World} {l k : Nat} {o : Obj} (h : k ≠ l) : (w.putObj l o).heap[k]? = w.heap[k]? := by
  simp only [World.putObj]
  rw [Array.getElem?_setIfInBounds_ne (by omega)]
theorem putObj_size {w : World} {l : Nat} {o : Obj} : (w.putObj l o).heap.size = w.heap.size := by simp [World.putObj]
theorem Heap.put {w0 w : World} {B : List Nat} {G : List Res} {l : Nat} {o : Obj} (h : Heap w0 B w (Res.obj l o :: G)) (o' : Obj) : Heap w0 B (w.putObj l o') (Res.obj l o' :: G) := by
  have hf := (h.foot _ (List.mem_cons_self ..) l (by simp [Res.obj])).2
  have hh : Heap w [l] (w.putObj l o') [Res.obj l o'] :=
    ⟨⟨rfl, rfl, rfl, by rw [putObj_size]; exact Nat.le_refl _, fun k _ hk => putObj_ne (by simpa using hk)⟩,
      fun r hr => by simp at hr; subst hr; exact putObj_at hf,
      fun r hr b hb => by simp at hr; subst hr; simp [Res.obj] at hb; subst hb; exact ⟨.inl (by simp), by rw [putObj_size]; exact hf⟩,
      List.pairwise_singleton _ _⟩
  have := Heap.call1 0 h rfl hh
  simpa using this
theorem Heap.under {w0 w : World} {B : List Nat} {F : List Res} (A G : List Res) (h : Heap w0 B w (A ++ (G ++ F))) : Heap w0 B w (G ++ (A ++ F)) := by
  refine h.perm ?_
  rw [← List.append_assoc, ← List.append_assoc]
  exact List.perm_append_comm.append_right F
theorem Heap.under1 {w0 w : World} {B : List Nat} {F : List Res} (r : Res) (A G : List Res) (h : Heap w0 B w (r :: (A ++ (G ++ F)))) : Heap w0 B w (r :: (G ++ (A ++ F))) := by
  refine h.perm (.cons _ ?_)
  rw [← List.append_assoc, ← List.append_assoc]
  exact List.perm_append_comm.append_right F
theorem Heap.under2 {w0 w : World} {B : List Nat} {F : List Res} (r s : Res) (A G : List Res) (h : Heap w0 B w (r :: s :: (A ++ (G ++ F)))) : Heap w0 B w (r :: s :: (G ++ (A ++ F))) := by
  refine h.perm (.cons _ (.cons _ ?_))
  rw [← List.append_assoc, ← List.append_assoc]
  exact List.perm_append_comm.append_right F
theorem Loop.same {r : Loop} (r1 : r.state = .ready) (r2 : r.pending = none) : ({ r with state := .ready, pending := none } : Loop) = r := by
  cases r
  simp only at r1 r2
  subst r1 r2
  rfl
theorem vcH_nil2 {P : Program} {N : Nat} {ops : List Oper} {w0 : World} {e : Env} {w : World} {K : Env → World → Prop} : vcH P N ops w0 [] e w K = K e w := rfl
def loopP (P : Program) (N : Nat) (post : Exit → Act → World → Prop) (k : List It) (n : Nat) (I : Nat → List Deferred → Env → World → Prop) : Exit → Act → World → Prop
  | .normal, a, w => ∃ D e w0 d, w = World.drewN w0 d ∧ FitsG N D e a ∧ ∃ m, m < n ∧ I m D e w0
  | ex, a, w => contG ⟨P, N, none, [], post⟩ k ex a w
theorem VG_loopD {P : Program} {N : Nat} {D : List Deferred} {post : Exit → Act → World → Prop} {k : List It} {e : Env} {w : World} {body : Code} (hk : noAgain k = true) (ks : List Nat) (I : Nat → List Deferred → Env → World → Prop) (n : Nat)
    (h0 : selK ks e fun e => I n D e w) (round : ∀ n D e w, I n D e w → VG ⟨P, N, none, D, loopP P N post k n I⟩ [.code body] e w) : VG ⟨P, N, none, D, post⟩ (.code (.loop body) :: k) e w := by
  intro a d ha
  refine wpIn_loop_any (fun n a w => ∃ D e w0 d, w = World.drewN w0 d ∧ FitsG N D e a ∧ I n D e w0) n ⟨D, _, w, d, rfl, ha.sel ks, (selK_spec ks e _).1 h0⟩ ?_
  rintro n a w ⟨D', e, w0, d, rfl, ha, hI⟩
  have h1 := round n D' e w0 hI a d ha
  simp only [contG] at h1
  refine wpIn_mono h1 fun ex a w hq => ?_
  cases ex with
  | normal => obtain ⟨D2, e', w1, d', hw, hf, m, hm, hI'⟩ := hq; exact ⟨m, hm, D2, e', w1, d', hw, hf, hI'⟩
  | _ => exact (contG_D (C := ⟨P, N, none, D, post⟩) [] hk).1 hq
theorem VG_nilD {P : Program} {N : Nat} {D : List Deferred} {post : Exit → Act → World → Prop} {k : List It} {e : Env} {w : World} {n : Nat} {I : Nat → List Deferred → Env → World → Prop} (ks : List Nat)
    (h : selK ks e fun e => ∃ m, m < n ∧ I m D e w) : VG ⟨P, N, none, D, loopP P N post k n I⟩ [] e w :=
  VG_nil fun a d ha => ⟨D, _, w, d, rfl, ha.sel ks, (selK_spec ks e _).1 h⟩
def markR (ms : List Nat) : List Res := ms.map fun r => Res.obj r (.deferred (some []))
theorem retN {P : Program} {fn : Func} {F : Value → World → Prop} {Pn : List PanicEntry → World → Prop} {N : Nat} {e : Env} {w0 w : World} {B : List Nat} {ms : List Nat} {G : List Res} (hH : Heap w0 B w (markR ms ++ G))
    (hx : ∀ w', Heap w0 B w' G → VX ⟨P, fn, F, N⟩ [] .ret e w') : ∀ a n, FitsG N (ms.map markD) e a → postG P fn F Pn .ret a (w.drewN n) := fun a n ha => by
  show LeavesInM _ _ _ _ _ _ a.defers _ _
  rw [ha.defers]
  have key : ∀ (ms : List Nat) (w : World), Heap w0 B w (markR ms ++ G) → LeavesInM Fence.wide 0 P fn a.tmps (endsP F Pn) (ms.map markD) .returning (w.drewN n) := by
    intro ms
    induction ms with
    | nil => intro w hH; exact post_res (hx w hH) ha
    | cons r ms ih =>
      intro w hH
      have hp := Heap.put (l := r) (o := .deferred (some [])) hH (.deferred none)
      exact ⟨by simp, .inl ⟨r, (w.putObj r (.deferred none)).drewN n, rfl, run_takeDeferred (w := w.drewN n) (hH.at 0 rfl), ih _ (hp.sub (List.sublist_cons_self _ _))⟩⟩
  exact key ms w hH
theorem round_env {r : Loop} {p : Nat} {v : Value} {e : Env} (r3 : r.params = #[p]) (hp : p < r.tmps.size) (r8 : ∀ t v, e.find? t = some v → r.tmps.getD t undef = v) :
    ∀ t u, Env.find? ((p, v) :: e) t = some u → ((r.params.zip [v].toArray).foldl (fun tmps (t, a) => tmps.setIfInBounds t a) r.tmps).getD t undef = u := by
  intro t u ht
  rw [r3, show (#[p].zip [v].toArray) = #[(p, v)] by first | rfl | simp | (apply Array.ext'; simp)]
  show (r.tmps.setIfInBounds p v).getD t undef = u
  rw [Env.find?] at ht
  split at ht
  · rename_i h46
    simp only at h46
    subst h46
    cases ht
    rw [Array.getD_eq_getD_getElem?, Array.getElem?_setIfInBounds_self_of_lt hp]
    rfl
  · rename_i h46
    rw [Array.getD_eq_getD_getElem?, Array.getElem?_setIfInBounds_ne (by exact fun h => h46 h.symm), ← Array.getD_eq_getD_getElem?]
    exact r8 t u ht
end Go.Eng
namespace Go.Eng
open Go
set_option linter.unusedSimpArgs false
set_option linter.unusedVariables false
theorem stepR_scope {P : Program} {b : Frame} {a : Act} {k : List Item} {cs : List Frame} {w : World} {c : Code} : step P (lone (b.atR a (.code (.scope c) :: k)) cs w) = .next (lone (b.atR a (.code c :: .inScope c :: k)) cs w) :=
  step_lone_go (by simp [stepG, stepG.exec, Frame.atR])
theorem stepR_inScope {P : Program} {b : Frame} {a : Act} {k : List Item} {cs : List Frame} {w : World} {c : Code} : step P (lone (b.atR a (.inScope c :: k)) cs w) = .next (lone (b.atR a k) cs w) :=
  step_lone_go (by simp [stepG, stepG.exec, Frame.atR])
theorem wpIn_scope {F : Fence} {m : Nat} {P : Program} {Q : Exit → Act → World → Prop} {c : Code} {a : Act} {w : World} (h : c.wpIn F m P (fun ex a w => match ex with | .goto _ => False | ex => Q ex a w) a w) : (Code.scope c).wpIn F m P Q a w := by
  intro b k cs hro hb hr
  have h0 : (lone (b.atR a (.code (.scope c) :: k)) cs w).fenced P F := fenced_calm hb hr rfl
  obtain ⟨e, a₁, w₁, hq, harr⟩ := h b (.inScope c :: k) cs hro hb hr
  cases e with
  | normal => exact ⟨.normal, a₁, w₁, hq, .head h0 stepR_scope (StepsIn.trans harr (.one (fenced_calm hb hr rfl) stepR_inScope))⟩
  | exit id' =>
    have hx : exitTo id' (.inScope c :: k) = exitTo id' k := by simp [exitTo]
    exact ⟨.exit id', a₁, w₁, hq, fun k' hk => .head h0 stepR_scope (harr.1 k' (by rw [hx]; exact hk)),
      fun hr' hk => let ⟨k₁, h1, h2⟩ := harr.2 hr' (by rw [hx]; exact hk); ⟨k₁, h1, .head h0 stepR_scope h2⟩⟩
  | goto l => exact hq.elim
  | ret => exact ⟨_, a₁, w₁, hq, .of_steps (.one h0 stepR_scope) harr⟩
  | panic ch => exact ⟨_, a₁, w₁, hq, .of_steps (.one h0 stepR_scope) harr⟩
  | outgrown => exact ⟨_, a₁, w₁, hq, .of_steps (.one h0 stepR_scope) harr⟩
theorem contG_goto {C : CtxG} (hC : ∀ l a w, ¬ C.post (.goto l) a w) {k : List It} {l : Nat} {a : Act} {w : World} (h : contG C k (.goto l) a w) : False := by
  induction k with
  | nil => exact hC _ _ _ h
  | cons x k ih => cases x <;> exact ih h
theorem VG_scope {C : CtxG} (hC : ∀ l a w, ¬ C.post (.goto l) a w) {k : List It} {e : Env} {w : World} {c : Code} (h : VG C (.code c :: k) e w) : VG C (.code (.scope c) :: k) e w := by
  intro a n ha
  have h1 := h a n ha
  simp only [contG] at h1 ⊢
  refine wpIn_scope (wpIn_mono h1 fun ex a w hq => ?_)
  cases ex with
  | goto l => exact (contG_goto hC hq).elim
  | _ => exact hq
theorem run_lit0 {P : Program} {T E : TypeId} {sz : Nat} (hu : P.underlying T = some (.slice E)) (hsz : P.szo E = some sz) (w : World) :
    (Instr.buildSlice T 0 #[]).run P w = .ok (.slice (some ⟨w.heap.size, 0, none⟩) 0 0) (w.alloc (.cells #[] E)) := by
  have hso := run_szo (P := P) hsz
  simp only [Instr.buildSlice, Sem.run_bind, run_underlying hu, hso, Result.andThen_ok]
  rw [if_neg (by simp), if_pos (by simp)]
  have hf : Instr.fill (fun i => some (i * sz, sz)) (#[] : Array Value) [] = some #[] := rfl
  have e2 : ((Array.range (0 * sz)).map fun x => (#[] : Array Value)[x % (#[] : Array Value).size]!) = #[] := by rw [Nat.zero_mul]; simp
  simp only [Sem.run_bind, Sem.run_pure, Result.andThen_ok, e2, hf, run_newRow]
theorem MemK_lit0 {P : Program} {N : Nat} {d : Option Tmp} {ty : Nat} {pos : String} {af : Array Edge} {gd : Option (Nat × Bool)} {e : Env} {w : World} {R : Env → World → (Env → World → Prop) → Prop} {K : Env → World → Prop} {w0 : World} {B : List Nat} {G : List Res} (hH : Heap w0 B w G) (k : Nat) {T E : TypeId} {z : Value}
    (hu : P.underlying T = some (.slice E)) (hsz : P.szo E = some k) (hz : P.zeroOf E = some z) (hzl : z.cells.toList.length = k)
    (h : ∀ g w', Heap w0 B w' (Res.row E k (some ⟨g, 0, none⟩) 0 0 [] :: G) → R (e.put d (.slice (some ⟨g, 0, none⟩) 0 0)) w' K) :
    MemK P N ⟨d, .buildSlice T 0 #[], ty, pos, af, gd⟩ e w R K := by
  refine Mem_of_run fun a m ha => ⟨.slice (some ⟨w.heap.size, 0, none⟩) 0 0, w.alloc (.cells #[] E), m, ?_, ?_⟩
  · have hr := run_lit0 (P := P) hu hsz (w.drewN m)
    simp only [execOp, Sem.run_bind, Array.map_empty, Sem.run_pure]
    rw [hr]
    rfl
  · have := hH.row E (n := 0) (cap := 0) (sz := k) [] [] (by simp) (by simp) (Nat.le_refl _) (by omega)
    exact h _ _ this
end Go.Eng
namespace Go.Proofs.YtoioaddfachjhaaGreatDoor
open Go Go.Eng
set_option maxRecDepth 100000
set_option linter.unusedSimpArgs false
set_option linter.unusedVariables false
def splitP : List UInt8 → List UInt8 × List (List UInt8)
  | [] => ([], [])
  | b :: s => if b = 47 then ([], (splitP s).1 :: (splitP s).2) else (b :: (splitP s).1, (splitP s).2)
def splitS (s : List UInt8) : List (List UInt8) := (splitP s).1 :: (splitP s).2
def joinS (l : List (List UInt8)) : List UInt8 := Lib.join l [47]
theorem splitP_cut {a : List UInt8} (r : List UInt8) (h : (47 : UInt8) ∉ a) : splitP (a ++ 47 :: r) = (a, splitS r) := by
  induction a with
  | nil => simp [splitP, splitS]
  | cons b a ih =>
    simp only [List.mem_cons, not_or] at h
    rw [List.cons_append, splitP, if_neg (fun e => h.1 e.symm), ih h.2]
theorem splitP_end {a : List UInt8} (h : (47 : UInt8) ∉ a) : splitP a = (a, []) := by
  induction a with
  | nil => rfl
  | cons b a ih =>
    simp only [List.mem_cons, not_or] at h
    rw [splitP, if_neg (fun e => h.1 e.symm), ih h.2]
theorem splitS_cut {a : List UInt8} (r : List UInt8) (h : (47 : UInt8) ∉ a) : splitS (a ++ 47 :: r) = a :: splitS r := by
  rw [splitS, splitP_cut r h]
theorem splitS_end {a : List UInt8} (h : (47 : UInt8) ∉ a) : splitS a = [a] := by
  rw [splitS, splitP_end h]
theorem split_cases (s : List UInt8) : (47 : UInt8) ∉ s ∨ ∃ a r, s = a ++ 47 :: r ∧ (47 : UInt8) ∉ a := by
  induction s with
  | nil => exact .inl (by simp)
  | cons b s ih =>
    by_cases hb : b = 47
    · exact .inr ⟨[], s, by simp [hb], by simp⟩
    · rcases ih with h | ⟨a, r, rfl, h⟩
      · exact .inl (by simp only [List.mem_cons, not_or]; exact ⟨fun e => hb e.symm, h⟩)
      · exact .inr ⟨b :: a, r, rfl, by simp only [List.mem_cons, not_or]; exact ⟨fun e => hb e.symm, h⟩⟩
theorem split_ind {P : List UInt8 → Prop} (h1 : ∀ a, (47 : UInt8) ∉ a → P a) (h2 : ∀ a r, (47 : UInt8) ∉ a → P r → P (a ++ 47 :: r)) : ∀ s, P s := by
  intro s
  generalize hn : s.length = n
  induction n using Nat.strongRecOn generalizing s with
  | ind n ih =>
    rcases split_cases s with h | ⟨a, r, rfl, h⟩
    · exact h1 s h
    · exact h2 a r h (ih r.length (by simp at hn; omega) r rfl)
theorem splitS_ne (s : List UInt8) : splitS s ≠ [] := by simp [splitS]
theorem splitS_no : ∀ s, ∀ x ∈ splitS s, (47 : UInt8) ∉ x := by
  refine split_ind (fun a h => ?_) (fun a r h ih => ?_)
  · rw [splitS_end h]; simpa using h
  · rw [splitS_cut r h]
    intro x hx
    rcases List.mem_cons.1 hx with rfl | hx
    · exact h
    · exact ih x hx
theorem joinS_cons (x y : List UInt8) (l : List (List UInt8)) : joinS (x :: y :: l) = x ++ 47 :: joinS (y :: l) := by
  simp only [joinS]
  rw [Lib.join_cons, Lib.join_cons]
  simp [Lib.joinTail]
theorem joinS_one (x : List UInt8) : joinS [x] = x := Lib.join_one x _
theorem joinS_nil : joinS [] = [] := rfl
theorem joinS_split : ∀ s, joinS (splitS s) = s := by
  refine split_ind (fun a h => ?_) (fun a r h ih => ?_)
  · rw [splitS_end h, joinS_one]
  · rw [splitS_cut r h]
    have e : splitS r = (splitP r).1 :: (splitP r).2 := rfl
    rw [e, joinS_cons, ← e, ih]
theorem splitS_join : ∀ l : List (List UInt8), l ≠ [] → (∀ x ∈ l, (47 : UInt8) ∉ x) → splitS (joinS l) = l := by
  intro l
  induction l with
  | nil => simp
  | cons x l ih =>
    intro _ h
    cases l with
    | nil => rw [joinS_one, splitS_end (h x (by simp))]
    | cons y l =>
      rw [joinS_cons, splitS_cut _ (h x (by simp)), ih (by simp) fun z hz => h z (List.mem_cons_of_mem _ hz)]
theorem splitS_inj {a b : List UInt8} (h : splitS a = splitS b) : a = b := by
  rw [← joinS_split a, h, joinS_split]
theorem splitS_app (a r : List UInt8) : splitS (a ++ 47 :: r) = splitS a ++ splitS r := by
  revert a
  refine split_ind (fun a h => ?_) (fun a q h ih => ?_)
  · rw [splitS_cut r h, splitS_end h]; rfl
  · rw [List.append_assoc, List.cons_append, splitS_cut _ h, splitS_cut _ h, ih]; rfl
theorem joinS_app {l m : List (List UInt8)} (hl : l ≠ []) (hm : m ≠ []) : joinS (l ++ m) = joinS l ++ 47 :: joinS m := by
  induction l with
  | nil => simp at hl
  | cons x l ih =>
    cases l with
    | nil =>
      cases m with
      | nil => simp at hm
      | cons y m => rw [List.singleton_append, joinS_cons, joinS_one]
    | cons y l => rw [List.cons_append, List.cons_append, joinS_cons, ← List.cons_append, ih (by simp), joinS_cons, List.append_assoc]; rfl
theorem joinS_len (l : List (List UInt8)) (h : l ≠ []) : (joinS l).length + 1 = (l.map fun x => x.length + 1).sum := by
  induction l with
  | nil => simp at h
  | cons x l ih =>
    cases l with
    | nil => simp [joinS_one]
    | cons y l =>
      rw [joinS_cons, List.map_cons, List.sum_cons, ← ih (by simp)]
      simp; omega
theorem splitS_count : ∀ s : List UInt8, (splitS s).length = s.count 47 + 1 := by
  refine split_ind (fun a h => ?_) (fun a r h ih => ?_)
  · rw [splitS_end h, List.count_eq_zero_of_not_mem h]; rfl
  · rw [splitS_cut r h, List.length_cons, ih, List.count_append, List.count_eq_zero_of_not_mem h, List.count_cons_self]; omega
theorem splitS_len (s : List UInt8) : (splitS s).length ≤ s.length + 1 := by
  rw [splitS_count]
  have := List.count_le_length (a := (47 : UInt8)) (l := s)
  omega
theorem splitS_mem_len : ∀ s : List UInt8, ∀ x ∈ splitS s, x.length ≤ s.length := by
  refine split_ind (fun a h x hx => ?_) (fun a r h ih x hx => ?_)
  · rw [splitS_end h] at hx; simp at hx; rw [hx]; exact Nat.le_refl _
  · rw [splitS_cut r h] at hx
    rcases List.mem_cons.1 hx with rfl | hx
    · simp
    · have := ih x hx; simp; omega
theorem indexByte_cut {a : List UInt8} (r : List UInt8) (h : (47 : UInt8) ∉ a) : Lib.indexByte (a ++ 47 :: r) 47 = a.length := by
  induction a with
  | nil => simp [Lib.indexByte]
  | cons b a ih =>
    simp only [List.mem_cons, not_or] at h
    have hb : (b == 47) = false := by simpa using fun e => h.1 (Eq.symm e)
    rw [List.cons_append, Lib.indexByte, if_neg (by simp [hb]), ih h.2, if_neg (by simp)]
    simp
theorem indexByte_none {a : List UInt8} (h : (47 : UInt8) ∉ a) : Lib.indexByte a 47 = -1 := by
  induction a with
  | nil => rfl
  | cons b a ih =>
    simp only [List.mem_cons, not_or] at h
    have hb : (b == 47) = false := by simpa using fun e => h.1 (Eq.symm e)
    rw [Lib.indexByte, if_neg (by simp [hb]), ih h.2]; rfl
def underS (dir p : List UInt8) : Bool := (dir ++ [47]).isPrefixOf p
theorem underS_iff (dir p : List UInt8) : underS dir p = true ↔ ∃ r, p = dir ++ 47 :: r := by
  rw [underS, List.isPrefixOf_iff_prefix]
  constructor
  · rintro ⟨r, rfl⟩; exact ⟨r, by simp⟩
  · rintro ⟨r, rfl⟩; exact ⟨r, by simp⟩
theorem underS_parts (dir p : List UInt8) : underS dir p = true ↔ ∃ r, r ≠ [] ∧ splitS p = splitS dir ++ r := by
  rw [underS_iff]
  constructor
  · rintro ⟨r, rfl⟩; exact ⟨splitS r, splitS_ne r, splitS_app dir r⟩
  · rintro ⟨r, hr, h⟩
    refine ⟨joinS r, ?_⟩
    rw [← joinS_split p, h, joinS_app (splitS_ne _) hr, joinS_split]
abbrev Parts := List (List UInt8)
def cmpL {α : Type} [LT α] [DecidableRel ((· < ·) : α → α → Prop)] (x y : α) : Int := if x < y then -1 else if y < x then 1 else 0
def cmpS (a b : List UInt8) : Int := cmpL (splitS a) (splitS b)
theorem compareBytes_eq : ∀ a b : List UInt8, Lib.compareBytes a b = cmpL a b
  | [], [] => by simp [Lib.compareBytes, cmpL]
  | [], b :: v => by simp [Lib.compareBytes, cmpL]
  | a :: u, [] => by simp [Lib.compareBytes, cmpL]
  | a :: u, b :: v => by
    have ih := compareBytes_eq u v
    rw [Lib.compareBytes, ih]
    unfold cmpL
    simp only [List.cons_lt_cons_iff]
    by_cases h1 : a < b
    · simp [h1]
    · by_cases h2 : b < a
      · have : ¬ a = b := fun e => by subst e; exact h1 h2
        simp [h1, h2, this]
      · have : a = b := UInt8.le_antisymm (UInt8.not_lt.1 h2) (UInt8.not_lt.1 h1)
        subst this
        simp [h1]
theorem lt_app_left (u : Parts) (x y : Parts) : u ++ x < u ++ y ↔ x < y := by
  induction u with
  | nil => simp
  | cons a u ih =>
    rw [List.cons_append, List.cons_append, List.cons_lt_cons_iff, ih]
    constructor
    · rintro (h | ⟨_, h⟩)
      · exact absurd h (List.lt_irrefl a)
      · exact h
    · exact fun h => .inr ⟨rfl, h⟩
theorem cmpL_app (u x y : Parts) : cmpL (u ++ x) (u ++ y) = cmpL x y := by
  unfold cmpL; simp only [lt_app_left]
theorem cmpL_head {a b : List UInt8} (h : a ≠ b) (x y : Parts) : cmpL (a :: x) (b :: y) = cmpL a b := by
  unfold cmpL
  simp only [List.cons_lt_cons_iff, h, fun e => h (Eq.symm e), false_and, or_false]
  simp [Ne.symm h]
theorem cmpL_nil_cons (b : List UInt8) (y : Parts) : cmpL ([] : Parts) (b :: y) = -1 := by simp [cmpL]
theorem cmpL_cons_nil (b : List UInt8) (y : Parts) : cmpL (b :: y) ([] : Parts) = 1 := by simp [cmpL]
theorem cmpL_self (x : Parts) : cmpL x x = 0 := by simp [cmpL, List.lt_irrefl]
theorem cmpL_lt {x y : Parts} : cmpL x y < 0 ↔ x < y := by
  unfold cmpL
  by_cases h : x < y
  · simp [h]
  · by_cases h2 : y < x <;> simp [h, h2]
theorem parts_tri {x y : Parts} (h1 : ¬ x < y) (h2 : ¬ y < x) : x = y := List.le_antisymm h2 h1
def okAsc (b : UInt8) : Bool := decide (32 ≤ b.toNat) && decide (b.toNat ≤ 126)
def keepP (x : List UInt8) : Bool := decide (x ≠ []) && decide (x ≠ [46])
def cleanS (s : List UInt8) : Option (List UInt8) :=
  if s.all okAsc = true ∧ ([46, 46] : List UInt8) ∉ splitS s ∧ joinS ((splitS s).filter keepP) ≠ [] ∧ (joinS ((splitS s).filter keepP)).length ≤ 120 then some (joinS ((splitS s).filter keepP)) else none
def cleanV (o : Option (List UInt8)) : Value := .tuple #[Str (o.getD []), .int .i64 (if o.isSome then 0 else 140)]
def checkP (s : List UInt8) : Int := if cleanS s = some s then 0 else 140
theorem join_filter_le (l : Parts) : (joinS (l.filter keepP)).length ≤ (joinS l).length := by
  by_cases h : l.filter keepP = []
  · rw [h]; exact Nat.zero_le _
  · have hl : l ≠ [] := by rintro rfl; exact h rfl
    have h1 := joinS_len _ h
    have h2 := joinS_len _ hl
    have h3 : ∀ m : Parts, ((m.filter keepP).map fun x => x.length + 1).sum ≤ (m.map fun x => x.length + 1).sum := by
      intro m
      induction m with
      | nil => simp
      | cons x m ih =>
        by_cases hx : keepP x = true
        · simp [List.filter_cons, hx]; omega
        · simp [List.filter_cons, hx]; omega
    have := h3 l
    omega
theorem cleanS_self {s : List UInt8} (h : cleanS s = some s) : s.all okAsc = true ∧ s.length ≤ 120 ∧ ∀ x ∈ splitS s, x ≠ [] ∧ x ≠ [46] ∧ x ≠ [46, 46] := by
  unfold cleanS at h
  split at h
  · rename_i hh
    obtain ⟨h1, h2, h3, h4⟩ := hh
    have h5 := Option.some.inj h
    rw [h5] at h4
    refine ⟨h1, h4, ?_⟩
    have hall : ∀ l : Parts, joinS (l.filter keepP) = joinS l → l.filter keepP ≠ [] → ∀ x ∈ l, keepP x = true := by
      intro l he hne x hx
      have hl : l ≠ [] := by rintro rfl; simp at hx
      have e1 := joinS_len _ hne
      have e2 := joinS_len _ hl
      rw [he] at e1
      have key : ∀ m : Parts, ((m.filter keepP).map fun x => x.length + 1).sum ≤ (m.map fun x => x.length + 1).sum ∧ (x ∈ m → ¬ keepP x = true → ((m.filter keepP).map fun x => x.length + 1).sum < (m.map fun x => x.length + 1).sum) := by
        intro m
        induction m with
        | nil => simp
        | cons y m ih =>
          by_cases hy : keepP y = true
          · simp only [List.filter_cons, hy, if_true, List.map_cons, List.sum_cons]
            refine ⟨by omega, fun hm hk => ?_⟩
            rcases List.mem_cons.1 hm with rfl | hm
            · exact absurd hy hk
            · have := ih.2 hm hk; omega
          · simp only [List.filter_cons, hy, List.map_cons, List.sum_cons]
            refine ⟨?_, fun hm hk => ?_⟩
            · simp; omega
            · simp; omega
      rcases Bool.eq_false_or_eq_true (keepP x) with hk | hk
      · exact hk
      · have := (key l).2 hx (by simp [hk]); omega
    have hne : (splitS s).filter keepP ≠ [] := by
      intro e; rw [e] at h3; exact h3 rfl
    have := hall (splitS s) (by rw [h5, joinS_split]) hne
    intro x hx
    have hk := this x hx
    simp [keepP] at hk
    exact ⟨hk.1, hk.2, fun e => h2 (e ▸ hx)⟩
  · cases h
theorem cleanS_of {s : List UInt8} (h1 : s.all okAsc = true) (h2 : s.length ≤ 120) (h3 : ∀ x ∈ splitS s, x ≠ [] ∧ x ≠ [46] ∧ x ≠ [46, 46]) : cleanS s = some s := by
  have hf : (splitS s).filter keepP = splitS s := by
    rw [List.filter_eq_self]
    intro x hx
    have := h3 x hx
    simp [keepP, this.1, this.2.1]
  have hne : s ≠ [] := by
    rintro rfl
    exact (h3 [] (by simp [splitS, splitP])).1 rfl
  unfold cleanS
  rw [hf, joinS_split, if_pos ⟨h1, fun hm => (h3 _ hm).2.2 rfl, hne, h2⟩]
end Go.Proofs.YtoioaddfachjhaaGreatDoor
namespace Go.Proofs.YtoioaddfachjhaaGreatDoor
open Go.Shelf
def laysJoin_ren : Go.Shelf.Ren := ⟨fun | 156 => 135 | 165 => 107 | 166 => 89 | 169 => 90 | 240 => 143 | 241 => 162 | 276 => 186 | 277 => 199 | n => n, fun | 31 => 91 | 9 => 9 | 3 => 3 | 4 => 4 | 0 => 0 | 20 => 20 | 72 => 144 | 76 => 148 | 70 => 142 | 37 => 60 | 75 => 147 | 127 => 205 | 164 => 242 | 5 => 5 | 80 => 116 | n => n, fun | n => n⟩
theorem laysJoin : Go.Proofs.Lays.n156 Tryz.prog laysJoin_ren := {
  mixed := by kernel_rfl
  f156 := Tryz.func135.trans (congrArg some (by kernel_rfl))
  f165 := Tryz.func107.trans (congrArg some (by kernel_rfl))
  f166 := Tryz.func89.trans (congrArg some (by kernel_rfl))
  f169 := Tryz.func90.trans (congrArg some (by kernel_rfl))
  f240 := Tryz.func143.trans (congrArg some (by kernel_rfl))
  f241 := Tryz.func162.trans (congrArg some (by kernel_rfl))
  f276 := Tryz.func186.trans (congrArg some (by kernel_rfl))
  f277 := Tryz.func199.trans (congrArg some (by kernel_rfl))
  t0 := Tryz.underlying0
  a0 := Tryz.isAgg0
  z0 := Tryz.sizeOf0
  v0 := Tryz.zeroValue0
  t3 := Tryz.underlying3
  a3 := Tryz.isAgg3
  z3 := Tryz.sizeOf3
  v3 := Tryz.zeroValue3
  t4 := Tryz.underlying4
  a4 := Tryz.isAgg4
  z4 := Tryz.sizeOf4
  v4 := Tryz.zeroValue4
  t9 := Tryz.underlying9
  a9 := Tryz.isAgg9
  z9 := Tryz.sizeOf9
  v9 := Tryz.zeroValue9
  t20 := Tryz.underlying20
  a20 := Tryz.isAgg20
  z20 := Tryz.sizeOf20
  v20 := Tryz.zeroValue20
  t31 := Tryz.underlying91
  a31 := Tryz.isAgg91
  z31 := Tryz.sizeOf91
  v31 := Tryz.zeroValue91
  t37 := Tryz.underlying60
  a37 := Tryz.isAgg60
  z37 := Tryz.sizeOf60
  v37 := Tryz.zeroValue60
  t70 := Tryz.underlying142
  a70 := Tryz.isAgg142
  z70 := Tryz.sizeOf142
  v70 := Tryz.zeroValue142
  t72 := Tryz.underlying144
  a72 := Tryz.isAgg144
  z72 := Tryz.sizeOf144
  v72 := Tryz.zeroValue144
  t75 := Tryz.underlying147
  a75 := Tryz.isAgg147
  z75 := Tryz.sizeOf147
  v75 := Tryz.zeroValue147
  t76 := Tryz.underlying148
  a76 := Tryz.isAgg148
  z76 := Tryz.sizeOf148
  v76 := Tryz.zeroValue148
  t127 := Tryz.underlying205
  a127 := Tryz.isAgg205
  z127 := Tryz.sizeOf205
  v127 := Tryz.zeroValue205
  t164 := Tryz.underlying242
  a164 := Tryz.isAgg242
  z164 := Tryz.sizeOf242
  v164 := Tryz.zeroValue242 }
def laysIndex_ren : Go.Shelf.Ren := ⟨fun | 143 => 141 | 219 => 164 | 217 => 183 | 225 => 204 | 224 => 205 | 267 => 206 | 266 => 217 | 314 => 227 | n => n, fun | 9 => 9 | 3 => 3 | 4 => 4 | 5 => 5 | 46 => 90 | 146 => 221 | 51 => 108 | n => n, fun | 1 => 0 | n => n⟩
theorem laysIndex : Go.Proofs.Lays.n143 Tryz.prog laysIndex_ren := {
  mixed := by kernel_rfl
  f143 := Tryz.func141.trans (congrArg some (by kernel_rfl))
  f217 := Tryz.func183.trans (congrArg some (by kernel_rfl))
  f219 := Tryz.func164.trans (congrArg some (by kernel_rfl))
  f224 := Tryz.func205.trans (congrArg some (by kernel_rfl))
  f225 := Tryz.func204.trans (congrArg some (by kernel_rfl))
  f266 := Tryz.func217.trans (congrArg some (by kernel_rfl))
  f267 := Tryz.func206.trans (congrArg some (by kernel_rfl))
  f314 := Tryz.func227.trans (congrArg some (by kernel_rfl))
  t3 := Tryz.underlying3
  a3 := Tryz.isAgg3
  z3 := Tryz.sizeOf3
  v3 := Tryz.zeroValue3
  t4 := Tryz.underlying4
  a4 := Tryz.isAgg4
  z4 := Tryz.sizeOf4
  v4 := Tryz.zeroValue4
  t5 := Tryz.underlying5
  a5 := Tryz.isAgg5
  z5 := Tryz.sizeOf5
  v5 := Tryz.zeroValue5
  t9 := Tryz.underlying9
  a9 := Tryz.isAgg9
  z9 := Tryz.sizeOf9
  v9 := Tryz.zeroValue9
  t46 := Tryz.underlying90
  a46 := Tryz.isAgg90
  z46 := Tryz.sizeOf90
  v46 := Tryz.zeroValue90
  t51 := Tryz.underlying108
  a51 := Tryz.isAgg108
  z51 := Tryz.sizeOf108
  v51 := Tryz.zeroValue108
  t146 := Tryz.underlying221
  a146 := Tryz.isAgg221
  z146 := Tryz.sizeOf221
  v146 := Tryz.zeroValue221
  g1 := by kernel_rfl }
def laysLIndex_ren : Go.Shelf.Ren := ⟨fun | 219 => 164 | 217 => 183 | 225 => 204 | 224 => 205 | 267 => 206 | 266 => 217 | 314 => 227 | n => n, fun | 9 => 9 | 3 => 3 | 4 => 4 | 5 => 5 | 46 => 90 | 146 => 221 | 51 => 108 | n => n, fun | 1 => 0 | n => n⟩
theorem laysLIndex : Go.Proofs.Lays.n219 Tryz.prog laysLIndex_ren := {
  mixed := by kernel_rfl
  f217 := Tryz.func183.trans (congrArg some (by kernel_rfl))
  f219 := Tryz.func164.trans (congrArg some (by kernel_rfl))
  f224 := Tryz.func205.trans (congrArg some (by kernel_rfl))
  f225 := Tryz.func204.trans (congrArg some (by kernel_rfl))
  f266 := Tryz.func217.trans (congrArg some (by kernel_rfl))
  f267 := Tryz.func206.trans (congrArg some (by kernel_rfl))
  f314 := Tryz.func227.trans (congrArg some (by kernel_rfl))
  t3 := Tryz.underlying3
  a3 := Tryz.isAgg3
  z3 := Tryz.sizeOf3
  v3 := Tryz.zeroValue3
  t4 := Tryz.underlying4
  a4 := Tryz.isAgg4
  z4 := Tryz.sizeOf4
  v4 := Tryz.zeroValue4
  t5 := Tryz.underlying5
  a5 := Tryz.isAgg5
  z5 := Tryz.sizeOf5
  v5 := Tryz.zeroValue5
  t9 := Tryz.underlying9
  a9 := Tryz.isAgg9
  z9 := Tryz.sizeOf9
  v9 := Tryz.zeroValue9
  t46 := Tryz.underlying90
  a46 := Tryz.isAgg90
  z46 := Tryz.sizeOf90
  v46 := Tryz.zeroValue90
  t51 := Tryz.underlying108
  a51 := Tryz.isAgg108
  z51 := Tryz.sizeOf108
  v51 := Tryz.zeroValue108
  t146 := Tryz.underlying221
  a146 := Tryz.isAgg221
  z146 := Tryz.sizeOf221
  v146 := Tryz.zeroValue221
  g1 := by kernel_rfl }
def laysCount_ren : Go.Shelf.Ren := ⟨fun | 138 => 182 | 195 => 214 | 218 => 216 | 143 => 141 | 219 => 164 | 217 => 183 | 225 => 204 | 224 => 205 | 267 => 206 | 266 => 217 | 314 => 227 | n => n, fun | 9 => 9 | 3 => 3 | 4 => 4 | 5 => 5 | 0 => 0 | 46 => 90 | 146 => 221 | 51 => 108 | n => n, fun | 1 => 0 | n => n⟩
theorem laysCount : Go.Proofs.Lays.n138 Tryz.prog laysCount_ren := {
  mixed := by kernel_rfl
  f138 := Tryz.func182.trans (congrArg some (by kernel_rfl))
  f143 := Tryz.func141.trans (congrArg some (by kernel_rfl))
  f195 := Tryz.func214.trans (congrArg some (by kernel_rfl))
  f217 := Tryz.func183.trans (congrArg some (by kernel_rfl))
  f218 := Tryz.func216.trans (congrArg some (by kernel_rfl))
  f219 := Tryz.func164.trans (congrArg some (by kernel_rfl))
  f224 := Tryz.func205.trans (congrArg some (by kernel_rfl))
  f225 := Tryz.func204.trans (congrArg some (by kernel_rfl))
  f266 := Tryz.func217.trans (congrArg some (by kernel_rfl))
  f267 := Tryz.func206.trans (congrArg some (by kernel_rfl))
  f314 := Tryz.func227.trans (congrArg some (by kernel_rfl))
  t0 := Tryz.underlying0
  a0 := Tryz.isAgg0
  z0 := Tryz.sizeOf0
  v0 := Tryz.zeroValue0
  t3 := Tryz.underlying3
  a3 := Tryz.isAgg3
  z3 := Tryz.sizeOf3
  v3 := Tryz.zeroValue3
  t4 := Tryz.underlying4
  a4 := Tryz.isAgg4
  z4 := Tryz.sizeOf4
  v4 := Tryz.zeroValue4
  t5 := Tryz.underlying5
  a5 := Tryz.isAgg5
  z5 := Tryz.sizeOf5
  v5 := Tryz.zeroValue5
  t9 := Tryz.underlying9
  a9 := Tryz.isAgg9
  z9 := Tryz.sizeOf9
  v9 := Tryz.zeroValue9
  t46 := Tryz.underlying90
  a46 := Tryz.isAgg90
  z46 := Tryz.sizeOf90
  v46 := Tryz.zeroValue90
  t51 := Tryz.underlying108
  a51 := Tryz.isAgg108
  z51 := Tryz.sizeOf108
  v51 := Tryz.zeroValue108
  t146 := Tryz.underlying221
  a146 := Tryz.isAgg221
  z146 := Tryz.sizeOf221
  v146 := Tryz.zeroValue221
  g1 := by kernel_rfl }
def laysCompare_ren : Go.Shelf.Ren := ⟨fun | 106 => 46 | 213 => 82 | 265 => 133 | n => n, fun | 9 => 9 | 3 => 3 | n => n, fun | n => n⟩
theorem laysCompare : Go.Proofs.Lays.n106 Tryz.prog laysCompare_ren := {
  mixed := by kernel_rfl
  f106 := Tryz.func46.trans (congrArg some (by kernel_rfl))
  f213 := Tryz.func82.trans (congrArg some (by kernel_rfl))
  f265 := Tryz.func133.trans (congrArg some (by kernel_rfl))
  t3 := Tryz.underlying3
  a3 := Tryz.isAgg3
  z3 := Tryz.sizeOf3
  v3 := Tryz.zeroValue3
  t9 := Tryz.underlying9
  a9 := Tryz.isAgg9
  z9 := Tryz.sizeOf9
  v9 := Tryz.zeroValue9 }
end Go.Proofs.YtoioaddfachjhaaGreatDoor
namespace Go.Proofs.YtoioaddfachjhaaGreatDoor
open Go Go.Eng
set_option maxRecDepth 100000
set_option linter.unusedSimpArgs false
set_option linter.unusedVariables false
abbrev slV : Value := Str [47]
theorem index_does (s : List UInt8) (w : World) : Does Tryz.prog 141 #[Str s, slV] w fun v w' => w' = w ∧ v = .int .i64 (Lib.indexByte s 47) :=
  does_same fun w => Go.Proofs.Any.strings_Index_one laysIndex ⟨s.toArray⟩ 47 w
theorem lindex_does (s : List UInt8) (w : World) : Does Tryz.prog 164 #[Str s, slV] w fun v w' => w' = w ∧ v = .int .i64 (Lib.indexByte s 47) :=
  does_same fun w => Go.Proofs.Any.stringslite_Index_one laysLIndex ⟨s.toArray⟩ 47 w
theorem count_does (s : List UInt8) (w : World) : Does Tryz.prog 182 #[Str s, slV] w fun v w' => w' = w ∧ v = .int .i64 (s.count 47 : Nat) :=
  does_same fun w => Go.Proofs.Any.strings_Count_one laysCount ⟨s.toArray⟩ 47 w
theorem compare_does (s t : List UInt8) (w : World) : Does Tryz.prog 46 #[Str s, Str t] w fun v w' => w' = w ∧ v = .int .i64 (cmpL s t) := by
  rw [← compareBytes_eq]
  exact does_same fun w => Go.Proofs.Any.strings_Compare laysCompare ⟨s.toArray⟩ ⟨t.toArray⟩ w
def cutV (s : List UInt8) : Value := .tuple #[Str (splitP s).1, Str (s.drop ((splitP s).1.length + 1)), .bool (decide ((47 : UInt8) ∈ s))]
theorem lcut_does (s : List UInt8) (w : World) (hs : s.length ≤ 140737488355328) : Does Tryz.prog 113 #[Str s, slV] w fun v w' => w' = w ∧ v = cutV s := by
  refine Does_enter (args := [Str s, slV]) 23 Tryz.func113 rfl rfl (of_decide_eq_true rfl) ?_
  simp only [Env.ofArgs]
  refine VR [0, 1] rfl rfl fun K hK => ?_; simp only [go_sem,↓reduceIte,Nat.reduceEqDiff]
  ((repeat refine And.intro (by omega) ?_); refine hK _ _ ?_; clear hK)
  refine VR [0, 1, 7] rfl rfl fun K hK => ?_; simp only [go_sem,↓reduceIte,Nat.reduceEqDiff]
  refine MemK_call Tryz.call164 ?_; simp only [go_sem,↓reduceIte,Nat.reduceEqDiff]; refine CallK.mk (lindex_does s w) ?_
  rintro v w2 ⟨rfl, rfl⟩
  (try simp only [go_sem,↓reduceIte,Nat.reduceEqDiff])
  (refine hK _ _ ?_; clear hK)
  rcases split_cases s with hc | ⟨a, r, rfl, hc⟩
  · rw [indexByte_none hc]
    refine VR [0, 1, 7, 12] rfl rfl fun K hK => ?_; simp only [go_sem,↓reduceIte,Nat.reduceEqDiff]
    ((repeat refine And.intro (by omega) ?_); refine hK _ _ ?_; clear hK)
    refine VC_cond rfl rfl (fun h => by simp at h) (fun h => VC_skip ?_)
    refine VR [4, 5, 6] rfl rfl fun K hK => ?_; simp only [go_sem,↓reduceIte,Nat.reduceEqDiff]
    ((repeat refine And.intro (by omega) ?_); refine hK _ _ ?_; clear hK)
    refine VC_ret (VX_ret3 rfl rfl rfl rfl ⟨rfl, ?_⟩)
    simp only [cutV, splitP_end hc]
    rw [List.drop_eq_nil_of_le (by omega)]
    simp [hc]
  · rw [indexByte_cut r hc]
    simp only [List.length_append, List.length_cons] at hs
    refine VR [0, 1, 7, 12] rfl rfl fun K hK => ?_; simp only [go_sem,↓reduceIte,Nat.reduceEqDiff]
    ((repeat refine And.intro (by omega) ?_); refine hK _ _ ?_; clear hK)
    refine VC_cond rfl rfl (fun h => ?_) (fun h => by simp at h)
    (repeat refine VC_seq ?_); refine VC_regionQ [4, 5, 6] (by kernel_rfl) (by kernel_rfl) rfl fun K hK => ?_; simp only [go_sem,↓reduceIte,Nat.reduceEqDiff]
    simp only [List.length_append, List.length_cons, List.length_nil]
    (repeat first | refine And.intro (by omega) ?_ | refine ⟨⟨by omega, by omega⟩, ?_⟩)
    (refine hK _ ?_; clear hK)
    refine VC_ret (VX_ret3 rfl rfl rfl rfl ⟨rfl, ?_⟩)
    simp only [cutV, splitP_cut r hc]
    simp
theorem cut_does (s : List UInt8) (w : World) (hs : s.length ≤ 140737488355328) : Does Tryz.prog 64 #[Str s, slV] w fun v w' => w' = w ∧ v = cutV s := by
  refine Does_enter (args := [Str s, slV]) 13 Tryz.func64 rfl rfl (of_decide_eq_true rfl) ?_
  simp only [Env.ofArgs]
  refine VR [0, 1] rfl rfl fun K hK => ?_; simp only [go_sem,↓reduceIte,Nat.reduceEqDiff]
  ((repeat refine And.intro (by omega) ?_); refine hK _ _ ?_; clear hK)
  refine VR [4, 5, 6] rfl rfl fun K hK => ?_; simp only [go_sem,↓reduceIte,Nat.reduceEqDiff]
  refine MemK_call Tryz.call113 ?_; simp only [go_sem,↓reduceIte,Nat.reduceEqDiff]; refine CallK.mk (lcut_does s w hs) ?_
  rintro v w2 ⟨rfl, rfl⟩
  (try simp only [go_sem,↓reduceIte,Nat.reduceEqDiff])
  (refine hK _ _ ?_; clear hK)
  exact VC_ret (VX_ret3 rfl rfl rfl rfl ⟨rfl, rfl⟩)
theorem gensplit_does (s : List UInt8) (w : World) (hs : s.length ≤ 1000000000) : Does Tryz.prog 132 #[Str s, slV, .int .i64 0, .int .i64 (-1)] w fun v w' =>
    ∃ g, v = .slice (some ⟨g, 0, none⟩) (splitS s).length (splitS s).length ∧ Heap w [] w' [Res.row 9 1 (some ⟨g, 0, none⟩) (splitS s).length (splitS s).length (strsV (splitS s))] ∧ w'.drawn = w.drawn := by
  have hcnt := splitS_count s
  have hlen := splitS_len s
  refine Does_enter (args := [Str s, slV, .int .i64 0, .int .i64 (-1)]) 66 Tryz.func132 rfl rfl (of_decide_eq_true rfl) ?_
  simp only [Env.ofArgs]
  refine VR [0, 1, 2, 3] rfl rfl fun K hK => ?_; simp only [go_sem,↓reduceIte,Nat.reduceEqDiff]
  ((repeat refine And.intro (by omega) ?_); refine hK _ _ ?_; clear hK)
  refine VR [0, 1, 2, 3, 13] rfl rfl fun K hK => ?_; simp only [go_sem,↓reduceIte,Nat.reduceEqDiff]
  ((repeat refine And.intro (by omega) ?_); refine hK _ _ ?_; clear hK)
  refine VC_cond rfl rfl (fun h => by simp at h) (fun h => VC_skip ?_)
  refine VR [0, 1, 2, 3, 15] rfl rfl fun K hK => ?_; simp only [go_sem,↓reduceIte,Nat.reduceEqDiff]
  ((repeat refine And.intro (by omega) ?_); refine hK _ _ ?_; clear hK)
  refine VC_cond rfl rfl (fun h => by simp at h) (fun h => VC_skip ?_)
  refine VR [0, 1, 2, 3, 20] rfl rfl fun K hK => ?_; simp only [go_sem,↓reduceIte,Nat.reduceEqDiff]
  ((repeat refine And.intro (by omega) ?_); refine hK _ _ ?_; clear hK)
  refine VC_cond rfl rfl (fun h => ?_) (fun h => by simp at h)
  clear h
  refine VR [0, 1, 2, 3] rfl rfl fun K hK => ?_; simp only [go_sem,↓reduceIte,Nat.reduceEqDiff]
  refine MemK_call Tryz.call182 ?_; simp only [go_sem,↓reduceIte,Nat.reduceEqDiff]; refine CallK.mk (count_does s w) ?_
  rintro v w2 ⟨rfl, rfl⟩
  (try simp only [go_sem,↓reduceIte,Nat.reduceEqDiff])
  refine And.intro (I64.mk (by omega) (by omega)) ?_
  (refine hK _ _ ?_; clear hK)
  generalize hn : (splitS s).length = n at *
  have hn0 : 0 < n := by omega
  rw [show (((s.count 47 : Nat) : Int) + 1) = (n : Int) by omega]
  refine VR [0, 1, 2, 3] rfl rfl fun K hK => ?_; simp only [go_sem,↓reduceIte,Nat.reduceEqDiff]
  refine And.intro (I64.mk (by omega) (by omega)) ?_
  rw [show min (n : Int) ((s.length : Int) + 1) = (n : Int) by omega]
  (refine hK _ _ ?_; clear hK)
  refine VR [0, 1, 2, 3, 9] rfl rfl fun K hK => ?_; simp only [go_sem,↓reduceIte,Nat.reduceEqDiff]
  refine MemK_make Tryz.underlying91 zi9 ?_
  simp only [go_sem,↓reduceIte,Nat.reduceEqDiff]
  refine ⟨n, n, ⟨rfl, rfl, by omega, by omega, by omega⟩, ?_⟩
  have hD : (w2.alloc (Obj.cells (List.replicate n (Value.string ⟨#[]⟩)).toArray 9)).drawn = w2.drawn := rfl
  have hH := (Heap.start w2).row 9 (sz := 1) (n := n) (cap := n) (strsV (List.replicate n [])) [] (by simp [strsV]) (by simp [strsV]) (by omega) (by omega)
  rw [strsV_rep] at hD ⊢
  rw [List.append_nil] at hH
  generalize w2.alloc (Obj.cells (strsV (List.replicate n [])).toArray 9) = w3 at *
  generalize w2.heap.size = g at *
  (try simp only [go_sem,↓reduceIte,Nat.reduceEqDiff])
  (refine hK _ _ ?_; clear hK)
  refine VR [0, 1, 2, 3, 9] rfl rfl fun K hK => ?_; simp only [go_sem,↓reduceIte,Nat.reduceEqDiff]
  refine And.intro (I64.mk (by omega) (by omega)) ?_
  (refine hK _ _ ?_; clear hK)
  refine VR [0, 1, 2, 3, 9, 10] rfl rfl fun K hK => ?_; simp only [go_sem,↓reduceIte,Nat.reduceEqDiff]
  ((repeat refine And.intro (by omega) ?_); refine hK _ _ ?_; clear hK)
  (repeat refine VC_seq ?_)
  refine VC_cut [0, 9, 10] (fun e w' => ∃ (dn : List (List UInt8)) (r : List UInt8), splitS s = dn ++ [r] ∧ Is e [(0, Str r), (9, .slice (some ⟨g, 0, none⟩) n n), (10, .int .i64 dn.length)] ∧ Heap w2 [] w' [Res.row 9 1 (some ⟨g, 0, none⟩) n n (strsV (dn ++ List.replicate (n - dn.length) []))] ∧ w'.drawn = w2.drawn) ?_ ?_
  · refine VC_block ?_
    refine VC_loopS [0, 1, 2, 3, 9, 10] (fun m e w' => ∃ (dn : List (List UInt8)) (r : List UInt8), splitS s = dn ++ splitS r ∧ Is e [(0, Str r), (1, slV), (2, .int .i64 0), (3, .int .i64 ((n : Int) - 1)), (9, .slice (some ⟨g, 0, none⟩) n n), (10, .int .i64 dn.length)] ∧ Heap w2 [] w' [Res.row 9 1 (some ⟨g, 0, none⟩) n n (strsV (dn ++ List.replicate (n - dn.length) []))] ∧ w'.drawn = w2.drawn ∧ m = n - dn.length) n ?_ ?_
    · simp only [go_sem,↓reduceIte,Nat.reduceEqDiff]
      exact ⟨[], s, rfl, rfl, by simpa using hH, hD, rfl⟩
    clear hH hD
    rintro m e w4 ⟨dn, r, hsp, rfl, hH, hD, rfl⟩
    have hdl : n = dn.length + (splitS r).length := by rw [← hn, hsp, List.length_append]
    have hrl : r.length ≤ s.length := by
      have h1 := joinS_split s
      rw [hsp] at h1
      rw [← h1]
      cases dn with
      | nil => rw [List.nil_append, joinS_split]; exact Nat.le_refl _
      | cons x dn => rw [joinS_app (by simp) (splitS_ne r), joinS_split]; simp; omega
    refine VR [0, 1, 2, 3, 9, 10, 36] rfl rfl fun K hK => ?_; simp only [go_sem,↓reduceIte,Nat.reduceEqDiff]
    ((repeat refine And.intro (by omega) ?_); refine hK _ _ ?_; clear hK)
    refine VC_cond rfl rfl (fun h => ?_) (fun h => ?_)
    · simp only [decide_eq_true_eq] at h
      refine VC_skip ?_
      ((repeat refine VC_seq ?_); refine VC_block ?_)
      refine VR [0, 1, 2, 3, 9, 10, 11] rfl rfl fun K hK => ?_; simp only [go_sem,↓reduceIte,Nat.reduceEqDiff]
      refine MemK_call Tryz.call141 ?_; simp only [go_sem,↓reduceIte,Nat.reduceEqDiff]; refine CallK.mk (index_does r w4) ?_
      rintro v w5 ⟨rfl, rfl⟩
      (try simp only [go_sem,↓reduceIte,Nat.reduceEqDiff])
      (refine hK _ _ ?_; clear hK)
      rcases split_cases r with hc | ⟨a, q, rfl, hc⟩
      · exfalso
        rw [splitS_end hc] at hdl
        simp at hdl
        omega
      rw [splitS_cut q hc] at hsp hdl
      rw [indexByte_cut q hc]
      simp only [List.length_append, List.length_cons] at hrl hdl
      refine VR [0, 1, 2, 3, 9, 10, 11, 41] rfl rfl fun K hK => ?_; simp only [go_sem,↓reduceIte,Nat.reduceEqDiff]
      ((repeat refine And.intro (by omega) ?_); refine hK _ _ ?_; clear hK)
      refine VC_cond rfl rfl (fun h2 => by simp at h2; omega) (fun h2 => VC_skip ?_)
      clear h2
      refine VR [0, 1, 2, 3, 9, 10, 11] rfl rfl fun K hK => ?_; simp only [go_sem,↓reduceIte,Nat.reduceEqDiff]
      simp only [List.length_append, List.length_cons, List.length_nil]
      (repeat first | refine And.intro (by omega) ?_ | refine ⟨⟨by omega, by omega⟩, ?_⟩)
      (try simp only [go_sem,↓reduceIte,Nat.reduceEqDiff])
      (repeat first | refine And.intro (by omega) ?_ | refine ⟨⟨by omega, by omega⟩, ?_⟩)
      (try simp only [go_sem,↓reduceIte,Nat.reduceEqDiff])
      have hset : (strsV (dn ++ List.replicate (n - dn.length) [])).take dn.length ++ [Str a] ++ (strsV (dn ++ List.replicate (n - dn.length) [])).drop (dn.length + 1) = strsV ((dn ++ [a]) ++ List.replicate (n - (dn ++ [a]).length) []) := by
        rw [strsV_set _ _ _ (by simp; omega)]
        congr 1
        rw [List.set_append, if_neg (Nat.lt_irrefl _), Nat.sub_self, List.append_assoc]
        congr 1
        rw [show n - dn.length = (n - (dn ++ [a]).length) + 1 by simp; omega, List.replicate_succ]
        rfl
      rw [Nat.add_zero, List.take_left' rfl]
      refine MemK_store ?_
      simp only [go_sem,↓reduceIte,Nat.reduceEqDiff]
      refine StoreK_rowD hH 0 (o := dn.length) (vs := [Str a]) rfl (by simp [add_mk]) rfl (by kernel_rfl) (by simp; omega) (by simp [Value.oneCell']) fun w6 hH2 hD2 => ?_
      rw [hD] at hD2
      (try simp only [go_sem,↓reduceIte,Nat.reduceEqDiff])
      simp only [List.length_singleton, List.set_cons_zero] at hH2
      rw [hset] at hH2
      (refine hK _ _ ?_; clear hK)
      refine VR [0, 1, 2, 3, 9, 10] rfl rfl fun K hK => ?_; simp only [go_sem,↓reduceIte,Nat.reduceEqDiff]
      simp only [List.length_append, List.length_cons, List.length_nil]
      (repeat first | refine And.intro (by omega) ?_ | refine ⟨⟨by omega, by omega⟩, ?_⟩)
      (try simp only [go_sem,↓reduceIte,Nat.reduceEqDiff])
      (repeat first | refine And.intro (by omega) ?_ | refine ⟨⟨by omega, by omega⟩, ?_⟩)
      (refine hK _ _ ?_; clear hK)
      refine VR [0, 1, 2, 3, 9, 10] rfl rfl fun K hK => ?_; simp only [go_sem,↓reduceIte,Nat.reduceEqDiff]
      ((repeat refine And.intro (by omega) ?_); refine hK _ _ ?_; clear hK)
      refine VC_blk ?_
      refine VC_again ?_
      simp only [go_sem,↓reduceIte,Nat.reduceEqDiff]
      refine ⟨n - (dn ++ [a]).length, by simp; omega, dn ++ [a], q, by rw [hsp]; simp, ?_, hH2, hD2, rfl⟩
      rw [show a ++ 47 :: q = (a ++ [47]) ++ q by simp, List.drop_left' (by simp), show ((dn.length : Int) + 1) = ((dn ++ [a]).length : Nat) by simp]
      rfl
    · simp only [decide_eq_false_iff_not] at h
      have h1 : (splitS r).length = 1 := by
        have : 0 < (splitS r).length := List.length_pos_iff.2 (splitS_ne r)
        omega
      refine VC_exit rfl ?_
      refine VC_again ?_
      rcases split_cases r with hc | ⟨a, q, rfl, hc⟩
      · rw [splitS_end hc] at hsp
        exact ⟨dn, r, hsp, rfl, hH, hD⟩
      · exfalso
        rw [splitS_cut q hc] at h1
        simp at h1
        exact splitS_ne q h1
  rintro e w4 ⟨dn, r, hsp, rfl, hH, hD⟩
  have hdl : n = dn.length + 1 := by rw [← hn, hsp]; simp
  refine VR [9, 10] rfl rfl fun K hK => ?_; simp only [go_sem,↓reduceIte,Nat.reduceEqDiff]
  (repeat first | refine And.intro (by omega) ?_ | refine ⟨⟨by omega, by omega⟩, ?_⟩)
  (try simp only [go_sem,↓reduceIte,Nat.reduceEqDiff])
  have hset : (strsV (dn ++ List.replicate (n - dn.length) [])).take dn.length ++ [Str r] ++ (strsV (dn ++ List.replicate (n - dn.length) [])).drop (dn.length + 1) = strsV (splitS s) := by
    rw [strsV_set _ _ _ (by simp; omega)]
    congr 1
    rw [List.set_append, if_neg (Nat.lt_irrefl _), Nat.sub_self, hsp]
    congr 1
    rw [show n - dn.length = 0 + 1 by omega]
    rfl
  refine MemK_store ?_
  simp only [go_sem,↓reduceIte,Nat.reduceEqDiff]
  refine StoreK_rowD hH 0 (o := dn.length) (vs := [Str r]) rfl (by simp [add_mk]) rfl (by kernel_rfl) (by simp; omega) (by simp [Value.oneCell']) fun w6 hH2 hD2 => ?_
  rw [hD] at hD2
  (try simp only [go_sem,↓reduceIte,Nat.reduceEqDiff])
  simp only [List.length_singleton, List.set_cons_zero] at hH2
  rw [hset] at hH2
  (refine hK _ _ ?_; clear hK)
  refine VR [8] rfl rfl fun K hK => ?_; simp only [go_sem,↓reduceIte,Nat.reduceEqDiff]
  (repeat first | refine And.intro (by omega) ?_ | refine ⟨⟨by omega, by omega⟩, ?_⟩)
  (try simp only [go_sem,↓reduceIte,Nat.reduceEqDiff])
  (repeat first | refine And.intro (by omega) ?_ | refine ⟨⟨by omega, by omega⟩, ?_⟩)
  (refine hK _ _ ?_; clear hK)
  refine VC_ret (VX_ret1 rfl rfl ⟨g, ?_, hH2, hD2⟩)
  show Value.slice _ (dn.length + 1) n = _
  rw [← hdl]
abbrev strRow (a : Option Addr) (l : List (List UInt8)) (c : Nat) : Res := Res.row 9 1 a l.length c (strsV l)
theorem split_does (s : List UInt8) (w : World) (hs : s.length ≤ 1000000000) : Does Tryz.prog 81 #[Str s, slV] w fun v w' =>
    ∃ g, v = .slice (some ⟨g, 0, none⟩) (splitS s).length (splitS s).length ∧ Heap w [] w' [strRow (some ⟨g, 0, none⟩) (splitS s) (splitS s).length] ∧ w'.drawn = w.drawn := by
  refine Does_enter (args := [Str s, slV]) 8 Tryz.func81 rfl rfl (of_decide_eq_true rfl) ?_
  simp only [Env.ofArgs]
  refine VR [0, 1] rfl rfl fun K hK => ?_; simp only [go_sem,↓reduceIte,Nat.reduceEqDiff]
  ((repeat refine And.intro (by omega) ?_); refine hK _ _ ?_; clear hK)
  refine VR [4] rfl rfl fun K hK => ?_; simp only [go_sem,↓reduceIte,Nat.reduceEqDiff]
  refine MemK_call Tryz.call132 ?_; simp only [go_sem,↓reduceIte,Nat.reduceEqDiff]; refine CallK.mk (gensplit_does s w hs) ?_
  rintro v w2 ⟨g, rfl, hH, hD⟩
  (try simp only [go_sem,↓reduceIte,Nat.reduceEqDiff])
  (refine hK _ _ ?_; clear hK)
  exact VC_ret (VX_ret1 rfl rfl ⟨g, rfl, hH, hD⟩)
theorem pparts_does (s : List UInt8) (w : World) (hs : s.length ≤ 1000000000) : Does Tryz.prog 45 #[Str s] w fun v w' =>
    ∃ g, v = .slice (some ⟨g, 0, none⟩) (splitS s).length (splitS s).length ∧ Heap w [] w' [strRow (some ⟨g, 0, none⟩) (splitS s) (splitS s).length] ∧ w'.drawn = w.drawn := by
  refine Does_enter (args := [Str s]) 5 Tryz.func45 rfl rfl (of_decide_eq_true rfl) ?_
  simp only [Env.ofArgs]
  refine VR [0] rfl rfl fun K hK => ?_; simp only [go_sem,↓reduceIte,Nat.reduceEqDiff]
  ((repeat refine And.intro (by omega) ?_); refine hK _ _ ?_; clear hK)
  refine VR [2] rfl rfl fun K hK => ?_; simp only [go_sem,↓reduceIte,Nat.reduceEqDiff]
  refine MemK_call Tryz.call81 ?_; simp only [go_sem,↓reduceIte,Nat.reduceEqDiff]; refine CallK.mk (split_does s w hs) ?_
  rintro v w2 ⟨g, rfl, hH, hD⟩
  (try simp only [go_sem,↓reduceIte,Nat.reduceEqDiff])
  (refine hK _ _ ?_; clear hK)
  exact VC_ret (VX_ret1 rfl rfl ⟨g, rfl, hH, hD⟩)
end Go.Proofs.YtoioaddfachjhaaGreatDoor
namespace Go.Proofs.YtoioaddfachjhaaGreatDoor
open Go Go.Eng
set_option maxRecDepth 100000
set_option linter.unusedSimpArgs false
set_option linter.unusedVariables false
theorem take_get {l : Parts} {i : Nat} (h : i < l.length) : ∃ x, l[i]? = some x ∧ l.drop i = x :: l.drop (i + 1) :=
  ⟨l[i], List.getElem?_eq_getElem h, List.drop_eq_getElem_cons h⟩
theorem pcmp_does (s t : List UInt8) (w : World) (hs : s.length ≤ 1000000000) (ht : t.length ≤ 1000000000) : Does Tryz.prog 30 #[Str s, Str t] w fun v w' => Heap w [] w' [] ∧ v = .int .i64 (cmpS s t) ∧ w'.drawn = w.drawn := by
  have hl1 := splitS_len s
  have hl2 := splitS_len t
  refine Does_enter (args := [Str s, Str t]) 51 Tryz.func30 rfl rfl (of_decide_eq_true rfl) ?_
  simp only [Env.ofArgs]
  refine VR [0, 1] rfl rfl fun K hK => ?_; simp only [go_sem,↓reduceIte,Nat.reduceEqDiff]
  ((repeat refine And.intro (by omega) ?_); refine hK _ _ ?_; clear hK)
  refine VR [5, 6] rfl rfl fun K hK => ?_; simp only [go_sem,↓reduceIte,Nat.reduceEqDiff]
  refine MemK_call Tryz.call45 ?_; simp only [go_sem,↓reduceIte,Nat.reduceEqDiff]; refine CallK.mk (pparts_does s w hs) ?_
  rintro v w2 ⟨g1, rfl, hH1, hD1⟩
  (try simp only [go_sem,↓reduceIte,Nat.reduceEqDiff])
  refine MemK_call Tryz.call45 ?_; simp only [go_sem,↓reduceIte,Nat.reduceEqDiff]; refine CallK.mk (pparts_does t w2 ht) ?_
  rintro v w3 ⟨g2, rfl, hH2, hD2⟩
  rw [hD1] at hD2
  have hH : Heap w [] w3 [strRow (some ⟨g2, 0, none⟩) (splitS t) (splitS t).length, strRow (some ⟨g1, 0, none⟩) (splitS s) (splitS s).length] := hH1.call0 hH2
  clear hH1 hH2
  (try simp only [go_sem,↓reduceIte,Nat.reduceEqDiff])
  (refine hK _ _ ?_; clear hK)
  unfold cmpS
  generalize splitS s = x at *
  generalize splitS t = y at *
  have c1 : ∀ {i : Nat} {u : List UInt8}, x[i]? = some u → w3.cell? ⟨g1, i, none⟩ = some (Str u) := fun h => row_cell (hH.at 1 rfl) (strsV_get h)
  have c2 : ∀ {i : Nat} {u : List UInt8}, y[i]? = some u → w3.cell? ⟨g2, i, none⟩ = some (Str u) := fun h => row_cell (hH.at 0 rfl) (strsV_get h)
  refine VR [5, 6, 16, 17] rfl rfl fun K hK => ?_; simp only [go_sem,↓reduceIte,Nat.reduceEqDiff]
  ((repeat refine And.intro (by omega) ?_); refine hK _ _ ?_; clear hK)
  refine VC_block ?_
  refine VC_loopS [5, 6, 16, 17] (fun m e w' => ∃ (i : Nat), Is e [(5, .slice (some ⟨g1, 0, none⟩) x.length x.length), (6, .slice (some ⟨g2, 0, none⟩) y.length y.length), (16, .int .i64 (min (x.length : Int) y.length)), (17, .int .i64 i)] ∧ Is w' w3 ∧ i ≤ x.length ∧ i ≤ y.length ∧ cmpL (x.drop i) (y.drop i) = cmpL x y ∧ m = x.length - i) x.length ?_ ?_
  · simp only [go_sem,↓reduceIte,Nat.reduceEqDiff]
    exact ⟨0, rfl, rfl, by omega, by omega, rfl, rfl⟩
  rintro m e w' ⟨i, rfl, rfl, hi1, hi2, hgo, rfl⟩
  refine VR [5, 6, 16, 17, 18] rfl rfl fun K hK => ?_; simp only [go_sem,↓reduceIte,Nat.reduceEqDiff]
  ((repeat refine And.intro (by omega) ?_); refine hK _ _ ?_; clear hK)
  (repeat refine VC_seq ?_)
  refine VC_cond rfl rfl (fun h => ?_) (fun h => ?_)
  · simp only [decide_eq_true_eq] at h
    refine VC_skip ?_
    ((repeat refine VC_seq ?_); refine VC_block ?_)
    refine VR [5, 6, 7, 16, 17] rfl rfl fun K hK => ?_; simp only [go_sem,↓reduceIte,Nat.reduceEqDiff]
    ((repeat refine And.intro (by omega) ?_); refine hK _ _ ?_; clear hK)
    obtain ⟨u, hu, hux⟩ := take_get (l := x) (i := i) (by omega)
    obtain ⟨v, hv, hvy⟩ := take_get (l := y) (i := i) (by omega)
    rw [hux, hvy] at hgo
    (repeat refine VC_seq ?_); refine VC_regionQ [5, 6, 7, 16, 17, 28] (by kernel_rfl) (by kernel_rfl) rfl fun K hK => ?_; simp only [go_sem,↓reduceIte,Nat.reduceEqDiff]
    refine ⟨⟨by omega, by omega⟩, _, c1 hu, ?_⟩
    (try simp only [go_sem,↓reduceIte,Nat.reduceEqDiff])
    refine ⟨⟨by omega, by omega⟩, _, c2 hv, ?_⟩
    (try simp only [go_sem,↓reduceIte,Nat.reduceEqDiff])
    (refine hK _ ?_; clear hK)
    refine VC_cond rfl rfl (fun h2 => ?_) (fun h2 => VC_skip ?_)
    · have hne : u ≠ v := by simpa using h2
      rw [cmpL_head hne] at hgo
      (repeat refine VC_seq ?_); refine VC_regionL [4] 8 (by kernel_rfl) (by kernel_rfl) (by kernel_rfl) rfl fun K hK => ?_; simp only [go_sem,↓reduceIte,Nat.reduceEqDiff]
      refine ⟨⟨by omega, by omega⟩, _, c1 hu, ?_⟩
      (try simp only [go_sem,↓reduceIte,Nat.reduceEqDiff])
      refine ⟨⟨by omega, by omega⟩, _, c2 hv, ?_⟩
      (try simp only [go_sem,↓reduceIte,Nat.reduceEqDiff])
      refine MemK_call Tryz.call46 ?_; simp only [go_sem,↓reduceIte,Nat.reduceEqDiff]; refine CallK.mk (compare_does u v w') ?_
      rintro r w5 ⟨rfl, rfl⟩
      (try simp only [go_sem,↓reduceIte,Nat.reduceEqDiff])
      (refine hK _ _ ?_; clear hK)
      exact VC_ret (VX_ret1 rfl rfl ⟨hH.sub (List.nil_sublist _), by rw [hgo], hD2⟩)
    have he : u = v := by simpa using h2
    subst he
    have hgo : cmpL (x.drop (i + 1)) (y.drop (i + 1)) = cmpL x y := by
      rw [← hgo]
      exact (cmpL_app [u] _ _).symm
    refine VC_blk ?_
    refine VR [5, 6, 16, 17] rfl rfl fun K hK => ?_; simp only [go_sem,↓reduceIte,Nat.reduceEqDiff]
    ((repeat refine And.intro (by omega) ?_); refine hK _ _ ?_; clear hK)
    refine VC_again ?_
    simp only [go_sem,↓reduceIte,Nat.reduceEqDiff]
    exact ⟨x.length - (i + 1), by omega, i + 1, rfl, rfl, by omega, by omega, hgo, rfl⟩
  · simp only [decide_eq_false_iff_not] at h
    refine VC_exit rfl ?_
    ((repeat refine VC_seq ?_); refine VC_block ?_)
    refine VR [5, 6, 39] rfl rfl fun K hK => ?_; simp only [go_sem,↓reduceIte,Nat.reduceEqDiff]
    ((repeat refine And.intro (by omega) ?_); refine hK _ _ ?_; clear hK)
    refine VC_cond rfl rfl (fun h => ?_) (fun h => ?_)
    · simp only [decide_eq_true_eq] at h
      obtain rfl : i = x.length := by omega
      obtain ⟨v, hv, hvy⟩ := take_get (l := y) (i := x.length) (by omega)
      rw [List.drop_length, hvy, cmpL_nil_cons] at hgo
      refine VR [4] rfl rfl fun K hK => ?_; simp only [go_sem,↓reduceIte,Nat.reduceEqDiff]
      ((repeat refine And.intro (by omega) ?_); refine hK _ _ ?_; clear hK)
      exact VC_ret (VX_ret1 rfl rfl ⟨hH.sub (List.nil_sublist _), by rw [← hgo], hD2⟩)
    simp only [decide_eq_false_iff_not] at h
    refine VR [5, 6, 45] rfl rfl fun K hK => ?_; simp only [go_sem,↓reduceIte,Nat.reduceEqDiff]
    ((repeat refine And.intro (by omega) ?_); refine hK _ _ ?_; clear hK)
    refine VC_cond rfl rfl (fun h => ?_) (fun h => ?_)
    · simp only [decide_eq_true_eq] at h
      obtain rfl : i = y.length := by omega
      obtain ⟨v, hv, hvy⟩ := take_get (l := x) (i := y.length) (by omega)
      rw [List.drop_length, hvy, cmpL_cons_nil] at hgo
      refine VR [4] rfl rfl fun K hK => ?_; simp only [go_sem,↓reduceIte,Nat.reduceEqDiff]
      ((repeat refine And.intro (by omega) ?_); refine hK _ _ ?_; clear hK)
      exact VC_ret (VX_ret1 rfl rfl ⟨hH.sub (List.nil_sublist _), by rw [← hgo], hD2⟩)
    simp only [decide_eq_false_iff_not] at h
    refine VC_skip ?_
    refine VC_blk ?_
    obtain rfl : i = x.length := by omega
    rw [List.drop_length, show y.drop x.length = [] from List.drop_eq_nil_of_le (by omega), cmpL_self] at hgo
    refine VR [4] rfl rfl fun K hK => ?_; simp only [go_sem,↓reduceIte,Nat.reduceEqDiff]
    ((repeat refine And.intro (by omega) ?_); refine hK _ _ ?_; clear hK)
    exact VC_ret (VX_ret1 rfl rfl ⟨hH.sub (List.nil_sublist _), by rw [← hgo], hD2⟩)
end Go.Proofs.YtoioaddfachjhaaGreatDoor
