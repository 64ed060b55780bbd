import Derived.Test.YtklpiecolpnmlaaDoorEngE
import Derived.Test.YtklpiecolpnmlaaDoorChecked
/-! What this seat's types are, as the engine's equations. By a program (wip/eng/genfacts.py). -/
namespace Go.Proofs.YtklpiecolpnmlaaDoor
open Go Go.Eng
section
variable {w : World} {KV : Value → Prop}
theorem sz1 : Tryd.prog.szo 1 = some 1 := by kernel_rfl
theorem ldf1 (a : Addr) : vLoad Tryd.prog 1 (.pointer (some a)) w KV = ∃ v, w.cell? a = some v ∧ KV v := ld_fn 1 _ _ _ a Tryd.underlying1
theorem fe1 (f : Fn) (x y : Array Value) (xo yo : Operand) : vBinO Tryd.prog .eql 1 xo yo (.func f x y) .nilFunc w KV = KV (.bool false) := be_fun Tryd.underlying1 f x y xo yo
theorem sz2 : Tryd.prog.szo 2 = some 1 := by kernel_rfl
theorem ld2 (a : Addr) : vLoad Tryd.prog 2 (.pointer (some a)) w KV = ∃ v, w.cell? a = some v ∧ KV v := ld_int 2 a .i64 Tryd.underlying2
theorem cv2_2 (k : IntKind) (n : Int) : vConv Tryd.prog 2 2 (.int k n) w KV = vWrap .i64 n KV := cv_int 2 2 _ .i64 k n Tryd.underlying2 Tryd.underlying2
theorem cp2_2 : convPure Tryd.prog 2 2 = true := by kernel_rfl
theorem cv2_3 (k : IntKind) (n : Int) : vConv Tryd.prog 2 3 (.int k n) w KV = vWrap .i64 n KV := cv_int 2 3 _ .i64 k n Tryd.underlying2 Tryd.underlying3
theorem cp2_3 : convPure Tryd.prog 2 3 = true := by kernel_rfl
theorem cv2_5 (k : IntKind) (n : Int) : vConv Tryd.prog 2 5 (.int k n) w KV = vWrap .u8 n KV := cv_int 2 5 _ .u8 k n Tryd.underlying2 Tryd.underlying5
theorem cp2_5 : convPure Tryd.prog 2 5 = true := by kernel_rfl
theorem cv2_12 (k : IntKind) (n : Int) : vConv Tryd.prog 2 12 (.int k n) w KV = vWrap .u64 n KV := cv_int 2 12 _ .u64 k n Tryd.underlying2 Tryd.underlying12
theorem cp2_12 : convPure Tryd.prog 2 12 = true := by kernel_rfl
theorem cv2_21 (k : IntKind) (n : Int) : vConv Tryd.prog 2 21 (.int k n) w KV = vWrap .i32 n KV := cv_int 2 21 _ .i32 k n Tryd.underlying2 Tryd.underlying21
theorem cp2_21 : convPure Tryd.prog 2 21 = true := by kernel_rfl
theorem cv2_28 (k : IntKind) (n : Int) : vConv Tryd.prog 2 28 (.int k n) w KV = vWrap .i64 n KV := cv_int 2 28 _ .i64 k n Tryd.underlying2 Tryd.underlying28
theorem cp2_28 : convPure Tryd.prog 2 28 = true := by kernel_rfl
theorem cv2_69 (k : IntKind) (n : Int) : vConv Tryd.prog 2 69 (.int k n) w KV = vWrap .u64 n KV := cv_int 2 69 _ .u64 k n Tryd.underlying2 Tryd.underlying69
theorem cp2_69 : convPure Tryd.prog 2 69 = true := by kernel_rfl
theorem cv2_78 (k : IntKind) (n : Int) : vConv Tryd.prog 2 78 (.int k n) w KV = vWrap .i64 n KV := cv_int 2 78 _ .i64 k n Tryd.underlying2 Tryd.underlying78
theorem cp2_78 : convPure Tryd.prog 2 78 = true := by kernel_rfl
theorem cv2_86 (k : IntKind) (n : Int) : vConv Tryd.prog 2 86 (.int k n) w KV = vWrap .u32 n KV := cv_int 2 86 _ .u32 k n Tryd.underlying2 Tryd.underlying86
theorem cp2_86 : convPure Tryd.prog 2 86 = true := by kernel_rfl
theorem cv2_88 (k : IntKind) (n : Int) : vConv Tryd.prog 2 88 (.int k n) w KV = vWrap .u64 n KV := cv_int 2 88 _ .u64 k n Tryd.underlying2 Tryd.underlying88
theorem cp2_88 : convPure Tryd.prog 2 88 = true := by kernel_rfl
theorem cv2_100 (k : IntKind) (n : Int) : vConv Tryd.prog 2 100 (.int k n) w KV = vWrap .u64 n KV := cv_int 2 100 _ .u64 k n Tryd.underlying2 Tryd.underlying100
theorem cp2_100 : convPure Tryd.prog 2 100 = true := by kernel_rfl
theorem sz3 : Tryd.prog.szo 3 = some 1 := by kernel_rfl
theorem ld3 (a : Addr) : vLoad Tryd.prog 3 (.pointer (some a)) w KV = ∃ v, w.cell? a = some v ∧ KV v := ld_int 3 a .i64 Tryd.underlying3
theorem cv3_2 (k : IntKind) (n : Int) : vConv Tryd.prog 3 2 (.int k n) w KV = vWrap .i64 n KV := cv_int 3 2 _ .i64 k n Tryd.underlying3 Tryd.underlying2
theorem cp3_2 : convPure Tryd.prog 3 2 = true := by kernel_rfl
theorem cv3_3 (k : IntKind) (n : Int) : vConv Tryd.prog 3 3 (.int k n) w KV = vWrap .i64 n KV := cv_int 3 3 _ .i64 k n Tryd.underlying3 Tryd.underlying3
theorem cp3_3 : convPure Tryd.prog 3 3 = true := by kernel_rfl
theorem cv3_5 (k : IntKind) (n : Int) : vConv Tryd.prog 3 5 (.int k n) w KV = vWrap .u8 n KV := cv_int 3 5 _ .u8 k n Tryd.underlying3 Tryd.underlying5
theorem cp3_5 : convPure Tryd.prog 3 5 = true := by kernel_rfl
theorem cv3_12 (k : IntKind) (n : Int) : vConv Tryd.prog 3 12 (.int k n) w KV = vWrap .u64 n KV := cv_int 3 12 _ .u64 k n Tryd.underlying3 Tryd.underlying12
theorem cp3_12 : convPure Tryd.prog 3 12 = true := by kernel_rfl
theorem cv3_21 (k : IntKind) (n : Int) : vConv Tryd.prog 3 21 (.int k n) w KV = vWrap .i32 n KV := cv_int 3 21 _ .i32 k n Tryd.underlying3 Tryd.underlying21
theorem cp3_21 : convPure Tryd.prog 3 21 = true := by kernel_rfl
theorem cv3_28 (k : IntKind) (n : Int) : vConv Tryd.prog 3 28 (.int k n) w KV = vWrap .i64 n KV := cv_int 3 28 _ .i64 k n Tryd.underlying3 Tryd.underlying28
theorem cp3_28 : convPure Tryd.prog 3 28 = true := by kernel_rfl
theorem cv3_69 (k : IntKind) (n : Int) : vConv Tryd.prog 3 69 (.int k n) w KV = vWrap .u64 n KV := cv_int 3 69 _ .u64 k n Tryd.underlying3 Tryd.underlying69
theorem cp3_69 : convPure Tryd.prog 3 69 = true := by kernel_rfl
theorem cv3_78 (k : IntKind) (n : Int) : vConv Tryd.prog 3 78 (.int k n) w KV = vWrap .i64 n KV := cv_int 3 78 _ .i64 k n Tryd.underlying3 Tryd.underlying78
theorem cp3_78 : convPure Tryd.prog 3 78 = true := by kernel_rfl
theorem cv3_86 (k : IntKind) (n : Int) : vConv Tryd.prog 3 86 (.int k n) w KV = vWrap .u32 n KV := cv_int 3 86 _ .u32 k n Tryd.underlying3 Tryd.underlying86
theorem cp3_86 : convPure Tryd.prog 3 86 = true := by kernel_rfl
theorem cv3_88 (k : IntKind) (n : Int) : vConv Tryd.prog 3 88 (.int k n) w KV = vWrap .u64 n KV := cv_int 3 88 _ .u64 k n Tryd.underlying3 Tryd.underlying88
theorem cp3_88 : convPure Tryd.prog 3 88 = true := by kernel_rfl
theorem cv3_100 (k : IntKind) (n : Int) : vConv Tryd.prog 3 100 (.int k n) w KV = vWrap .u64 n KV := cv_int 3 100 _ .u64 k n Tryd.underlying3 Tryd.underlying100
theorem cp3_100 : convPure Tryd.prog 3 100 = true := by kernel_rfl
theorem sz4 : Tryd.prog.szo 4 = some 1 := by kernel_rfl
theorem ld4 (a : Addr) : vLoad Tryd.prog 4 (.pointer (some a)) w KV = ∃ v, w.cell? a = some v ∧ KV v := ld_bool 4 a Tryd.underlying4
theorem beql4 (x y : Operand) (a b : Bool) : vBinO Tryd.prog .eql 4 x y (.bool a) (.bool b) w KV = KV (.bool (decide (a = b))) := bb_eql 4 x y a b Tryd.underlying4
theorem bneq4 (x y : Operand) (a b : Bool) : vBinO Tryd.prog .neq 4 x y (.bool a) (.bool b) w KV = KV (.bool (decide (¬ a = b))) := bb_neq 4 x y a b Tryd.underlying4
theorem sz5 : Tryd.prog.szo 5 = some 1 := by kernel_rfl
theorem ld5 (a : Addr) : vLoad Tryd.prog 5 (.pointer (some a)) w KV = ∃ v, w.cell? a = some v ∧ KV v := ld_int 5 a .u8 Tryd.underlying5
theorem cv5_2 (k : IntKind) (n : Int) : vConv Tryd.prog 5 2 (.int k n) w KV = vWrap .i64 n KV := cv_int 5 2 _ .i64 k n Tryd.underlying5 Tryd.underlying2
theorem cp5_2 : convPure Tryd.prog 5 2 = true := by kernel_rfl
theorem cv5_3 (k : IntKind) (n : Int) : vConv Tryd.prog 5 3 (.int k n) w KV = vWrap .i64 n KV := cv_int 5 3 _ .i64 k n Tryd.underlying5 Tryd.underlying3
theorem cp5_3 : convPure Tryd.prog 5 3 = true := by kernel_rfl
theorem cv5_5 (k : IntKind) (n : Int) : vConv Tryd.prog 5 5 (.int k n) w KV = vWrap .u8 n KV := cv_int 5 5 _ .u8 k n Tryd.underlying5 Tryd.underlying5
theorem cp5_5 : convPure Tryd.prog 5 5 = true := by kernel_rfl
theorem cv5_12 (k : IntKind) (n : Int) : vConv Tryd.prog 5 12 (.int k n) w KV = vWrap .u64 n KV := cv_int 5 12 _ .u64 k n Tryd.underlying5 Tryd.underlying12
theorem cp5_12 : convPure Tryd.prog 5 12 = true := by kernel_rfl
theorem cv5_21 (k : IntKind) (n : Int) : vConv Tryd.prog 5 21 (.int k n) w KV = vWrap .i32 n KV := cv_int 5 21 _ .i32 k n Tryd.underlying5 Tryd.underlying21
theorem cp5_21 : convPure Tryd.prog 5 21 = true := by kernel_rfl
theorem cv5_28 (k : IntKind) (n : Int) : vConv Tryd.prog 5 28 (.int k n) w KV = vWrap .i64 n KV := cv_int 5 28 _ .i64 k n Tryd.underlying5 Tryd.underlying28
theorem cp5_28 : convPure Tryd.prog 5 28 = true := by kernel_rfl
theorem cv5_69 (k : IntKind) (n : Int) : vConv Tryd.prog 5 69 (.int k n) w KV = vWrap .u64 n KV := cv_int 5 69 _ .u64 k n Tryd.underlying5 Tryd.underlying69
theorem cp5_69 : convPure Tryd.prog 5 69 = true := by kernel_rfl
theorem cv5_78 (k : IntKind) (n : Int) : vConv Tryd.prog 5 78 (.int k n) w KV = vWrap .i64 n KV := cv_int 5 78 _ .i64 k n Tryd.underlying5 Tryd.underlying78
theorem cp5_78 : convPure Tryd.prog 5 78 = true := by kernel_rfl
theorem cv5_86 (k : IntKind) (n : Int) : vConv Tryd.prog 5 86 (.int k n) w KV = vWrap .u32 n KV := cv_int 5 86 _ .u32 k n Tryd.underlying5 Tryd.underlying86
theorem cp5_86 : convPure Tryd.prog 5 86 = true := by kernel_rfl
theorem cv5_88 (k : IntKind) (n : Int) : vConv Tryd.prog 5 88 (.int k n) w KV = vWrap .u64 n KV := cv_int 5 88 _ .u64 k n Tryd.underlying5 Tryd.underlying88
theorem cp5_88 : convPure Tryd.prog 5 88 = true := by kernel_rfl
theorem cv5_100 (k : IntKind) (n : Int) : vConv Tryd.prog 5 100 (.int k n) w KV = vWrap .u64 n KV := cv_int 5 100 _ .u64 k n Tryd.underlying5 Tryd.underlying100
theorem cp5_100 : convPure Tryd.prog 5 100 = true := by kernel_rfl
theorem sz6 : Tryd.prog.szo 6 = some 1 := by kernel_rfl
theorem sz9 : Tryd.prog.szo 9 = some 1 := by kernel_rfl
theorem ln9 (s : ByteArray) : vLen Tryd.prog 9 (.string s) KV = KV (.int .i64 (toL s).length) := ln_str 9 s Tryd.underlying9
theorem ix9 (s : ByteArray) (k : IntKind) (n : Int) : vIndex Tryd.prog 9 (.string s) (.int k n) KV = ((0 ≤ n ∧ n < (toL s).length) ∧ KV (.int .u8 ((toL s).getD n.toNat 0).toNat)) := ix_str 9 s k n Tryd.underlying9
theorem snn9 (s : ByteArray) : vSlice Tryd.prog 9 (.string s) none none KV = KV (.string s) := ss_nn 9 s Tryd.underlying9
theorem sln9 (s : ByteArray) (k : IntKind) (l : Int) : vSlice Tryd.prog 9 (.string s) (some (.int k l)) none KV = ((0 ≤ l ∧ l ≤ (toL s).length) ∧ KV (Str ((toL s).drop l.toNat))) := ss_ln 9 s k l Tryd.underlying9
theorem snh9 (s : ByteArray) (k : IntKind) (l : Int) : vSlice Tryd.prog 9 (.string s) none (some (.int k l)) KV = ((0 ≤ l ∧ l ≤ (toL s).length) ∧ KV (Str ((toL s).take l.toNat))) := ss_nh 9 s k l Tryd.underlying9
theorem slh9 (s : ByteArray) (k k' : IntKind) (l m : Int) : vSlice Tryd.prog 9 (.string s) (some (.int k l)) (some (.int k' m)) KV = ((0 ≤ l ∧ l ≤ m ∧ m ≤ (toL s).length) ∧ KV (Str (((toL s).drop l.toNat).take (m.toNat - l.toNat)))) := ss_lh 9 s k k' l m Tryd.underlying9
theorem ld9 (a : Addr) : vLoad Tryd.prog 9 (.pointer (some a)) w KV = ∃ v, w.cell? a = some v ∧ KV v := ld_str 9 a Tryd.underlying9
theorem sz12 : Tryd.prog.szo 12 = some 1 := by kernel_rfl
theorem ld12 (a : Addr) : vLoad Tryd.prog 12 (.pointer (some a)) w KV = ∃ v, w.cell? a = some v ∧ KV v := ld_int 12 a .u64 Tryd.underlying12
theorem cv12_2 (k : IntKind) (n : Int) : vConv Tryd.prog 12 2 (.int k n) w KV = vWrap .i64 n KV := cv_int 12 2 _ .i64 k n Tryd.underlying12 Tryd.underlying2
theorem cp12_2 : convPure Tryd.prog 12 2 = true := by kernel_rfl
theorem cv12_3 (k : IntKind) (n : Int) : vConv Tryd.prog 12 3 (.int k n) w KV = vWrap .i64 n KV := cv_int 12 3 _ .i64 k n Tryd.underlying12 Tryd.underlying3
theorem cp12_3 : convPure Tryd.prog 12 3 = true := by kernel_rfl
theorem cv12_5 (k : IntKind) (n : Int) : vConv Tryd.prog 12 5 (.int k n) w KV = vWrap .u8 n KV := cv_int 12 5 _ .u8 k n Tryd.underlying12 Tryd.underlying5
theorem cp12_5 : convPure Tryd.prog 12 5 = true := by kernel_rfl
theorem cv12_12 (k : IntKind) (n : Int) : vConv Tryd.prog 12 12 (.int k n) w KV = vWrap .u64 n KV := cv_int 12 12 _ .u64 k n Tryd.underlying12 Tryd.underlying12
theorem cp12_12 : convPure Tryd.prog 12 12 = true := by kernel_rfl
theorem cv12_21 (k : IntKind) (n : Int) : vConv Tryd.prog 12 21 (.int k n) w KV = vWrap .i32 n KV := cv_int 12 21 _ .i32 k n Tryd.underlying12 Tryd.underlying21
theorem cp12_21 : convPure Tryd.prog 12 21 = true := by kernel_rfl
theorem cv12_28 (k : IntKind) (n : Int) : vConv Tryd.prog 12 28 (.int k n) w KV = vWrap .i64 n KV := cv_int 12 28 _ .i64 k n Tryd.underlying12 Tryd.underlying28
theorem cp12_28 : convPure Tryd.prog 12 28 = true := by kernel_rfl
theorem cv12_69 (k : IntKind) (n : Int) : vConv Tryd.prog 12 69 (.int k n) w KV = vWrap .u64 n KV := cv_int 12 69 _ .u64 k n Tryd.underlying12 Tryd.underlying69
theorem cp12_69 : convPure Tryd.prog 12 69 = true := by kernel_rfl
theorem cv12_78 (k : IntKind) (n : Int) : vConv Tryd.prog 12 78 (.int k n) w KV = vWrap .i64 n KV := cv_int 12 78 _ .i64 k n Tryd.underlying12 Tryd.underlying78
theorem cp12_78 : convPure Tryd.prog 12 78 = true := by kernel_rfl
theorem cv12_86 (k : IntKind) (n : Int) : vConv Tryd.prog 12 86 (.int k n) w KV = vWrap .u32 n KV := cv_int 12 86 _ .u32 k n Tryd.underlying12 Tryd.underlying86
theorem cp12_86 : convPure Tryd.prog 12 86 = true := by kernel_rfl
theorem cv12_88 (k : IntKind) (n : Int) : vConv Tryd.prog 12 88 (.int k n) w KV = vWrap .u64 n KV := cv_int 12 88 _ .u64 k n Tryd.underlying12 Tryd.underlying88
theorem cp12_88 : convPure Tryd.prog 12 88 = true := by kernel_rfl
theorem cv12_100 (k : IntKind) (n : Int) : vConv Tryd.prog 12 100 (.int k n) w KV = vWrap .u64 n KV := cv_int 12 100 _ .u64 k n Tryd.underlying12 Tryd.underlying100
theorem cp12_100 : convPure Tryd.prog 12 100 = true := by kernel_rfl
theorem sz20 : Tryd.prog.szo 20 = some 1 := by kernel_rfl
theorem sz21 : Tryd.prog.szo 21 = some 1 := by kernel_rfl
theorem ld21 (a : Addr) : vLoad Tryd.prog 21 (.pointer (some a)) w KV = ∃ v, w.cell? a = some v ∧ KV v := ld_int 21 a .i32 Tryd.underlying21
theorem cv21_2 (k : IntKind) (n : Int) : vConv Tryd.prog 21 2 (.int k n) w KV = vWrap .i64 n KV := cv_int 21 2 _ .i64 k n Tryd.underlying21 Tryd.underlying2
theorem cp21_2 : convPure Tryd.prog 21 2 = true := by kernel_rfl
theorem cv21_3 (k : IntKind) (n : Int) : vConv Tryd.prog 21 3 (.int k n) w KV = vWrap .i64 n KV := cv_int 21 3 _ .i64 k n Tryd.underlying21 Tryd.underlying3
theorem cp21_3 : convPure Tryd.prog 21 3 = true := by kernel_rfl
theorem cv21_5 (k : IntKind) (n : Int) : vConv Tryd.prog 21 5 (.int k n) w KV = vWrap .u8 n KV := cv_int 21 5 _ .u8 k n Tryd.underlying21 Tryd.underlying5
theorem cp21_5 : convPure Tryd.prog 21 5 = true := by kernel_rfl
theorem cv21_12 (k : IntKind) (n : Int) : vConv Tryd.prog 21 12 (.int k n) w KV = vWrap .u64 n KV := cv_int 21 12 _ .u64 k n Tryd.underlying21 Tryd.underlying12
theorem cp21_12 : convPure Tryd.prog 21 12 = true := by kernel_rfl
theorem cv21_21 (k : IntKind) (n : Int) : vConv Tryd.prog 21 21 (.int k n) w KV = vWrap .i32 n KV := cv_int 21 21 _ .i32 k n Tryd.underlying21 Tryd.underlying21
theorem cp21_21 : convPure Tryd.prog 21 21 = true := by kernel_rfl
theorem cv21_28 (k : IntKind) (n : Int) : vConv Tryd.prog 21 28 (.int k n) w KV = vWrap .i64 n KV := cv_int 21 28 _ .i64 k n Tryd.underlying21 Tryd.underlying28
theorem cp21_28 : convPure Tryd.prog 21 28 = true := by kernel_rfl
theorem cv21_69 (k : IntKind) (n : Int) : vConv Tryd.prog 21 69 (.int k n) w KV = vWrap .u64 n KV := cv_int 21 69 _ .u64 k n Tryd.underlying21 Tryd.underlying69
theorem cp21_69 : convPure Tryd.prog 21 69 = true := by kernel_rfl
theorem cv21_78 (k : IntKind) (n : Int) : vConv Tryd.prog 21 78 (.int k n) w KV = vWrap .i64 n KV := cv_int 21 78 _ .i64 k n Tryd.underlying21 Tryd.underlying78
theorem cp21_78 : convPure Tryd.prog 21 78 = true := by kernel_rfl
theorem cv21_86 (k : IntKind) (n : Int) : vConv Tryd.prog 21 86 (.int k n) w KV = vWrap .u32 n KV := cv_int 21 86 _ .u32 k n Tryd.underlying21 Tryd.underlying86
theorem cp21_86 : convPure Tryd.prog 21 86 = true := by kernel_rfl
theorem cv21_88 (k : IntKind) (n : Int) : vConv Tryd.prog 21 88 (.int k n) w KV = vWrap .u64 n KV := cv_int 21 88 _ .u64 k n Tryd.underlying21 Tryd.underlying88
theorem cp21_88 : convPure Tryd.prog 21 88 = true := by kernel_rfl
theorem cv21_100 (k : IntKind) (n : Int) : vConv Tryd.prog 21 100 (.int k n) w KV = vWrap .u64 n KV := cv_int 21 100 _ .u64 k n Tryd.underlying21 Tryd.underlying100
theorem cp21_100 : convPure Tryd.prog 21 100 = true := by kernel_rfl
theorem sz22 : Tryd.prog.szo 22 = some 1 := by kernel_rfl
theorem ln22 (a : Option Addr) (n c : Nat) : vLen Tryd.prog 22 (.slice a n c) KV = KV (.int .i64 n) := ln_sl 22 24 a n c Tryd.underlying22
theorem snn22 (a : Option Addr) (n c : Nat) : vSlice Tryd.prog 22 (.slice a n c) none none KV = (n ≤ c ∧ KV (.slice a n c)) := sl_nn 22 24 a n c 4 Tryd.underlying22 (by kernel_rfl)
theorem sln22 (a : Option Addr) (n c : Nat) (k : IntKind) (l : Int) : vSlice Tryd.prog 22 (.slice a n c) (some (.int k l)) none KV = ((0 ≤ l ∧ l ≤ n ∧ n ≤ c) ∧ KV (.slice (if c = l.toNat then a else a.map (·.add (l.toNat * 4))) (n - l.toNat) (c - l.toNat))) := sl_ln 22 24 a n c 4 k l Tryd.underlying22 (by kernel_rfl)
theorem snh22 (a : Option Addr) (n c : Nat) (k : IntKind) (l : Int) : vSlice Tryd.prog 22 (.slice a n c) none (some (.int k l)) KV = ((0 ≤ l ∧ l ≤ c) ∧ KV (.slice a l.toNat c)) := sl_nh 22 24 a n c 4 k l Tryd.underlying22 (by kernel_rfl)
theorem slh22 (a : Option Addr) (n c : Nat) (k k' : IntKind) (l m : Int) : vSlice Tryd.prog 22 (.slice a n c) (some (.int k l)) (some (.int k' m)) KV = ((0 ≤ l ∧ l ≤ m ∧ m ≤ c) ∧ KV (.slice (if c = l.toNat then a else a.map (·.add (l.toNat * 4))) (m.toNat - l.toNat) (c - l.toNat))) := sl_lh 22 24 a n c 4 k k' l m Tryd.underlying22 (by kernel_rfl)
theorem ia22 (a : Addr) (n c : Nat) (k : IntKind) (i : Int) : vIndexAddr Tryd.prog 22 (.slice (some a) n c) (.int k i) KV = ((0 ≤ i ∧ i < n) ∧ KV (.pointer (some (a.add (i.toNat * 4))))) := ia_sl 22 24 a n c 4 k i Tryd.underlying22 (by kernel_rfl)
theorem ld22 (a : Addr) : vLoad Tryd.prog 22 (.pointer (some a)) w KV = ∃ v, w.cell? a = some v ∧ KV v := ld_sl 22 24 a Tryd.underlying22
theorem sz23 : Tryd.prog.szo 23 = some 4 := by kernel_rfl
theorem ld23 (a : Addr) : vLoad Tryd.prog 23 (.pointer (some a)) w KV = ∃ cs : List Value, (cs.length = 4 ∧ Reads w a cs) ∧ KV (.agg cs.toArray) := ld_st 23 4 a _ Tryd.underlying23 (by kernel_rfl)
theorem bd23 (s0 : ByteArray) (b1 : Bool) (s2 : ByteArray) (a3 : Option Addr) (n3 c3 : Nat) : vBuild Tryd.prog 23 [(0, .string s0), (1, .bool b1), (2, .string s2), (3, .slice a3 n3 c3)] KV = KV (.agg #[.string s0, .bool b1, .string s2, .slice a3 n3 c3]) := bd_of (by kernel_rfl)
theorem bz23 : vBuild Tryd.prog 23 [] KV = KV (.agg #[.string ⟨#[]⟩, .bool false, .string ⟨#[]⟩, .slice none 0 0]) := bd_of (by kernel_rfl)
theorem fd23_0 (l : List Value) : vField Tryd.prog 23 (.agg l.toArray) 0 KV = vNth l 0 KV := fd_cell 23 0 l Tryd.underlying23 rfl (by kernel_rfl) (by kernel_rfl) (by kernel_rfl)
theorem fa23_0 (a : Addr) : vFieldAddr Tryd.prog 23 (.pointer (some a)) 0 KV = KV (.pointer (some (a.add 0))) := fa_st 23 0 a (m := 0) Tryd.underlying23 rfl (by kernel_rfl)
theorem fd23_1 (l : List Value) : vField Tryd.prog 23 (.agg l.toArray) 1 KV = vNth l 1 KV := fd_cell 23 1 l Tryd.underlying23 rfl (by kernel_rfl) (by kernel_rfl) (by kernel_rfl)
theorem fa23_1 (a : Addr) : vFieldAddr Tryd.prog 23 (.pointer (some a)) 1 KV = KV (.pointer (some (a.add 1))) := fa_st 23 1 a (m := 0) Tryd.underlying23 rfl (by kernel_rfl)
theorem fd23_2 (l : List Value) : vField Tryd.prog 23 (.agg l.toArray) 2 KV = vNth l 2 KV := fd_cell 23 2 l Tryd.underlying23 rfl (by kernel_rfl) (by kernel_rfl) (by kernel_rfl)
theorem fa23_2 (a : Addr) : vFieldAddr Tryd.prog 23 (.pointer (some a)) 2 KV = KV (.pointer (some (a.add 2))) := fa_st 23 2 a (m := 0) Tryd.underlying23 rfl (by kernel_rfl)
theorem fd23_3 (l : List Value) : vField Tryd.prog 23 (.agg l.toArray) 3 KV = vNth l 3 KV := fd_cell 23 3 l Tryd.underlying23 rfl (by kernel_rfl) (by kernel_rfl) (by kernel_rfl)
theorem fa23_3 (a : Addr) : vFieldAddr Tryd.prog 23 (.pointer (some a)) 3 KV = KV (.pointer (some (a.add 3))) := fa_st 23 3 a (m := 0) Tryd.underlying23 rfl (by kernel_rfl)
theorem sz24 : Tryd.prog.szo 24 = some 4 := by kernel_rfl
theorem ld24 (a : Addr) : vLoad Tryd.prog 24 (.pointer (some a)) w KV = ∃ cs : List Value, (cs.length = 4 ∧ Reads w a cs) ∧ KV (.agg cs.toArray) := ld_st 24 4 a _ Tryd.underlying24 (by kernel_rfl)
theorem bd24 (s0 : ByteArray) (b1 : Bool) (s2 : ByteArray) (a3 : Option Addr) (n3 c3 : Nat) : vBuild Tryd.prog 24 [(0, .string s0), (1, .bool b1), (2, .string s2), (3, .slice a3 n3 c3)] KV = KV (.agg #[.string s0, .bool b1, .string s2, .slice a3 n3 c3]) := bd_of (by kernel_rfl)
theorem bz24 : vBuild Tryd.prog 24 [] KV = KV (.agg #[.string ⟨#[]⟩, .bool false, .string ⟨#[]⟩, .slice none 0 0]) := bd_of (by kernel_rfl)
theorem fd24_0 (l : List Value) : vField Tryd.prog 24 (.agg l.toArray) 0 KV = vNth l 0 KV := fd_cell 24 0 l Tryd.underlying24 rfl (by kernel_rfl) (by kernel_rfl) (by kernel_rfl)
theorem fa24_0 (a : Addr) : vFieldAddr Tryd.prog 24 (.pointer (some a)) 0 KV = KV (.pointer (some (a.add 0))) := fa_st 24 0 a (m := 0) Tryd.underlying24 rfl (by kernel_rfl)
theorem fd24_1 (l : List Value) : vField Tryd.prog 24 (.agg l.toArray) 1 KV = vNth l 1 KV := fd_cell 24 1 l Tryd.underlying24 rfl (by kernel_rfl) (by kernel_rfl) (by kernel_rfl)
theorem fa24_1 (a : Addr) : vFieldAddr Tryd.prog 24 (.pointer (some a)) 1 KV = KV (.pointer (some (a.add 1))) := fa_st 24 1 a (m := 0) Tryd.underlying24 rfl (by kernel_rfl)
theorem fd24_2 (l : List Value) : vField Tryd.prog 24 (.agg l.toArray) 2 KV = vNth l 2 KV := fd_cell 24 2 l Tryd.underlying24 rfl (by kernel_rfl) (by kernel_rfl) (by kernel_rfl)
theorem fa24_2 (a : Addr) : vFieldAddr Tryd.prog 24 (.pointer (some a)) 2 KV = KV (.pointer (some (a.add 2))) := fa_st 24 2 a (m := 0) Tryd.underlying24 rfl (by kernel_rfl)
theorem fd24_3 (l : List Value) : vField Tryd.prog 24 (.agg l.toArray) 3 KV = vNth l 3 KV := fd_cell 24 3 l Tryd.underlying24 rfl (by kernel_rfl) (by kernel_rfl) (by kernel_rfl)
theorem fa24_3 (a : Addr) : vFieldAddr Tryd.prog 24 (.pointer (some a)) 3 KV = KV (.pointer (some (a.add 3))) := fa_st 24 3 a (m := 0) Tryd.underlying24 rfl (by kernel_rfl)
theorem sz25 : Tryd.prog.szo 25 = some 1 := by kernel_rfl
theorem ldf25 (a : Addr) : vLoad Tryd.prog 25 (.pointer (some a)) w KV = ∃ v, w.cell? a = some v ∧ KV v := ld_fn 25 _ _ _ a Tryd.underlying25
theorem fe25 (f : Fn) (x y : Array Value) (xo yo : Operand) : vBinO Tryd.prog .eql 25 xo yo (.func f x y) .nilFunc w KV = KV (.bool false) := be_fun Tryd.underlying25 f x y xo yo
theorem sz26 : Tryd.prog.szo 26 = some 1 := by kernel_rfl
theorem ldf26 (a : Addr) : vLoad Tryd.prog 26 (.pointer (some a)) w KV = ∃ v, w.cell? a = some v ∧ KV v := ld_fn 26 _ _ _ a Tryd.underlying26
theorem fe26 (f : Fn) (x y : Array Value) (xo yo : Operand) : vBinO Tryd.prog .eql 26 xo yo (.func f x y) .nilFunc w KV = KV (.bool false) := be_fun Tryd.underlying26 f x y xo yo
theorem sz27 : Tryd.prog.szo 27 = some 1 := by kernel_rfl
theorem ln27 (a : Option Addr) (n c : Nat) : vLen Tryd.prog 27 (.slice a n c) KV = KV (.int .i64 n) := ln_sl 27 38 a n c Tryd.underlying27
theorem snn27 (a : Option Addr) (n c : Nat) : vSlice Tryd.prog 27 (.slice a n c) none none KV = (n ≤ c ∧ KV (.slice a n c)) := sl_nn 27 38 a n c 2 Tryd.underlying27 (by kernel_rfl)
theorem sln27 (a : Option Addr) (n c : Nat) (k : IntKind) (l : Int) : vSlice Tryd.prog 27 (.slice a n c) (some (.int k l)) none KV = ((0 ≤ l ∧ l ≤ n ∧ n ≤ c) ∧ KV (.slice (if c = l.toNat then a else a.map (·.add (l.toNat * 2))) (n - l.toNat) (c - l.toNat))) := sl_ln 27 38 a n c 2 k l Tryd.underlying27 (by kernel_rfl)
theorem snh27 (a : Option Addr) (n c : Nat) (k : IntKind) (l : Int) : vSlice Tryd.prog 27 (.slice a n c) none (some (.int k l)) KV = ((0 ≤ l ∧ l ≤ c) ∧ KV (.slice a l.toNat c)) := sl_nh 27 38 a n c 2 k l Tryd.underlying27 (by kernel_rfl)
theorem slh27 (a : Option Addr) (n c : Nat) (k k' : IntKind) (l m : Int) : vSlice Tryd.prog 27 (.slice a n c) (some (.int k l)) (some (.int k' m)) KV = ((0 ≤ l ∧ l ≤ m ∧ m ≤ c) ∧ KV (.slice (if c = l.toNat then a else a.map (·.add (l.toNat * 2))) (m.toNat - l.toNat) (c - l.toNat))) := sl_lh 27 38 a n c 2 k k' l m Tryd.underlying27 (by kernel_rfl)
theorem ia27 (a : Addr) (n c : Nat) (k : IntKind) (i : Int) : vIndexAddr Tryd.prog 27 (.slice (some a) n c) (.int k i) KV = ((0 ≤ i ∧ i < n) ∧ KV (.pointer (some (a.add (i.toNat * 2))))) := ia_sl 27 38 a n c 2 k i Tryd.underlying27 (by kernel_rfl)
theorem ld27 (a : Addr) : vLoad Tryd.prog 27 (.pointer (some a)) w KV = ∃ v, w.cell? a = some v ∧ KV v := ld_sl 27 38 a Tryd.underlying27
theorem sz28 : Tryd.prog.szo 28 = some 1 := by kernel_rfl
theorem ld28 (a : Addr) : vLoad Tryd.prog 28 (.pointer (some a)) w KV = ∃ v, w.cell? a = some v ∧ KV v := ld_int 28 a .i64 Tryd.underlying28
theorem cv28_2 (k : IntKind) (n : Int) : vConv Tryd.prog 28 2 (.int k n) w KV = vWrap .i64 n KV := cv_int 28 2 _ .i64 k n Tryd.underlying28 Tryd.underlying2
theorem cp28_2 : convPure Tryd.prog 28 2 = true := by kernel_rfl
theorem cv28_3 (k : IntKind) (n : Int) : vConv Tryd.prog 28 3 (.int k n) w KV = vWrap .i64 n KV := cv_int 28 3 _ .i64 k n Tryd.underlying28 Tryd.underlying3
theorem cp28_3 : convPure Tryd.prog 28 3 = true := by kernel_rfl
theorem cv28_5 (k : IntKind) (n : Int) : vConv Tryd.prog 28 5 (.int k n) w KV = vWrap .u8 n KV := cv_int 28 5 _ .u8 k n Tryd.underlying28 Tryd.underlying5
theorem cp28_5 : convPure Tryd.prog 28 5 = true := by kernel_rfl
theorem cv28_12 (k : IntKind) (n : Int) : vConv Tryd.prog 28 12 (.int k n) w KV = vWrap .u64 n KV := cv_int 28 12 _ .u64 k n Tryd.underlying28 Tryd.underlying12
theorem cp28_12 : convPure Tryd.prog 28 12 = true := by kernel_rfl
theorem cv28_21 (k : IntKind) (n : Int) : vConv Tryd.prog 28 21 (.int k n) w KV = vWrap .i32 n KV := cv_int 28 21 _ .i32 k n Tryd.underlying28 Tryd.underlying21
theorem cp28_21 : convPure Tryd.prog 28 21 = true := by kernel_rfl
theorem cv28_28 (k : IntKind) (n : Int) : vConv Tryd.prog 28 28 (.int k n) w KV = vWrap .i64 n KV := cv_int 28 28 _ .i64 k n Tryd.underlying28 Tryd.underlying28
theorem cp28_28 : convPure Tryd.prog 28 28 = true := by kernel_rfl
theorem cv28_69 (k : IntKind) (n : Int) : vConv Tryd.prog 28 69 (.int k n) w KV = vWrap .u64 n KV := cv_int 28 69 _ .u64 k n Tryd.underlying28 Tryd.underlying69
theorem cp28_69 : convPure Tryd.prog 28 69 = true := by kernel_rfl
theorem cv28_78 (k : IntKind) (n : Int) : vConv Tryd.prog 28 78 (.int k n) w KV = vWrap .i64 n KV := cv_int 28 78 _ .i64 k n Tryd.underlying28 Tryd.underlying78
theorem cp28_78 : convPure Tryd.prog 28 78 = true := by kernel_rfl
theorem cv28_86 (k : IntKind) (n : Int) : vConv Tryd.prog 28 86 (.int k n) w KV = vWrap .u32 n KV := cv_int 28 86 _ .u32 k n Tryd.underlying28 Tryd.underlying86
theorem cp28_86 : convPure Tryd.prog 28 86 = true := by kernel_rfl
theorem cv28_88 (k : IntKind) (n : Int) : vConv Tryd.prog 28 88 (.int k n) w KV = vWrap .u64 n KV := cv_int 28 88 _ .u64 k n Tryd.underlying28 Tryd.underlying88
theorem cp28_88 : convPure Tryd.prog 28 88 = true := by kernel_rfl
theorem cv28_100 (k : IntKind) (n : Int) : vConv Tryd.prog 28 100 (.int k n) w KV = vWrap .u64 n KV := cv_int 28 100 _ .u64 k n Tryd.underlying28 Tryd.underlying100
theorem cp28_100 : convPure Tryd.prog 28 100 = true := by kernel_rfl
theorem sz30 : Tryd.prog.szo 30 = some 1 := by kernel_rfl
theorem ldf30 (a : Addr) : vLoad Tryd.prog 30 (.pointer (some a)) w KV = ∃ v, w.cell? a = some v ∧ KV v := ld_fn 30 _ _ _ a Tryd.underlying30
theorem fe30 (f : Fn) (x y : Array Value) (xo yo : Operand) : vBinO Tryd.prog .eql 30 xo yo (.func f x y) .nilFunc w KV = KV (.bool false) := be_fun Tryd.underlying30 f x y xo yo
theorem sz32 : Tryd.prog.szo 32 = some 1 := by kernel_rfl
theorem ldf32 (a : Addr) : vLoad Tryd.prog 32 (.pointer (some a)) w KV = ∃ v, w.cell? a = some v ∧ KV v := ld_fn 32 _ _ _ a Tryd.underlying32
theorem fe32 (f : Fn) (x y : Array Value) (xo yo : Operand) : vBinO Tryd.prog .eql 32 xo yo (.func f x y) .nilFunc w KV = KV (.bool false) := be_fun Tryd.underlying32 f x y xo yo
theorem sz33 : Tryd.prog.szo 33 = some 1 := by kernel_rfl
theorem ldf33 (a : Addr) : vLoad Tryd.prog 33 (.pointer (some a)) w KV = ∃ v, w.cell? a = some v ∧ KV v := ld_fn 33 _ _ _ a Tryd.underlying33
theorem fe33 (f : Fn) (x y : Array Value) (xo yo : Operand) : vBinO Tryd.prog .eql 33 xo yo (.func f x y) .nilFunc w KV = KV (.bool false) := be_fun Tryd.underlying33 f x y xo yo
theorem sz34 : Tryd.prog.szo 34 = some 1 := by kernel_rfl
theorem ldf34 (a : Addr) : vLoad Tryd.prog 34 (.pointer (some a)) w KV = ∃ v, w.cell? a = some v ∧ KV v := ld_fn 34 _ _ _ a Tryd.underlying34
theorem fe34 (f : Fn) (x y : Array Value) (xo yo : Operand) : vBinO Tryd.prog .eql 34 xo yo (.func f x y) .nilFunc w KV = KV (.bool false) := be_fun Tryd.underlying34 f x y xo yo
theorem sz35 : Tryd.prog.szo 35 = some 1 := by kernel_rfl
theorem ldf35 (a : Addr) : vLoad Tryd.prog 35 (.pointer (some a)) w KV = ∃ v, w.cell? a = some v ∧ KV v := ld_fn 35 _ _ _ a Tryd.underlying35
theorem fe35 (f : Fn) (x y : Array Value) (xo yo : Operand) : vBinO Tryd.prog .eql 35 xo yo (.func f x y) .nilFunc w KV = KV (.bool false) := be_fun Tryd.underlying35 f x y xo yo
theorem sz36 : Tryd.prog.szo 36 = some 1 := by kernel_rfl
theorem ldf36 (a : Addr) : vLoad Tryd.prog 36 (.pointer (some a)) w KV = ∃ v, w.cell? a = some v ∧ KV v := ld_fn 36 _ _ _ a Tryd.underlying36
theorem fe36 (f : Fn) (x y : Array Value) (xo yo : Operand) : vBinO Tryd.prog .eql 36 xo yo (.func f x y) .nilFunc w KV = KV (.bool false) := be_fun Tryd.underlying36 f x y xo yo
theorem sz37 : Tryd.prog.szo 37 = some 2 := by kernel_rfl
theorem ld37 (a : Addr) : vLoad Tryd.prog 37 (.pointer (some a)) w KV = ∃ cs : List Value, (cs.length = 2 ∧ Reads w a cs) ∧ KV (.agg cs.toArray) := ld_st 37 2 a _ Tryd.underlying37 (by kernel_rfl)
theorem bd37 (s0 : ByteArray) (s1 : ByteArray) : vBuild Tryd.prog 37 [(0, .string s0), (1, .string s1)] KV = KV (.agg #[.string s0, .string s1]) := bd_of (by kernel_rfl)
theorem bz37 : vBuild Tryd.prog 37 [] KV = KV (.agg #[.string ⟨#[]⟩, .string ⟨#[]⟩]) := bd_of (by kernel_rfl)
theorem fd37_0 (l : List Value) : vField Tryd.prog 37 (.agg l.toArray) 0 KV = vNth l 0 KV := fd_cell 37 0 l Tryd.underlying37 rfl (by kernel_rfl) (by kernel_rfl) (by kernel_rfl)
theorem fa37_0 (a : Addr) : vFieldAddr Tryd.prog 37 (.pointer (some a)) 0 KV = KV (.pointer (some (a.add 0))) := fa_st 37 0 a (m := 0) Tryd.underlying37 rfl (by kernel_rfl)
theorem fd37_1 (l : List Value) : vField Tryd.prog 37 (.agg l.toArray) 1 KV = vNth l 1 KV := fd_cell 37 1 l Tryd.underlying37 rfl (by kernel_rfl) (by kernel_rfl) (by kernel_rfl)
theorem fa37_1 (a : Addr) : vFieldAddr Tryd.prog 37 (.pointer (some a)) 1 KV = KV (.pointer (some (a.add 1))) := fa_st 37 1 a (m := 0) Tryd.underlying37 rfl (by kernel_rfl)
theorem sz38 : Tryd.prog.szo 38 = some 2 := by kernel_rfl
theorem ld38 (a : Addr) : vLoad Tryd.prog 38 (.pointer (some a)) w KV = ∃ cs : List Value, (cs.length = 2 ∧ Reads w a cs) ∧ KV (.agg cs.toArray) := ld_st 38 2 a _ Tryd.underlying38 (by kernel_rfl)
theorem bd38 (s0 : ByteArray) (s1 : ByteArray) : vBuild Tryd.prog 38 [(0, .string s0), (1, .string s1)] KV = KV (.agg #[.string s0, .string s1]) := bd_of (by kernel_rfl)
theorem bz38 : vBuild Tryd.prog 38 [] KV = KV (.agg #[.string ⟨#[]⟩, .string ⟨#[]⟩]) := bd_of (by kernel_rfl)
theorem fd38_0 (l : List Value) : vField Tryd.prog 38 (.agg l.toArray) 0 KV = vNth l 0 KV := fd_cell 38 0 l Tryd.underlying38 rfl (by kernel_rfl) (by kernel_rfl) (by kernel_rfl)
theorem fa38_0 (a : Addr) : vFieldAddr Tryd.prog 38 (.pointer (some a)) 0 KV = KV (.pointer (some (a.add 0))) := fa_st 38 0 a (m := 0) Tryd.underlying38 rfl (by kernel_rfl)
theorem fd38_1 (l : List Value) : vField Tryd.prog 38 (.agg l.toArray) 1 KV = vNth l 1 KV := fd_cell 38 1 l Tryd.underlying38 rfl (by kernel_rfl) (by kernel_rfl) (by kernel_rfl)
theorem fa38_1 (a : Addr) : vFieldAddr Tryd.prog 38 (.pointer (some a)) 1 KV = KV (.pointer (some (a.add 1))) := fa_st 38 1 a (m := 0) Tryd.underlying38 rfl (by kernel_rfl)
theorem sz40 : Tryd.prog.szo 40 = some 1 := by kernel_rfl
theorem ldf40 (a : Addr) : vLoad Tryd.prog 40 (.pointer (some a)) w KV = ∃ v, w.cell? a = some v ∧ KV v := ld_fn 40 _ _ _ a Tryd.underlying40
theorem fe40 (f : Fn) (x y : Array Value) (xo yo : Operand) : vBinO Tryd.prog .eql 40 xo yo (.func f x y) .nilFunc w KV = KV (.bool false) := be_fun Tryd.underlying40 f x y xo yo
theorem sz42 : Tryd.prog.szo 42 = some 1 := by kernel_rfl
theorem ldf42 (a : Addr) : vLoad Tryd.prog 42 (.pointer (some a)) w KV = ∃ v, w.cell? a = some v ∧ KV v := ld_fn 42 _ _ _ a Tryd.underlying42
theorem fe42 (f : Fn) (x y : Array Value) (xo yo : Operand) : vBinO Tryd.prog .eql 42 xo yo (.func f x y) .nilFunc w KV = KV (.bool false) := be_fun Tryd.underlying42 f x y xo yo
theorem sz43 : Tryd.prog.szo 43 = some 1 := by kernel_rfl
theorem ldf43 (a : Addr) : vLoad Tryd.prog 43 (.pointer (some a)) w KV = ∃ v, w.cell? a = some v ∧ KV v := ld_fn 43 _ _ _ a Tryd.underlying43
theorem fe43 (f : Fn) (x y : Array Value) (xo yo : Operand) : vBinO Tryd.prog .eql 43 xo yo (.func f x y) .nilFunc w KV = KV (.bool false) := be_fun Tryd.underlying43 f x y xo yo
theorem sz44 : Tryd.prog.szo 44 = some 1 := by kernel_rfl
theorem ldf44 (a : Addr) : vLoad Tryd.prog 44 (.pointer (some a)) w KV = ∃ v, w.cell? a = some v ∧ KV v := ld_fn 44 _ _ _ a Tryd.underlying44
theorem fe44 (f : Fn) (x y : Array Value) (xo yo : Operand) : vBinO Tryd.prog .eql 44 xo yo (.func f x y) .nilFunc w KV = KV (.bool false) := be_fun Tryd.underlying44 f x y xo yo
theorem sz45 : Tryd.prog.szo 45 = some 1 := by kernel_rfl
theorem ldf45 (a : Addr) : vLoad Tryd.prog 45 (.pointer (some a)) w KV = ∃ v, w.cell? a = some v ∧ KV v := ld_fn 45 _ _ _ a Tryd.underlying45
theorem fe45 (f : Fn) (x y : Array Value) (xo yo : Operand) : vBinO Tryd.prog .eql 45 xo yo (.func f x y) .nilFunc w KV = KV (.bool false) := be_fun Tryd.underlying45 f x y xo yo
theorem sz46 : Tryd.prog.szo 46 = some 1 := by kernel_rfl
theorem ldf46 (a : Addr) : vLoad Tryd.prog 46 (.pointer (some a)) w KV = ∃ v, w.cell? a = some v ∧ KV v := ld_fn 46 _ _ _ a Tryd.underlying46
theorem fe46 (f : Fn) (x y : Array Value) (xo yo : Operand) : vBinO Tryd.prog .eql 46 xo yo (.func f x y) .nilFunc w KV = KV (.bool false) := be_fun Tryd.underlying46 f x y xo yo
theorem sz47 : Tryd.prog.szo 47 = some 1 := by kernel_rfl
theorem ldf47 (a : Addr) : vLoad Tryd.prog 47 (.pointer (some a)) w KV = ∃ v, w.cell? a = some v ∧ KV v := ld_fn 47 _ _ _ a Tryd.underlying47
theorem fe47 (f : Fn) (x y : Array Value) (xo yo : Operand) : vBinO Tryd.prog .eql 47 xo yo (.func f x y) .nilFunc w KV = KV (.bool false) := be_fun Tryd.underlying47 f x y xo yo
theorem sz48 : Tryd.prog.szo 48 = some 1 := by kernel_rfl
theorem ldf48 (a : Addr) : vLoad Tryd.prog 48 (.pointer (some a)) w KV = ∃ v, w.cell? a = some v ∧ KV v := ld_fn 48 _ _ _ a Tryd.underlying48
theorem fe48 (f : Fn) (x y : Array Value) (xo yo : Operand) : vBinO Tryd.prog .eql 48 xo yo (.func f x y) .nilFunc w KV = KV (.bool false) := be_fun Tryd.underlying48 f x y xo yo
theorem sz49 : Tryd.prog.szo 49 = some 1 := by kernel_rfl
theorem ldf49 (a : Addr) : vLoad Tryd.prog 49 (.pointer (some a)) w KV = ∃ v, w.cell? a = some v ∧ KV v := ld_fn 49 _ _ _ a Tryd.underlying49
theorem fe49 (f : Fn) (x y : Array Value) (xo yo : Operand) : vBinO Tryd.prog .eql 49 xo yo (.func f x y) .nilFunc w KV = KV (.bool false) := be_fun Tryd.underlying49 f x y xo yo
theorem sz50 : Tryd.prog.szo 50 = some 1 := by kernel_rfl
theorem ldf50 (a : Addr) : vLoad Tryd.prog 50 (.pointer (some a)) w KV = ∃ v, w.cell? a = some v ∧ KV v := ld_fn 50 _ _ _ a Tryd.underlying50
theorem fe50 (f : Fn) (x y : Array Value) (xo yo : Operand) : vBinO Tryd.prog .eql 50 xo yo (.func f x y) .nilFunc w KV = KV (.bool false) := be_fun Tryd.underlying50 f x y xo yo
theorem sz51 : Tryd.prog.szo 51 = some 1 := by kernel_rfl
theorem ldf51 (a : Addr) : vLoad Tryd.prog 51 (.pointer (some a)) w KV = ∃ v, w.cell? a = some v ∧ KV v := ld_fn 51 _ _ _ a Tryd.underlying51
theorem fe51 (f : Fn) (x y : Array Value) (xo yo : Operand) : vBinO Tryd.prog .eql 51 xo yo (.func f x y) .nilFunc w KV = KV (.bool false) := be_fun Tryd.underlying51 f x y xo yo
theorem sz52 : Tryd.prog.szo 52 = some 1 := by kernel_rfl
theorem ldf52 (a : Addr) : vLoad Tryd.prog 52 (.pointer (some a)) w KV = ∃ v, w.cell? a = some v ∧ KV v := ld_fn 52 _ _ _ a Tryd.underlying52
theorem fe52 (f : Fn) (x y : Array Value) (xo yo : Operand) : vBinO Tryd.prog .eql 52 xo yo (.func f x y) .nilFunc w KV = KV (.bool false) := be_fun Tryd.underlying52 f x y xo yo
theorem sz53 : Tryd.prog.szo 53 = some 1 := by kernel_rfl
theorem ldf53 (a : Addr) : vLoad Tryd.prog 53 (.pointer (some a)) w KV = ∃ v, w.cell? a = some v ∧ KV v := ld_fn 53 _ _ _ a Tryd.underlying53
theorem fe53 (f : Fn) (x y : Array Value) (xo yo : Operand) : vBinO Tryd.prog .eql 53 xo yo (.func f x y) .nilFunc w KV = KV (.bool false) := be_fun Tryd.underlying53 f x y xo yo
theorem sz54 : Tryd.prog.szo 54 = some 1 := by kernel_rfl
theorem ldf54 (a : Addr) : vLoad Tryd.prog 54 (.pointer (some a)) w KV = ∃ v, w.cell? a = some v ∧ KV v := ld_fn 54 _ _ _ a Tryd.underlying54
theorem fe54 (f : Fn) (x y : Array Value) (xo yo : Operand) : vBinO Tryd.prog .eql 54 xo yo (.func f x y) .nilFunc w KV = KV (.bool false) := be_fun Tryd.underlying54 f x y xo yo
theorem sz55 : Tryd.prog.szo 55 = some 1 := by kernel_rfl
theorem ldf55 (a : Addr) : vLoad Tryd.prog 55 (.pointer (some a)) w KV = ∃ v, w.cell? a = some v ∧ KV v := ld_fn 55 _ _ _ a Tryd.underlying55
theorem fe55 (f : Fn) (x y : Array Value) (xo yo : Operand) : vBinO Tryd.prog .eql 55 xo yo (.func f x y) .nilFunc w KV = KV (.bool false) := be_fun Tryd.underlying55 f x y xo yo
theorem sz56 : Tryd.prog.szo 56 = some 1 := by kernel_rfl
theorem ldf56 (a : Addr) : vLoad Tryd.prog 56 (.pointer (some a)) w KV = ∃ v, w.cell? a = some v ∧ KV v := ld_fn 56 _ _ _ a Tryd.underlying56
theorem fe56 (f : Fn) (x y : Array Value) (xo yo : Operand) : vBinO Tryd.prog .eql 56 xo yo (.func f x y) .nilFunc w KV = KV (.bool false) := be_fun Tryd.underlying56 f x y xo yo
theorem sz57 : Tryd.prog.szo 57 = some 1 := by kernel_rfl
theorem ldf57 (a : Addr) : vLoad Tryd.prog 57 (.pointer (some a)) w KV = ∃ v, w.cell? a = some v ∧ KV v := ld_fn 57 _ _ _ a Tryd.underlying57
theorem fe57 (f : Fn) (x y : Array Value) (xo yo : Operand) : vBinO Tryd.prog .eql 57 xo yo (.func f x y) .nilFunc w KV = KV (.bool false) := be_fun Tryd.underlying57 f x y xo yo
theorem sz58 : Tryd.prog.szo 58 = some 1 := by kernel_rfl
theorem ldf58 (a : Addr) : vLoad Tryd.prog 58 (.pointer (some a)) w KV = ∃ v, w.cell? a = some v ∧ KV v := ld_fn 58 _ _ _ a Tryd.underlying58
theorem fe58 (f : Fn) (x y : Array Value) (xo yo : Operand) : vBinO Tryd.prog .eql 58 xo yo (.func f x y) .nilFunc w KV = KV (.bool false) := be_fun Tryd.underlying58 f x y xo yo
theorem sz59 : Tryd.prog.szo 59 = some 1 := by kernel_rfl
theorem ldf59 (a : Addr) : vLoad Tryd.prog 59 (.pointer (some a)) w KV = ∃ v, w.cell? a = some v ∧ KV v := ld_fn 59 _ _ _ a Tryd.underlying59
theorem fe59 (f : Fn) (x y : Array Value) (xo yo : Operand) : vBinO Tryd.prog .eql 59 xo yo (.func f x y) .nilFunc w KV = KV (.bool false) := be_fun Tryd.underlying59 f x y xo yo
theorem sz60 : Tryd.prog.szo 60 = some 1 := by kernel_rfl
theorem ln60 (a : Option Addr) (n c : Nat) : vLen Tryd.prog 60 (.slice a n c) KV = KV (.int .i64 n) := ln_sl 60 9 a n c Tryd.underlying60
theorem snn60 (a : Option Addr) (n c : Nat) : vSlice Tryd.prog 60 (.slice a n c) none none KV = (n ≤ c ∧ KV (.slice a n c)) := sl_nn 60 9 a n c 1 Tryd.underlying60 (by kernel_rfl)
theorem sln60 (a : Option Addr) (n c : Nat) (k : IntKind) (l : Int) : vSlice Tryd.prog 60 (.slice a n c) (some (.int k l)) none KV = ((0 ≤ l ∧ l ≤ n ∧ n ≤ c) ∧ KV (.slice (if c = l.toNat then a else a.map (·.add (l.toNat * 1))) (n - l.toNat) (c - l.toNat))) := sl_ln 60 9 a n c 1 k l Tryd.underlying60 (by kernel_rfl)
theorem snh60 (a : Option Addr) (n c : Nat) (k : IntKind) (l : Int) : vSlice Tryd.prog 60 (.slice a n c) none (some (.int k l)) KV = ((0 ≤ l ∧ l ≤ c) ∧ KV (.slice a l.toNat c)) := sl_nh 60 9 a n c 1 k l Tryd.underlying60 (by kernel_rfl)
theorem slh60 (a : Option Addr) (n c : Nat) (k k' : IntKind) (l m : Int) : vSlice Tryd.prog 60 (.slice a n c) (some (.int k l)) (some (.int k' m)) KV = ((0 ≤ l ∧ l ≤ m ∧ m ≤ c) ∧ KV (.slice (if c = l.toNat then a else a.map (·.add (l.toNat * 1))) (m.toNat - l.toNat) (c - l.toNat))) := sl_lh 60 9 a n c 1 k k' l m Tryd.underlying60 (by kernel_rfl)
theorem ia60 (a : Addr) (n c : Nat) (k : IntKind) (i : Int) : vIndexAddr Tryd.prog 60 (.slice (some a) n c) (.int k i) KV = ((0 ≤ i ∧ i < n) ∧ KV (.pointer (some (a.add (i.toNat * 1))))) := ia_sl 60 9 a n c 1 k i Tryd.underlying60 (by kernel_rfl)
theorem ld60 (a : Addr) : vLoad Tryd.prog 60 (.pointer (some a)) w KV = ∃ v, w.cell? a = some v ∧ KV v := ld_sl 60 9 a Tryd.underlying60
theorem sz61 : Tryd.prog.szo 61 = some 1 := by kernel_rfl
theorem ldf61 (a : Addr) : vLoad Tryd.prog 61 (.pointer (some a)) w KV = ∃ v, w.cell? a = some v ∧ KV v := ld_fn 61 _ _ _ a Tryd.underlying61
theorem fe61 (f : Fn) (x y : Array Value) (xo yo : Operand) : vBinO Tryd.prog .eql 61 xo yo (.func f x y) .nilFunc w KV = KV (.bool false) := be_fun Tryd.underlying61 f x y xo yo
theorem sz63 : Tryd.prog.szo 63 = some 1 := by kernel_rfl
theorem ldf63 (a : Addr) : vLoad Tryd.prog 63 (.pointer (some a)) w KV = ∃ v, w.cell? a = some v ∧ KV v := ld_fn 63 _ _ _ a Tryd.underlying63
theorem fe63 (f : Fn) (x y : Array Value) (xo yo : Operand) : vBinO Tryd.prog .eql 63 xo yo (.func f x y) .nilFunc w KV = KV (.bool false) := be_fun Tryd.underlying63 f x y xo yo
theorem sz64 : Tryd.prog.szo 64 = some 1 := by kernel_rfl
theorem sz65 : Tryd.prog.szo 65 = some 1 := by kernel_rfl
theorem ldf65 (a : Addr) : vLoad Tryd.prog 65 (.pointer (some a)) w KV = ∃ v, w.cell? a = some v ∧ KV v := ld_fn 65 _ _ _ a Tryd.underlying65
theorem fe65 (f : Fn) (x y : Array Value) (xo yo : Operand) : vBinO Tryd.prog .eql 65 xo yo (.func f x y) .nilFunc w KV = KV (.bool false) := be_fun Tryd.underlying65 f x y xo yo
theorem sz66 : Tryd.prog.szo 66 = some 1 := by kernel_rfl
theorem ldf66 (a : Addr) : vLoad Tryd.prog 66 (.pointer (some a)) w KV = ∃ v, w.cell? a = some v ∧ KV v := ld_fn 66 _ _ _ a Tryd.underlying66
theorem fe66 (f : Fn) (x y : Array Value) (xo yo : Operand) : vBinO Tryd.prog .eql 66 xo yo (.func f x y) .nilFunc w KV = KV (.bool false) := be_fun Tryd.underlying66 f x y xo yo
theorem sz67 : Tryd.prog.szo 67 = some 1 := by kernel_rfl
theorem ldf67 (a : Addr) : vLoad Tryd.prog 67 (.pointer (some a)) w KV = ∃ v, w.cell? a = some v ∧ KV v := ld_fn 67 _ _ _ a Tryd.underlying67
theorem fe67 (f : Fn) (x y : Array Value) (xo yo : Operand) : vBinO Tryd.prog .eql 67 xo yo (.func f x y) .nilFunc w KV = KV (.bool false) := be_fun Tryd.underlying67 f x y xo yo
theorem sz68 : Tryd.prog.szo 68 = some 1 := by kernel_rfl
theorem ldf68 (a : Addr) : vLoad Tryd.prog 68 (.pointer (some a)) w KV = ∃ v, w.cell? a = some v ∧ KV v := ld_fn 68 _ _ _ a Tryd.underlying68
theorem fe68 (f : Fn) (x y : Array Value) (xo yo : Operand) : vBinO Tryd.prog .eql 68 xo yo (.func f x y) .nilFunc w KV = KV (.bool false) := be_fun Tryd.underlying68 f x y xo yo
theorem sz69 : Tryd.prog.szo 69 = some 1 := by kernel_rfl
theorem ld69 (a : Addr) : vLoad Tryd.prog 69 (.pointer (some a)) w KV = ∃ v, w.cell? a = some v ∧ KV v := ld_int 69 a .u64 Tryd.underlying69
theorem cv69_2 (k : IntKind) (n : Int) : vConv Tryd.prog 69 2 (.int k n) w KV = vWrap .i64 n KV := cv_int 69 2 _ .i64 k n Tryd.underlying69 Tryd.underlying2
theorem cp69_2 : convPure Tryd.prog 69 2 = true := by kernel_rfl
theorem cv69_3 (k : IntKind) (n : Int) : vConv Tryd.prog 69 3 (.int k n) w KV = vWrap .i64 n KV := cv_int 69 3 _ .i64 k n Tryd.underlying69 Tryd.underlying3
theorem cp69_3 : convPure Tryd.prog 69 3 = true := by kernel_rfl
theorem cv69_5 (k : IntKind) (n : Int) : vConv Tryd.prog 69 5 (.int k n) w KV = vWrap .u8 n KV := cv_int 69 5 _ .u8 k n Tryd.underlying69 Tryd.underlying5
theorem cp69_5 : convPure Tryd.prog 69 5 = true := by kernel_rfl
theorem cv69_12 (k : IntKind) (n : Int) : vConv Tryd.prog 69 12 (.int k n) w KV = vWrap .u64 n KV := cv_int 69 12 _ .u64 k n Tryd.underlying69 Tryd.underlying12
theorem cp69_12 : convPure Tryd.prog 69 12 = true := by kernel_rfl
theorem cv69_21 (k : IntKind) (n : Int) : vConv Tryd.prog 69 21 (.int k n) w KV = vWrap .i32 n KV := cv_int 69 21 _ .i32 k n Tryd.underlying69 Tryd.underlying21
theorem cp69_21 : convPure Tryd.prog 69 21 = true := by kernel_rfl
theorem cv69_28 (k : IntKind) (n : Int) : vConv Tryd.prog 69 28 (.int k n) w KV = vWrap .i64 n KV := cv_int 69 28 _ .i64 k n Tryd.underlying69 Tryd.underlying28
theorem cp69_28 : convPure Tryd.prog 69 28 = true := by kernel_rfl
theorem cv69_69 (k : IntKind) (n : Int) : vConv Tryd.prog 69 69 (.int k n) w KV = vWrap .u64 n KV := cv_int 69 69 _ .u64 k n Tryd.underlying69 Tryd.underlying69
theorem cp69_69 : convPure Tryd.prog 69 69 = true := by kernel_rfl
theorem cv69_78 (k : IntKind) (n : Int) : vConv Tryd.prog 69 78 (.int k n) w KV = vWrap .i64 n KV := cv_int 69 78 _ .i64 k n Tryd.underlying69 Tryd.underlying78
theorem cp69_78 : convPure Tryd.prog 69 78 = true := by kernel_rfl
theorem cv69_86 (k : IntKind) (n : Int) : vConv Tryd.prog 69 86 (.int k n) w KV = vWrap .u32 n KV := cv_int 69 86 _ .u32 k n Tryd.underlying69 Tryd.underlying86
theorem cp69_86 : convPure Tryd.prog 69 86 = true := by kernel_rfl
theorem cv69_88 (k : IntKind) (n : Int) : vConv Tryd.prog 69 88 (.int k n) w KV = vWrap .u64 n KV := cv_int 69 88 _ .u64 k n Tryd.underlying69 Tryd.underlying88
theorem cp69_88 : convPure Tryd.prog 69 88 = true := by kernel_rfl
theorem cv69_100 (k : IntKind) (n : Int) : vConv Tryd.prog 69 100 (.int k n) w KV = vWrap .u64 n KV := cv_int 69 100 _ .u64 k n Tryd.underlying69 Tryd.underlying100
theorem cp69_100 : convPure Tryd.prog 69 100 = true := by kernel_rfl
theorem sz71 : Tryd.prog.szo 71 = some 1 := by kernel_rfl
theorem ldf71 (a : Addr) : vLoad Tryd.prog 71 (.pointer (some a)) w KV = ∃ v, w.cell? a = some v ∧ KV v := ld_fn 71 _ _ _ a Tryd.underlying71
theorem fe71 (f : Fn) (x y : Array Value) (xo yo : Operand) : vBinO Tryd.prog .eql 71 xo yo (.func f x y) .nilFunc w KV = KV (.bool false) := be_fun Tryd.underlying71 f x y xo yo
theorem sz73 : Tryd.prog.szo 73 = some 1 := by kernel_rfl
theorem ldf73 (a : Addr) : vLoad Tryd.prog 73 (.pointer (some a)) w KV = ∃ v, w.cell? a = some v ∧ KV v := ld_fn 73 _ _ _ a Tryd.underlying73
theorem fe73 (f : Fn) (x y : Array Value) (xo yo : Operand) : vBinO Tryd.prog .eql 73 xo yo (.func f x y) .nilFunc w KV = KV (.bool false) := be_fun Tryd.underlying73 f x y xo yo
theorem sz74 : Tryd.prog.szo 74 = some 1 := by kernel_rfl
theorem ldf74 (a : Addr) : vLoad Tryd.prog 74 (.pointer (some a)) w KV = ∃ v, w.cell? a = some v ∧ KV v := ld_fn 74 _ _ _ a Tryd.underlying74
theorem fe74 (f : Fn) (x y : Array Value) (xo yo : Operand) : vBinO Tryd.prog .eql 74 xo yo (.func f x y) .nilFunc w KV = KV (.bool false) := be_fun Tryd.underlying74 f x y xo yo
theorem sz75 : Tryd.prog.szo 75 = some 1 := by kernel_rfl
theorem ldf75 (a : Addr) : vLoad Tryd.prog 75 (.pointer (some a)) w KV = ∃ v, w.cell? a = some v ∧ KV v := ld_fn 75 _ _ _ a Tryd.underlying75
theorem fe75 (f : Fn) (x y : Array Value) (xo yo : Operand) : vBinO Tryd.prog .eql 75 xo yo (.func f x y) .nilFunc w KV = KV (.bool false) := be_fun Tryd.underlying75 f x y xo yo
theorem sz76 : Tryd.prog.szo 76 = some 1 := by kernel_rfl
theorem ldf76 (a : Addr) : vLoad Tryd.prog 76 (.pointer (some a)) w KV = ∃ v, w.cell? a = some v ∧ KV v := ld_fn 76 _ _ _ a Tryd.underlying76
theorem fe76 (f : Fn) (x y : Array Value) (xo yo : Operand) : vBinO Tryd.prog .eql 76 xo yo (.func f x y) .nilFunc w KV = KV (.bool false) := be_fun Tryd.underlying76 f x y xo yo
theorem sz77 : Tryd.prog.szo 77 = some 1 := by kernel_rfl
theorem ldf77 (a : Addr) : vLoad Tryd.prog 77 (.pointer (some a)) w KV = ∃ v, w.cell? a = some v ∧ KV v := ld_fn 77 _ _ _ a Tryd.underlying77
theorem fe77 (f : Fn) (x y : Array Value) (xo yo : Operand) : vBinO Tryd.prog .eql 77 xo yo (.func f x y) .nilFunc w KV = KV (.bool false) := be_fun Tryd.underlying77 f x y xo yo
theorem sz78 : Tryd.prog.szo 78 = some 1 := by kernel_rfl
theorem ld78 (a : Addr) : vLoad Tryd.prog 78 (.pointer (some a)) w KV = ∃ v, w.cell? a = some v ∧ KV v := ld_int 78 a .i64 Tryd.underlying78
theorem cv78_2 (k : IntKind) (n : Int) : vConv Tryd.prog 78 2 (.int k n) w KV = vWrap .i64 n KV := cv_int 78 2 _ .i64 k n Tryd.underlying78 Tryd.underlying2
theorem cp78_2 : convPure Tryd.prog 78 2 = true := by kernel_rfl
theorem cv78_3 (k : IntKind) (n : Int) : vConv Tryd.prog 78 3 (.int k n) w KV = vWrap .i64 n KV := cv_int 78 3 _ .i64 k n Tryd.underlying78 Tryd.underlying3
theorem cp78_3 : convPure Tryd.prog 78 3 = true := by kernel_rfl
theorem cv78_5 (k : IntKind) (n : Int) : vConv Tryd.prog 78 5 (.int k n) w KV = vWrap .u8 n KV := cv_int 78 5 _ .u8 k n Tryd.underlying78 Tryd.underlying5
theorem cp78_5 : convPure Tryd.prog 78 5 = true := by kernel_rfl
theorem cv78_12 (k : IntKind) (n : Int) : vConv Tryd.prog 78 12 (.int k n) w KV = vWrap .u64 n KV := cv_int 78 12 _ .u64 k n Tryd.underlying78 Tryd.underlying12
theorem cp78_12 : convPure Tryd.prog 78 12 = true := by kernel_rfl
theorem cv78_21 (k : IntKind) (n : Int) : vConv Tryd.prog 78 21 (.int k n) w KV = vWrap .i32 n KV := cv_int 78 21 _ .i32 k n Tryd.underlying78 Tryd.underlying21
theorem cp78_21 : convPure Tryd.prog 78 21 = true := by kernel_rfl
theorem cv78_28 (k : IntKind) (n : Int) : vConv Tryd.prog 78 28 (.int k n) w KV = vWrap .i64 n KV := cv_int 78 28 _ .i64 k n Tryd.underlying78 Tryd.underlying28
theorem cp78_28 : convPure Tryd.prog 78 28 = true := by kernel_rfl
theorem cv78_69 (k : IntKind) (n : Int) : vConv Tryd.prog 78 69 (.int k n) w KV = vWrap .u64 n KV := cv_int 78 69 _ .u64 k n Tryd.underlying78 Tryd.underlying69
theorem cp78_69 : convPure Tryd.prog 78 69 = true := by kernel_rfl
theorem cv78_78 (k : IntKind) (n : Int) : vConv Tryd.prog 78 78 (.int k n) w KV = vWrap .i64 n KV := cv_int 78 78 _ .i64 k n Tryd.underlying78 Tryd.underlying78
theorem cp78_78 : convPure Tryd.prog 78 78 = true := by kernel_rfl
theorem cv78_86 (k : IntKind) (n : Int) : vConv Tryd.prog 78 86 (.int k n) w KV = vWrap .u32 n KV := cv_int 78 86 _ .u32 k n Tryd.underlying78 Tryd.underlying86
theorem cp78_86 : convPure Tryd.prog 78 86 = true := by kernel_rfl
theorem cv78_88 (k : IntKind) (n : Int) : vConv Tryd.prog 78 88 (.int k n) w KV = vWrap .u64 n KV := cv_int 78 88 _ .u64 k n Tryd.underlying78 Tryd.underlying88
theorem cp78_88 : convPure Tryd.prog 78 88 = true := by kernel_rfl
theorem cv78_100 (k : IntKind) (n : Int) : vConv Tryd.prog 78 100 (.int k n) w KV = vWrap .u64 n KV := cv_int 78 100 _ .u64 k n Tryd.underlying78 Tryd.underlying100
theorem cp78_100 : convPure Tryd.prog 78 100 = true := by kernel_rfl
theorem sz80 : Tryd.prog.szo 80 = some 1 := by kernel_rfl
theorem ldf80 (a : Addr) : vLoad Tryd.prog 80 (.pointer (some a)) w KV = ∃ v, w.cell? a = some v ∧ KV v := ld_fn 80 _ _ _ a Tryd.underlying80
theorem fe80 (f : Fn) (x y : Array Value) (xo yo : Operand) : vBinO Tryd.prog .eql 80 xo yo (.func f x y) .nilFunc w KV = KV (.bool false) := be_fun Tryd.underlying80 f x y xo yo
theorem sz81 : Tryd.prog.szo 81 = some 1 := by kernel_rfl
theorem ldf81 (a : Addr) : vLoad Tryd.prog 81 (.pointer (some a)) w KV = ∃ v, w.cell? a = some v ∧ KV v := ld_fn 81 _ _ _ a Tryd.underlying81
theorem fe81 (f : Fn) (x y : Array Value) (xo yo : Operand) : vBinO Tryd.prog .eql 81 xo yo (.func f x y) .nilFunc w KV = KV (.bool false) := be_fun Tryd.underlying81 f x y xo yo
theorem sz82 : Tryd.prog.szo 82 = some 1 := by kernel_rfl
theorem ldf82 (a : Addr) : vLoad Tryd.prog 82 (.pointer (some a)) w KV = ∃ v, w.cell? a = some v ∧ KV v := ld_fn 82 _ _ _ a Tryd.underlying82
theorem fe82 (f : Fn) (x y : Array Value) (xo yo : Operand) : vBinO Tryd.prog .eql 82 xo yo (.func f x y) .nilFunc w KV = KV (.bool false) := be_fun Tryd.underlying82 f x y xo yo
theorem sz84 : Tryd.prog.szo 84 = some 1 := by kernel_rfl
theorem ldf84 (a : Addr) : vLoad Tryd.prog 84 (.pointer (some a)) w KV = ∃ v, w.cell? a = some v ∧ KV v := ld_fn 84 _ _ _ a Tryd.underlying84
theorem fe84 (f : Fn) (x y : Array Value) (xo yo : Operand) : vBinO Tryd.prog .eql 84 xo yo (.func f x y) .nilFunc w KV = KV (.bool false) := be_fun Tryd.underlying84 f x y xo yo
theorem sz85 : Tryd.prog.szo 85 = some 1 := by kernel_rfl
theorem ldf85 (a : Addr) : vLoad Tryd.prog 85 (.pointer (some a)) w KV = ∃ v, w.cell? a = some v ∧ KV v := ld_fn 85 _ _ _ a Tryd.underlying85
theorem fe85 (f : Fn) (x y : Array Value) (xo yo : Operand) : vBinO Tryd.prog .eql 85 xo yo (.func f x y) .nilFunc w KV = KV (.bool false) := be_fun Tryd.underlying85 f x y xo yo
theorem sz86 : Tryd.prog.szo 86 = some 1 := by kernel_rfl
theorem ld86 (a : Addr) : vLoad Tryd.prog 86 (.pointer (some a)) w KV = ∃ v, w.cell? a = some v ∧ KV v := ld_int 86 a .u32 Tryd.underlying86
theorem cv86_2 (k : IntKind) (n : Int) : vConv Tryd.prog 86 2 (.int k n) w KV = vWrap .i64 n KV := cv_int 86 2 _ .i64 k n Tryd.underlying86 Tryd.underlying2
theorem cp86_2 : convPure Tryd.prog 86 2 = true := by kernel_rfl
theorem cv86_3 (k : IntKind) (n : Int) : vConv Tryd.prog 86 3 (.int k n) w KV = vWrap .i64 n KV := cv_int 86 3 _ .i64 k n Tryd.underlying86 Tryd.underlying3
theorem cp86_3 : convPure Tryd.prog 86 3 = true := by kernel_rfl
theorem cv86_5 (k : IntKind) (n : Int) : vConv Tryd.prog 86 5 (.int k n) w KV = vWrap .u8 n KV := cv_int 86 5 _ .u8 k n Tryd.underlying86 Tryd.underlying5
theorem cp86_5 : convPure Tryd.prog 86 5 = true := by kernel_rfl
theorem cv86_12 (k : IntKind) (n : Int) : vConv Tryd.prog 86 12 (.int k n) w KV = vWrap .u64 n KV := cv_int 86 12 _ .u64 k n Tryd.underlying86 Tryd.underlying12
theorem cp86_12 : convPure Tryd.prog 86 12 = true := by kernel_rfl
theorem cv86_21 (k : IntKind) (n : Int) : vConv Tryd.prog 86 21 (.int k n) w KV = vWrap .i32 n KV := cv_int 86 21 _ .i32 k n Tryd.underlying86 Tryd.underlying21
theorem cp86_21 : convPure Tryd.prog 86 21 = true := by kernel_rfl
theorem cv86_28 (k : IntKind) (n : Int) : vConv Tryd.prog 86 28 (.int k n) w KV = vWrap .i64 n KV := cv_int 86 28 _ .i64 k n Tryd.underlying86 Tryd.underlying28
theorem cp86_28 : convPure Tryd.prog 86 28 = true := by kernel_rfl
theorem cv86_69 (k : IntKind) (n : Int) : vConv Tryd.prog 86 69 (.int k n) w KV = vWrap .u64 n KV := cv_int 86 69 _ .u64 k n Tryd.underlying86 Tryd.underlying69
theorem cp86_69 : convPure Tryd.prog 86 69 = true := by kernel_rfl
theorem cv86_78 (k : IntKind) (n : Int) : vConv Tryd.prog 86 78 (.int k n) w KV = vWrap .i64 n KV := cv_int 86 78 _ .i64 k n Tryd.underlying86 Tryd.underlying78
theorem cp86_78 : convPure Tryd.prog 86 78 = true := by kernel_rfl
theorem cv86_86 (k : IntKind) (n : Int) : vConv Tryd.prog 86 86 (.int k n) w KV = vWrap .u32 n KV := cv_int 86 86 _ .u32 k n Tryd.underlying86 Tryd.underlying86
theorem cp86_86 : convPure Tryd.prog 86 86 = true := by kernel_rfl
theorem cv86_88 (k : IntKind) (n : Int) : vConv Tryd.prog 86 88 (.int k n) w KV = vWrap .u64 n KV := cv_int 86 88 _ .u64 k n Tryd.underlying86 Tryd.underlying88
theorem cp86_88 : convPure Tryd.prog 86 88 = true := by kernel_rfl
theorem cv86_100 (k : IntKind) (n : Int) : vConv Tryd.prog 86 100 (.int k n) w KV = vWrap .u64 n KV := cv_int 86 100 _ .u64 k n Tryd.underlying86 Tryd.underlying100
theorem cp86_100 : convPure Tryd.prog 86 100 = true := by kernel_rfl
theorem sz87 : Tryd.prog.szo 87 = some 1 := by kernel_rfl
theorem ldf87 (a : Addr) : vLoad Tryd.prog 87 (.pointer (some a)) w KV = ∃ v, w.cell? a = some v ∧ KV v := ld_fn 87 _ _ _ a Tryd.underlying87
theorem fe87 (f : Fn) (x y : Array Value) (xo yo : Operand) : vBinO Tryd.prog .eql 87 xo yo (.func f x y) .nilFunc w KV = KV (.bool false) := be_fun Tryd.underlying87 f x y xo yo
theorem sz88 : Tryd.prog.szo 88 = some 1 := by kernel_rfl
theorem ld88 (a : Addr) : vLoad Tryd.prog 88 (.pointer (some a)) w KV = ∃ v, w.cell? a = some v ∧ KV v := ld_int 88 a .u64 Tryd.underlying88
theorem cv88_2 (k : IntKind) (n : Int) : vConv Tryd.prog 88 2 (.int k n) w KV = vWrap .i64 n KV := cv_int 88 2 _ .i64 k n Tryd.underlying88 Tryd.underlying2
theorem cp88_2 : convPure Tryd.prog 88 2 = true := by kernel_rfl
theorem cv88_3 (k : IntKind) (n : Int) : vConv Tryd.prog 88 3 (.int k n) w KV = vWrap .i64 n KV := cv_int 88 3 _ .i64 k n Tryd.underlying88 Tryd.underlying3
theorem cp88_3 : convPure Tryd.prog 88 3 = true := by kernel_rfl
theorem cv88_5 (k : IntKind) (n : Int) : vConv Tryd.prog 88 5 (.int k n) w KV = vWrap .u8 n KV := cv_int 88 5 _ .u8 k n Tryd.underlying88 Tryd.underlying5
theorem cp88_5 : convPure Tryd.prog 88 5 = true := by kernel_rfl
theorem cv88_12 (k : IntKind) (n : Int) : vConv Tryd.prog 88 12 (.int k n) w KV = vWrap .u64 n KV := cv_int 88 12 _ .u64 k n Tryd.underlying88 Tryd.underlying12
theorem cp88_12 : convPure Tryd.prog 88 12 = true := by kernel_rfl
theorem cv88_21 (k : IntKind) (n : Int) : vConv Tryd.prog 88 21 (.int k n) w KV = vWrap .i32 n KV := cv_int 88 21 _ .i32 k n Tryd.underlying88 Tryd.underlying21
theorem cp88_21 : convPure Tryd.prog 88 21 = true := by kernel_rfl
theorem cv88_28 (k : IntKind) (n : Int) : vConv Tryd.prog 88 28 (.int k n) w KV = vWrap .i64 n KV := cv_int 88 28 _ .i64 k n Tryd.underlying88 Tryd.underlying28
theorem cp88_28 : convPure Tryd.prog 88 28 = true := by kernel_rfl
theorem cv88_69 (k : IntKind) (n : Int) : vConv Tryd.prog 88 69 (.int k n) w KV = vWrap .u64 n KV := cv_int 88 69 _ .u64 k n Tryd.underlying88 Tryd.underlying69
theorem cp88_69 : convPure Tryd.prog 88 69 = true := by kernel_rfl
theorem cv88_78 (k : IntKind) (n : Int) : vConv Tryd.prog 88 78 (.int k n) w KV = vWrap .i64 n KV := cv_int 88 78 _ .i64 k n Tryd.underlying88 Tryd.underlying78
theorem cp88_78 : convPure Tryd.prog 88 78 = true := by kernel_rfl
theorem cv88_86 (k : IntKind) (n : Int) : vConv Tryd.prog 88 86 (.int k n) w KV = vWrap .u32 n KV := cv_int 88 86 _ .u32 k n Tryd.underlying88 Tryd.underlying86
theorem cp88_86 : convPure Tryd.prog 88 86 = true := by kernel_rfl
theorem cv88_88 (k : IntKind) (n : Int) : vConv Tryd.prog 88 88 (.int k n) w KV = vWrap .u64 n KV := cv_int 88 88 _ .u64 k n Tryd.underlying88 Tryd.underlying88
theorem cp88_88 : convPure Tryd.prog 88 88 = true := by kernel_rfl
theorem cv88_100 (k : IntKind) (n : Int) : vConv Tryd.prog 88 100 (.int k n) w KV = vWrap .u64 n KV := cv_int 88 100 _ .u64 k n Tryd.underlying88 Tryd.underlying100
theorem cp88_100 : convPure Tryd.prog 88 100 = true := by kernel_rfl
theorem sz89 : Tryd.prog.szo 89 = some 1 := by kernel_rfl
theorem pe89 (a : Option Addr) (xo yo : Operand) : vBinO Tryd.prog .eql 89 xo yo (.pointer a) (.pointer none) w KV = KV (.bool a.isNone) := be_ptr Tryd.underlying89 a xo yo
theorem pn89 (a : Option Addr) (xo yo : Operand) : vBinO Tryd.prog .neq 89 xo yo (.pointer a) (.pointer none) w KV = KV (.bool !a.isNone) := bn_ptr Tryd.underlying89 a xo yo
theorem ld89 (a : Addr) : vLoad Tryd.prog 89 (.pointer (some a)) w KV = ∃ v, w.cell? a = some v ∧ KV v := ld_ptr 89 92 a Tryd.underlying89
theorem sz90 : Tryd.prog.szo 90 = some 1 := by kernel_rfl
theorem ln90 (a : Option Addr) (n c : Nat) : vLen Tryd.prog 90 (.slice a n c) KV = KV (.int .i64 n) := ln_sl 90 5 a n c Tryd.underlying90
theorem snn90 (a : Option Addr) (n c : Nat) : vSlice Tryd.prog 90 (.slice a n c) none none KV = (n ≤ c ∧ KV (.slice a n c)) := sl_nn 90 5 a n c 1 Tryd.underlying90 (by kernel_rfl)
theorem sln90 (a : Option Addr) (n c : Nat) (k : IntKind) (l : Int) : vSlice Tryd.prog 90 (.slice a n c) (some (.int k l)) none KV = ((0 ≤ l ∧ l ≤ n ∧ n ≤ c) ∧ KV (.slice (if c = l.toNat then a else a.map (·.add (l.toNat * 1))) (n - l.toNat) (c - l.toNat))) := sl_ln 90 5 a n c 1 k l Tryd.underlying90 (by kernel_rfl)
theorem snh90 (a : Option Addr) (n c : Nat) (k : IntKind) (l : Int) : vSlice Tryd.prog 90 (.slice a n c) none (some (.int k l)) KV = ((0 ≤ l ∧ l ≤ c) ∧ KV (.slice a l.toNat c)) := sl_nh 90 5 a n c 1 k l Tryd.underlying90 (by kernel_rfl)
theorem slh90 (a : Option Addr) (n c : Nat) (k k' : IntKind) (l m : Int) : vSlice Tryd.prog 90 (.slice a n c) (some (.int k l)) (some (.int k' m)) KV = ((0 ≤ l ∧ l ≤ m ∧ m ≤ c) ∧ KV (.slice (if c = l.toNat then a else a.map (·.add (l.toNat * 1))) (m.toNat - l.toNat) (c - l.toNat))) := sl_lh 90 5 a n c 1 k k' l m Tryd.underlying90 (by kernel_rfl)
theorem ia90 (a : Addr) (n c : Nat) (k : IntKind) (i : Int) : vIndexAddr Tryd.prog 90 (.slice (some a) n c) (.int k i) KV = ((0 ≤ i ∧ i < n) ∧ KV (.pointer (some (a.add (i.toNat * 1))))) := ia_sl 90 5 a n c 1 k i Tryd.underlying90 (by kernel_rfl)
theorem ld90 (a : Addr) : vLoad Tryd.prog 90 (.pointer (some a)) w KV = ∃ v, w.cell? a = some v ∧ KV v := ld_sl 90 5 a Tryd.underlying90
theorem cv90_9 (a : Option Addr) (n c : Nat) : vConv Tryd.prog 90 9 (.slice a n c) w KV = ∃ l, ReadsBytes w a n l ∧ KV (Str l) := cv_str 90 9 5 a n c Tryd.underlying90 Tryd.underlying9 Tryd.underlying5
theorem cp90_9 : convPure Tryd.prog 90 9 = true := by kernel_rfl
theorem cp9_90 : convPure Tryd.prog 9 90 = false := by kernel_rfl
theorem sz91 : Tryd.prog.szo 91 = some 2 := by kernel_rfl
theorem ld91 (a : Addr) : vLoad Tryd.prog 91 (.pointer (some a)) w KV = ∃ cs : List Value, (cs.length = 2 ∧ Reads w a cs) ∧ KV (.agg cs.toArray) := ld_st 91 2 a _ Tryd.underlying91 (by kernel_rfl)
theorem bd91 (p0 : Option Addr) (a1 : Option Addr) (n1 c1 : Nat) : vBuild Tryd.prog 91 [(0, .pointer p0), (1, .slice a1 n1 c1)] KV = KV (.agg #[.pointer p0, .slice a1 n1 c1]) := bd_of (by kernel_rfl)
theorem bz91 : vBuild Tryd.prog 91 [] KV = KV (.agg #[.pointer none, .slice none 0 0]) := bd_of (by kernel_rfl)
theorem fd91_0 (l : List Value) : vField Tryd.prog 91 (.agg l.toArray) 0 KV = vNth l 0 KV := fd_cell 91 0 l Tryd.underlying91 rfl (by kernel_rfl) (by kernel_rfl) (by kernel_rfl)
theorem fa91_0 (a : Addr) : vFieldAddr Tryd.prog 91 (.pointer (some a)) 0 KV = KV (.pointer (some (a.add 0))) := fa_st 91 0 a (m := 0) Tryd.underlying91 rfl (by kernel_rfl)
theorem fd91_1 (l : List Value) : vField Tryd.prog 91 (.agg l.toArray) 1 KV = vNth l 1 KV := fd_cell 91 1 l Tryd.underlying91 rfl (by kernel_rfl) (by kernel_rfl) (by kernel_rfl)
theorem fa91_1 (a : Addr) : vFieldAddr Tryd.prog 91 (.pointer (some a)) 1 KV = KV (.pointer (some (a.add 1))) := fa_st 91 1 a (m := 0) Tryd.underlying91 rfl (by kernel_rfl)
theorem sz92 : Tryd.prog.szo 92 = some 2 := by kernel_rfl
theorem ld92 (a : Addr) : vLoad Tryd.prog 92 (.pointer (some a)) w KV = ∃ cs : List Value, (cs.length = 2 ∧ Reads w a cs) ∧ KV (.agg cs.toArray) := ld_st 92 2 a _ Tryd.underlying92 (by kernel_rfl)
theorem bd92 (p0 : Option Addr) (a1 : Option Addr) (n1 c1 : Nat) : vBuild Tryd.prog 92 [(0, .pointer p0), (1, .slice a1 n1 c1)] KV = KV (.agg #[.pointer p0, .slice a1 n1 c1]) := bd_of (by kernel_rfl)
theorem bz92 : vBuild Tryd.prog 92 [] KV = KV (.agg #[.pointer none, .slice none 0 0]) := bd_of (by kernel_rfl)
theorem fd92_0 (l : List Value) : vField Tryd.prog 92 (.agg l.toArray) 0 KV = vNth l 0 KV := fd_cell 92 0 l Tryd.underlying92 rfl (by kernel_rfl) (by kernel_rfl) (by kernel_rfl)
theorem fa92_0 (a : Addr) : vFieldAddr Tryd.prog 92 (.pointer (some a)) 0 KV = KV (.pointer (some (a.add 0))) := fa_st 92 0 a (m := 0) Tryd.underlying92 rfl (by kernel_rfl)
theorem fd92_1 (l : List Value) : vField Tryd.prog 92 (.agg l.toArray) 1 KV = vNth l 1 KV := fd_cell 92 1 l Tryd.underlying92 rfl (by kernel_rfl) (by kernel_rfl) (by kernel_rfl)
theorem fa92_1 (a : Addr) : vFieldAddr Tryd.prog 92 (.pointer (some a)) 1 KV = KV (.pointer (some (a.add 1))) := fa_st 92 1 a (m := 0) Tryd.underlying92 rfl (by kernel_rfl)
theorem sz93 : Tryd.prog.szo 93 = some 1 := by kernel_rfl
theorem ldf93 (a : Addr) : vLoad Tryd.prog 93 (.pointer (some a)) w KV = ∃ v, w.cell? a = some v ∧ KV v := ld_fn 93 _ _ _ a Tryd.underlying93
theorem fe93 (f : Fn) (x y : Array Value) (xo yo : Operand) : vBinO Tryd.prog .eql 93 xo yo (.func f x y) .nilFunc w KV = KV (.bool false) := be_fun Tryd.underlying93 f x y xo yo
theorem sz94 : Tryd.prog.szo 94 = some 1 := by kernel_rfl
theorem sz95 : Tryd.prog.szo 95 = some 1 := by kernel_rfl
theorem sz97 : Tryd.prog.szo 97 = some 1 := by kernel_rfl
theorem ldf97 (a : Addr) : vLoad Tryd.prog 97 (.pointer (some a)) w KV = ∃ v, w.cell? a = some v ∧ KV v := ld_fn 97 _ _ _ a Tryd.underlying97
theorem fe97 (f : Fn) (x y : Array Value) (xo yo : Operand) : vBinO Tryd.prog .eql 97 xo yo (.func f x y) .nilFunc w KV = KV (.bool false) := be_fun Tryd.underlying97 f x y xo yo
theorem sz98 : Tryd.prog.szo 98 = some 1 := by kernel_rfl
theorem ldf98 (a : Addr) : vLoad Tryd.prog 98 (.pointer (some a)) w KV = ∃ v, w.cell? a = some v ∧ KV v := ld_fn 98 _ _ _ a Tryd.underlying98
theorem fe98 (f : Fn) (x y : Array Value) (xo yo : Operand) : vBinO Tryd.prog .eql 98 xo yo (.func f x y) .nilFunc w KV = KV (.bool false) := be_fun Tryd.underlying98 f x y xo yo
theorem sz99 : Tryd.prog.szo 99 = some 1 := by kernel_rfl
theorem ldf99 (a : Addr) : vLoad Tryd.prog 99 (.pointer (some a)) w KV = ∃ v, w.cell? a = some v ∧ KV v := ld_fn 99 _ _ _ a Tryd.underlying99
theorem fe99 (f : Fn) (x y : Array Value) (xo yo : Operand) : vBinO Tryd.prog .eql 99 xo yo (.func f x y) .nilFunc w KV = KV (.bool false) := be_fun Tryd.underlying99 f x y xo yo
theorem sz100 : Tryd.prog.szo 100 = some 1 := by kernel_rfl
theorem ld100 (a : Addr) : vLoad Tryd.prog 100 (.pointer (some a)) w KV = ∃ v, w.cell? a = some v ∧ KV v := ld_int 100 a .u64 Tryd.underlying100
theorem cv100_2 (k : IntKind) (n : Int) : vConv Tryd.prog 100 2 (.int k n) w KV = vWrap .i64 n KV := cv_int 100 2 _ .i64 k n Tryd.underlying100 Tryd.underlying2
theorem cp100_2 : convPure Tryd.prog 100 2 = true := by kernel_rfl
theorem cv100_3 (k : IntKind) (n : Int) : vConv Tryd.prog 100 3 (.int k n) w KV = vWrap .i64 n KV := cv_int 100 3 _ .i64 k n Tryd.underlying100 Tryd.underlying3
theorem cp100_3 : convPure Tryd.prog 100 3 = true := by kernel_rfl
theorem cv100_5 (k : IntKind) (n : Int) : vConv Tryd.prog 100 5 (.int k n) w KV = vWrap .u8 n KV := cv_int 100 5 _ .u8 k n Tryd.underlying100 Tryd.underlying5
theorem cp100_5 : convPure Tryd.prog 100 5 = true := by kernel_rfl
theorem cv100_12 (k : IntKind) (n : Int) : vConv Tryd.prog 100 12 (.int k n) w KV = vWrap .u64 n KV := cv_int 100 12 _ .u64 k n Tryd.underlying100 Tryd.underlying12
theorem cp100_12 : convPure Tryd.prog 100 12 = true := by kernel_rfl
theorem cv100_21 (k : IntKind) (n : Int) : vConv Tryd.prog 100 21 (.int k n) w KV = vWrap .i32 n KV := cv_int 100 21 _ .i32 k n Tryd.underlying100 Tryd.underlying21
theorem cp100_21 : convPure Tryd.prog 100 21 = true := by kernel_rfl
theorem cv100_28 (k : IntKind) (n : Int) : vConv Tryd.prog 100 28 (.int k n) w KV = vWrap .i64 n KV := cv_int 100 28 _ .i64 k n Tryd.underlying100 Tryd.underlying28
theorem cp100_28 : convPure Tryd.prog 100 28 = true := by kernel_rfl
theorem cv100_69 (k : IntKind) (n : Int) : vConv Tryd.prog 100 69 (.int k n) w KV = vWrap .u64 n KV := cv_int 100 69 _ .u64 k n Tryd.underlying100 Tryd.underlying69
theorem cp100_69 : convPure Tryd.prog 100 69 = true := by kernel_rfl
theorem cv100_78 (k : IntKind) (n : Int) : vConv Tryd.prog 100 78 (.int k n) w KV = vWrap .i64 n KV := cv_int 100 78 _ .i64 k n Tryd.underlying100 Tryd.underlying78
theorem cp100_78 : convPure Tryd.prog 100 78 = true := by kernel_rfl
theorem cv100_86 (k : IntKind) (n : Int) : vConv Tryd.prog 100 86 (.int k n) w KV = vWrap .u32 n KV := cv_int 100 86 _ .u32 k n Tryd.underlying100 Tryd.underlying86
theorem cp100_86 : convPure Tryd.prog 100 86 = true := by kernel_rfl
theorem cv100_88 (k : IntKind) (n : Int) : vConv Tryd.prog 100 88 (.int k n) w KV = vWrap .u64 n KV := cv_int 100 88 _ .u64 k n Tryd.underlying100 Tryd.underlying88
theorem cp100_88 : convPure Tryd.prog 100 88 = true := by kernel_rfl
theorem cv100_100 (k : IntKind) (n : Int) : vConv Tryd.prog 100 100 (.int k n) w KV = vWrap .u64 n KV := cv_int 100 100 _ .u64 k n Tryd.underlying100 Tryd.underlying100
theorem cp100_100 : convPure Tryd.prog 100 100 = true := by kernel_rfl
theorem sz101 : Tryd.prog.szo 101 = some 1 := by kernel_rfl
theorem ldf101 (a : Addr) : vLoad Tryd.prog 101 (.pointer (some a)) w KV = ∃ v, w.cell? a = some v ∧ KV v := ld_fn 101 _ _ _ a Tryd.underlying101
theorem fe101 (f : Fn) (x y : Array Value) (xo yo : Operand) : vBinO Tryd.prog .eql 101 xo yo (.func f x y) .nilFunc w KV = KV (.bool false) := be_fun Tryd.underlying101 f x y xo yo
theorem sz102 : Tryd.prog.szo 102 = some 1 := by kernel_rfl
theorem ldf102 (a : Addr) : vLoad Tryd.prog 102 (.pointer (some a)) w KV = ∃ v, w.cell? a = some v ∧ KV v := ld_fn 102 _ _ _ a Tryd.underlying102
theorem fe102 (f : Fn) (x y : Array Value) (xo yo : Operand) : vBinO Tryd.prog .eql 102 xo yo (.func f x y) .nilFunc w KV = KV (.bool false) := be_fun Tryd.underlying102 f x y xo yo
theorem sz103 : Tryd.prog.szo 103 = some 1 := by kernel_rfl
theorem ldf103 (a : Addr) : vLoad Tryd.prog 103 (.pointer (some a)) w KV = ∃ v, w.cell? a = some v ∧ KV v := ld_fn 103 _ _ _ a Tryd.underlying103
theorem fe103 (f : Fn) (x y : Array Value) (xo yo : Operand) : vBinO Tryd.prog .eql 103 xo yo (.func f x y) .nilFunc w KV = KV (.bool false) := be_fun Tryd.underlying103 f x y xo yo
theorem sz104 : Tryd.prog.szo 104 = some 1 := by kernel_rfl
theorem pe104 (a : Option Addr) (xo yo : Operand) : vBinO Tryd.prog .eql 104 xo yo (.pointer a) (.pointer none) w KV = KV (.bool a.isNone) := be_ptr Tryd.underlying104 a xo yo
theorem pn104 (a : Option Addr) (xo yo : Operand) : vBinO Tryd.prog .neq 104 xo yo (.pointer a) (.pointer none) w KV = KV (.bool !a.isNone) := bn_ptr Tryd.underlying104 a xo yo
theorem ld104 (a : Addr) : vLoad Tryd.prog 104 (.pointer (some a)) w KV = ∃ v, w.cell? a = some v ∧ KV v := ld_ptr 104 3 a Tryd.underlying104
theorem sz105 : Tryd.prog.szo 105 = some 1 := by kernel_rfl
theorem ldf105 (a : Addr) : vLoad Tryd.prog 105 (.pointer (some a)) w KV = ∃ v, w.cell? a = some v ∧ KV v := ld_fn 105 _ _ _ a Tryd.underlying105
theorem fe105 (f : Fn) (x y : Array Value) (xo yo : Operand) : vBinO Tryd.prog .eql 105 xo yo (.func f x y) .nilFunc w KV = KV (.bool false) := be_fun Tryd.underlying105 f x y xo yo
theorem sz106 : Tryd.prog.szo 106 = some 1 := by kernel_rfl
theorem pe106 (a : Option Addr) (xo yo : Operand) : vBinO Tryd.prog .eql 106 xo yo (.pointer a) (.pointer none) w KV = KV (.bool a.isNone) := be_ptr Tryd.underlying106 a xo yo
theorem pn106 (a : Option Addr) (xo yo : Operand) : vBinO Tryd.prog .neq 106 xo yo (.pointer a) (.pointer none) w KV = KV (.bool !a.isNone) := bn_ptr Tryd.underlying106 a xo yo
theorem ld106 (a : Addr) : vLoad Tryd.prog 106 (.pointer (some a)) w KV = ∃ v, w.cell? a = some v ∧ KV v := ld_ptr 106 5 a Tryd.underlying106
theorem sz107 : Tryd.prog.szo 107 = some 1 := by kernel_rfl
theorem ldf107 (a : Addr) : vLoad Tryd.prog 107 (.pointer (some a)) w KV = ∃ v, w.cell? a = some v ∧ KV v := ld_fn 107 _ _ _ a Tryd.underlying107
theorem fe107 (f : Fn) (x y : Array Value) (xo yo : Operand) : vBinO Tryd.prog .eql 107 xo yo (.func f x y) .nilFunc w KV = KV (.bool false) := be_fun Tryd.underlying107 f x y xo yo
theorem sz108 : Tryd.prog.szo 108 = some 1 := by kernel_rfl
theorem pe108 (a : Option Addr) (xo yo : Operand) : vBinO Tryd.prog .eql 108 xo yo (.pointer a) (.pointer none) w KV = KV (.bool a.isNone) := be_ptr Tryd.underlying108 a xo yo
theorem pn108 (a : Option Addr) (xo yo : Operand) : vBinO Tryd.prog .neq 108 xo yo (.pointer a) (.pointer none) w KV = KV (.bool !a.isNone) := bn_ptr Tryd.underlying108 a xo yo
theorem ld108 (a : Addr) : vLoad Tryd.prog 108 (.pointer (some a)) w KV = ∃ v, w.cell? a = some v ∧ KV v := ld_ptr 108 100 a Tryd.underlying108
theorem sz110 : Tryd.prog.szo 110 = some 1 := by kernel_rfl
theorem ldf110 (a : Addr) : vLoad Tryd.prog 110 (.pointer (some a)) w KV = ∃ v, w.cell? a = some v ∧ KV v := ld_fn 110 _ _ _ a Tryd.underlying110
theorem fe110 (f : Fn) (x y : Array Value) (xo yo : Operand) : vBinO Tryd.prog .eql 110 xo yo (.func f x y) .nilFunc w KV = KV (.bool false) := be_fun Tryd.underlying110 f x y xo yo
theorem sz111 : Tryd.prog.szo 111 = some 1 := by kernel_rfl
theorem ldf111 (a : Addr) : vLoad Tryd.prog 111 (.pointer (some a)) w KV = ∃ v, w.cell? a = some v ∧ KV v := ld_fn 111 _ _ _ a Tryd.underlying111
theorem fe111 (f : Fn) (x y : Array Value) (xo yo : Operand) : vBinO Tryd.prog .eql 111 xo yo (.func f x y) .nilFunc w KV = KV (.bool false) := be_fun Tryd.underlying111 f x y xo yo
theorem sz112 : Tryd.prog.szo 112 = some 1 := by kernel_rfl
theorem ldf112 (a : Addr) : vLoad Tryd.prog 112 (.pointer (some a)) w KV = ∃ v, w.cell? a = some v ∧ KV v := ld_fn 112 _ _ _ a Tryd.underlying112
theorem fe112 (f : Fn) (x y : Array Value) (xo yo : Operand) : vBinO Tryd.prog .eql 112 xo yo (.func f x y) .nilFunc w KV = KV (.bool false) := be_fun Tryd.underlying112 f x y xo yo
theorem sz113 : Tryd.prog.szo 113 = some 1 := by kernel_rfl
theorem sz114 : Tryd.prog.szo 114 = some 1 := by kernel_rfl
theorem ldf114 (a : Addr) : vLoad Tryd.prog 114 (.pointer (some a)) w KV = ∃ v, w.cell? a = some v ∧ KV v := ld_fn 114 _ _ _ a Tryd.underlying114
theorem fe114 (f : Fn) (x y : Array Value) (xo yo : Operand) : vBinO Tryd.prog .eql 114 xo yo (.func f x y) .nilFunc w KV = KV (.bool false) := be_fun Tryd.underlying114 f x y xo yo
theorem sz115 : Tryd.prog.szo 115 = some 1 := by kernel_rfl
theorem ldf115 (a : Addr) : vLoad Tryd.prog 115 (.pointer (some a)) w KV = ∃ v, w.cell? a = some v ∧ KV v := ld_fn 115 _ _ _ a Tryd.underlying115
theorem fe115 (f : Fn) (x y : Array Value) (xo yo : Operand) : vBinO Tryd.prog .eql 115 xo yo (.func f x y) .nilFunc w KV = KV (.bool false) := be_fun Tryd.underlying115 f x y xo yo
theorem sz117 : Tryd.prog.szo 117 = some 1 := by kernel_rfl
theorem ldf117 (a : Addr) : vLoad Tryd.prog 117 (.pointer (some a)) w KV = ∃ v, w.cell? a = some v ∧ KV v := ld_fn 117 _ _ _ a Tryd.underlying117
theorem fe117 (f : Fn) (x y : Array Value) (xo yo : Operand) : vBinO Tryd.prog .eql 117 xo yo (.func f x y) .nilFunc w KV = KV (.bool false) := be_fun Tryd.underlying117 f x y xo yo
theorem sz119 : Tryd.prog.szo 119 = some 1 := by kernel_rfl
theorem ldf119 (a : Addr) : vLoad Tryd.prog 119 (.pointer (some a)) w KV = ∃ v, w.cell? a = some v ∧ KV v := ld_fn 119 _ _ _ a Tryd.underlying119
theorem fe119 (f : Fn) (x y : Array Value) (xo yo : Operand) : vBinO Tryd.prog .eql 119 xo yo (.func f x y) .nilFunc w KV = KV (.bool false) := be_fun Tryd.underlying119 f x y xo yo
theorem sz120 : Tryd.prog.szo 120 = some 256 := by kernel_rfl
theorem ld120 (a : Addr) : vLoad Tryd.prog 120 (.pointer (some a)) w KV = ∃ cs : List Value, (cs.length = 256 ∧ Reads w a cs) ∧ KV (.agg cs.toArray) := ld_ar 120 256 256 5 a Tryd.underlying120 (by kernel_rfl)
theorem ln120 (v : Value) : vLen Tryd.prog 120 v KV = KV (.int .i64 ((256 : Nat) : Int)) := ln_ar 120 v Tryd.underlying120
theorem ixa120 (l : List Value) (k : IntKind) (i : Int) : vIndex Tryd.prog 120 (.agg l.toArray) (.int k i) KV = ((0 ≤ i ∧ i < ((256 : Nat) : Int)) ∧ vNth l i.toNat KV) := ix_agg 120 l k i Tryd.underlying120 (by kernel_rfl) (by kernel_rfl) (by kernel_rfl)
theorem ia120 (a : Addr) (k : IntKind) (i : Int) : vIndexAddr Tryd.prog 120 (.pointer (some a)) (.int k i) KV = ((0 ≤ i ∧ i < ((256 : Nat) : Int)) ∧ KV (.pointer (some (a.add (i.toNat * 1))))) := ia_ar 120 5 a 256 1 k i Tryd.underlying120 (by kernel_rfl)
theorem sz121 : Tryd.prog.szo 121 = some 2 := by kernel_rfl
theorem ld121 (a : Addr) : vLoad Tryd.prog 121 (.pointer (some a)) w KV = ∃ cs : List Value, (cs.length = 2 ∧ Reads w a cs) ∧ KV (.agg cs.toArray) := ld_st 121 2 a _ Tryd.underlying121 (by kernel_rfl)
theorem bd121 (n0 : Int) (n1 : Int) : vBuild Tryd.prog 121 [(0, .int .u8 n0), (1, .int .u8 n1)] KV = KV (.agg #[.int .u8 n0, .int .u8 n1]) := bd_of (by kernel_rfl)
theorem bz121 : vBuild Tryd.prog 121 [] KV = KV (.agg #[.int .u8 0, .int .u8 0]) := bd_of (by kernel_rfl)
theorem fd121_0 (l : List Value) : vField Tryd.prog 121 (.agg l.toArray) 0 KV = vNth l 0 KV := fd_cell 121 0 l Tryd.underlying121 rfl (by kernel_rfl) (by kernel_rfl) (by kernel_rfl)
theorem fa121_0 (a : Addr) : vFieldAddr Tryd.prog 121 (.pointer (some a)) 0 KV = KV (.pointer (some (a.add 0))) := fa_st 121 0 a (m := 0) Tryd.underlying121 rfl (by kernel_rfl)
theorem fd121_1 (l : List Value) : vField Tryd.prog 121 (.agg l.toArray) 1 KV = vNth l 1 KV := fd_cell 121 1 l Tryd.underlying121 rfl (by kernel_rfl) (by kernel_rfl) (by kernel_rfl)
theorem fa121_1 (a : Addr) : vFieldAddr Tryd.prog 121 (.pointer (some a)) 1 KV = KV (.pointer (some (a.add 1))) := fa_st 121 1 a (m := 0) Tryd.underlying121 rfl (by kernel_rfl)
theorem sz122 : Tryd.prog.szo 122 = some 2 := by kernel_rfl
theorem ld122 (a : Addr) : vLoad Tryd.prog 122 (.pointer (some a)) w KV = ∃ cs : List Value, (cs.length = 2 ∧ Reads w a cs) ∧ KV (.agg cs.toArray) := ld_st 122 2 a _ Tryd.underlying122 (by kernel_rfl)
theorem bd122 (n0 : Int) (n1 : Int) : vBuild Tryd.prog 122 [(0, .int .u8 n0), (1, .int .u8 n1)] KV = KV (.agg #[.int .u8 n0, .int .u8 n1]) := bd_of (by kernel_rfl)
theorem bz122 : vBuild Tryd.prog 122 [] KV = KV (.agg #[.int .u8 0, .int .u8 0]) := bd_of (by kernel_rfl)
theorem fd122_0 (l : List Value) : vField Tryd.prog 122 (.agg l.toArray) 0 KV = vNth l 0 KV := fd_cell 122 0 l Tryd.underlying122 rfl (by kernel_rfl) (by kernel_rfl) (by kernel_rfl)
theorem fa122_0 (a : Addr) : vFieldAddr Tryd.prog 122 (.pointer (some a)) 0 KV = KV (.pointer (some (a.add 0))) := fa_st 122 0 a (m := 0) Tryd.underlying122 rfl (by kernel_rfl)
theorem fd122_1 (l : List Value) : vField Tryd.prog 122 (.agg l.toArray) 1 KV = vNth l 1 KV := fd_cell 122 1 l Tryd.underlying122 rfl (by kernel_rfl) (by kernel_rfl) (by kernel_rfl)
theorem fa122_1 (a : Addr) : vFieldAddr Tryd.prog 122 (.pointer (some a)) 1 KV = KV (.pointer (some (a.add 1))) := fa_st 122 1 a (m := 0) Tryd.underlying122 rfl (by kernel_rfl)
theorem sz123 : Tryd.prog.szo 123 = some 32 := by kernel_rfl
theorem ld123 (a : Addr) : vLoad Tryd.prog 123 (.pointer (some a)) w KV = ∃ cs : List Value, (cs.length = 32 ∧ Reads w a cs) ∧ KV (.agg cs.toArray) := ld_ar 123 32 16 122 a Tryd.underlying123 (by kernel_rfl)
theorem ln123 (v : Value) : vLen Tryd.prog 123 v KV = KV (.int .i64 ((16 : Nat) : Int)) := ln_ar 123 v Tryd.underlying123
theorem ia123 (a : Addr) (k : IntKind) (i : Int) : vIndexAddr Tryd.prog 123 (.pointer (some a)) (.int k i) KV = ((0 ≤ i ∧ i < ((16 : Nat) : Int)) ∧ KV (.pointer (some (a.add (i.toNat * 2))))) := ia_ar 123 122 a 16 2 k i Tryd.underlying123 (by kernel_rfl)
theorem sz129 : Tryd.prog.szo 129 = some 1 := by kernel_rfl
theorem ldf129 (a : Addr) : vLoad Tryd.prog 129 (.pointer (some a)) w KV = ∃ v, w.cell? a = some v ∧ KV v := ld_fn 129 _ _ _ a Tryd.underlying129
theorem fe129 (f : Fn) (x y : Array Value) (xo yo : Operand) : vBinO Tryd.prog .eql 129 xo yo (.func f x y) .nilFunc w KV = KV (.bool false) := be_fun Tryd.underlying129 f x y xo yo
theorem sz130 : Tryd.prog.szo 130 = some 1 := by kernel_rfl
theorem sz131 : Tryd.prog.szo 131 = some 1 := by kernel_rfl
theorem sz132 : Tryd.prog.szo 132 = some 1 := by kernel_rfl
theorem ldf132 (a : Addr) : vLoad Tryd.prog 132 (.pointer (some a)) w KV = ∃ v, w.cell? a = some v ∧ KV v := ld_fn 132 _ _ _ a Tryd.underlying132
theorem fe132 (f : Fn) (x y : Array Value) (xo yo : Operand) : vBinO Tryd.prog .eql 132 xo yo (.func f x y) .nilFunc w KV = KV (.bool false) := be_fun Tryd.underlying132 f x y xo yo
theorem sz133 : Tryd.prog.szo 133 = some 1 := by kernel_rfl
theorem sz134 : Tryd.prog.szo 134 = some 1 := by kernel_rfl
end
attribute [go_sem ↓] ldf1 fe1 ld2 cv2_2 cv2_3 cv2_5 cv2_12 cv2_21 cv2_28 cv2_69 cv2_78 cv2_86 cv2_88 cv2_100 ld3 cv3_2 cv3_3 cv3_5 cv3_12 cv3_21 cv3_28 cv3_69 cv3_78 cv3_86 cv3_88 cv3_100 ld4 beql4 bneq4 ld5 cv5_2 cv5_3 cv5_5 cv5_12 cv5_21 cv5_28 cv5_69 cv5_78 cv5_86 cv5_88 cv5_100 ln9 ix9 snn9 sln9 snh9 slh9 ld9 ld12 cv12_2 cv12_3 cv12_5 cv12_12 cv12_21 cv12_28 cv12_69 cv12_78 cv12_86 cv12_88 cv12_100 ld21 cv21_2 cv21_3 cv21_5 cv21_12 cv21_21 cv21_28 cv21_69 cv21_78 cv21_86 cv21_88 cv21_100 ln22 snn22 sln22 snh22 slh22 ia22 ld22 ld23 bd23 bz23 fd23_0 fa23_0 fd23_1 fa23_1 fd23_2 fa23_2 fd23_3 fa23_3 ld24 bd24 bz24 fd24_0 fa24_0 fd24_1 fa24_1 fd24_2 fa24_2 fd24_3 fa24_3 ldf25 fe25 ldf26 fe26 ln27 snn27 sln27 snh27 slh27 ia27 ld27 ld28 cv28_2 cv28_3 cv28_5 cv28_12 cv28_21 cv28_28 cv28_69 cv28_78 cv28_86 cv28_88 cv28_100 ldf30 fe30 ldf32 fe32 ldf33 fe33 ldf34 fe34 ldf35 fe35 ldf36 fe36 ld37 bd37 bz37 fd37_0 fa37_0 fd37_1 fa37_1 ld38 bd38 bz38 fd38_0 fa38_0 fd38_1 fa38_1 ldf40 fe40 ldf42 fe42 ldf43 fe43 ldf44 fe44 ldf45 fe45 ldf46 fe46 ldf47 fe47 ldf48 fe48 ldf49 fe49 ldf50 fe50 ldf51 fe51 ldf52 fe52 ldf53 fe53 ldf54 fe54 ldf55 fe55 ldf56 fe56 ldf57 fe57 ldf58 fe58 ldf59 fe59 ln60 snn60 sln60 snh60 slh60 ia60 ld60 ldf61 fe61 ldf63 fe63 ldf65 fe65 ldf66 fe66 ldf67 fe67 ldf68 fe68 ld69 cv69_2 cv69_3 cv69_5 cv69_12 cv69_21 cv69_28 cv69_69 cv69_78 cv69_86 cv69_88 cv69_100 ldf71 fe71 ldf73 fe73 ldf74 fe74 ldf75 fe75 ldf76 fe76 ldf77 fe77 ld78 cv78_2 cv78_3 cv78_5 cv78_12 cv78_21 cv78_28 cv78_69 cv78_78 cv78_86 cv78_88 cv78_100 ldf80 fe80 ldf81 fe81 ldf82 fe82 ldf84 fe84 ldf85 fe85 ld86 cv86_2 cv86_3 cv86_5 cv86_12 cv86_21 cv86_28 cv86_69 cv86_78 cv86_86 cv86_88 cv86_100 ldf87 fe87 ld88 cv88_2 cv88_3 cv88_5 cv88_12 cv88_21 cv88_28 cv88_69 cv88_78 cv88_86 cv88_88 cv88_100 pe89 pn89 ld89 ln90 snn90 sln90 snh90 slh90 ia90 ld90 cv90_9 ld91 bd91 bz91 fd91_0 fa91_0 fd91_1 fa91_1 ld92 bd92 bz92 fd92_0 fa92_0 fd92_1 fa92_1 ldf93 fe93 ldf97 fe97 ldf98 fe98 ldf99 fe99 ld100 cv100_2 cv100_3 cv100_5 cv100_12 cv100_21 cv100_28 cv100_69 cv100_78 cv100_86 cv100_88 cv100_100 ldf101 fe101 ldf102 fe102 ldf103 fe103 pe104 pn104 ld104 ldf105 fe105 pe106 pn106 ld106 ldf107 fe107 pe108 pn108 ld108 ldf110 fe110 ldf111 fe111 ldf112 fe112 ldf114 fe114 ldf115 fe115 ldf117 fe117 ldf119 fe119 ld120 ln120 ixa120 ia120 ld121 bd121 bz121 fd121_0 fa121_0 fd121_1 fa121_1 ld122 bd122 bz122 fd122_0 fa122_0 fd122_1 fa122_1 ld123 ln123 ia123 ldf129 fe129 ldf132 fe132
attribute [go_sem] sz1 sz2 cp2_2 cp2_3 cp2_5 cp2_12 cp2_21 cp2_28 cp2_69 cp2_78 cp2_86 cp2_88 cp2_100 sz3 cp3_2 cp3_3 cp3_5 cp3_12 cp3_21 cp3_28 cp3_69 cp3_78 cp3_86 cp3_88 cp3_100 sz4 sz5 cp5_2 cp5_3 cp5_5 cp5_12 cp5_21 cp5_28 cp5_69 cp5_78 cp5_86 cp5_88 cp5_100 sz6 sz9 sz12 cp12_2 cp12_3 cp12_5 cp12_12 cp12_21 cp12_28 cp12_69 cp12_78 cp12_86 cp12_88 cp12_100 sz20 sz21 cp21_2 cp21_3 cp21_5 cp21_12 cp21_21 cp21_28 cp21_69 cp21_78 cp21_86 cp21_88 cp21_100 sz22 sz23 sz24 sz25 sz26 sz27 sz28 cp28_2 cp28_3 cp28_5 cp28_12 cp28_21 cp28_28 cp28_69 cp28_78 cp28_86 cp28_88 cp28_100 sz30 sz32 sz33 sz34 sz35 sz36 sz37 sz38 sz40 sz42 sz43 sz44 sz45 sz46 sz47 sz48 sz49 sz50 sz51 sz52 sz53 sz54 sz55 sz56 sz57 sz58 sz59 sz60 sz61 sz63 sz64 sz65 sz66 sz67 sz68 sz69 cp69_2 cp69_3 cp69_5 cp69_12 cp69_21 cp69_28 cp69_69 cp69_78 cp69_86 cp69_88 cp69_100 sz71 sz73 sz74 sz75 sz76 sz77 sz78 cp78_2 cp78_3 cp78_5 cp78_12 cp78_21 cp78_28 cp78_69 cp78_78 cp78_86 cp78_88 cp78_100 sz80 sz81 sz82 sz84 sz85 sz86 cp86_2 cp86_3 cp86_5 cp86_12 cp86_21 cp86_28 cp86_69 cp86_78 cp86_86 cp86_88 cp86_100 sz87 sz88 cp88_2 cp88_3 cp88_5 cp88_12 cp88_21 cp88_28 cp88_69 cp88_78 cp88_86 cp88_88 cp88_100 sz89 sz90 cp90_9 cp9_90 sz91 sz92 sz93 sz94 sz95 sz97 sz98 sz99 sz100 cp100_2 cp100_3 cp100_5 cp100_12 cp100_21 cp100_28 cp100_69 cp100_78 cp100_86 cp100_88 cp100_100 sz101 sz102 sz103 sz104 sz105 sz106 sz107 sz108 sz110 sz111 sz112 sz113 sz114 sz115 sz117 sz119 sz120 sz121 sz122 sz123 sz129 sz130 sz131 sz132 sz133 sz134
theorem zi9 : (Tryd.prog.info? 9).map (fun i => (i.zero.map Value.cells, i.size, i.bytes)) = some (some #[.string ⟨#[]⟩], 1, 16) := by kernel_rfl
theorem zi5 : (Tryd.prog.info? 5).map (fun i => (i.zero.map Value.cells, i.size, i.bytes)) = some (some #[.int .u8 0], 1, 1) := by kernel_rfl
end Go.Proofs.YtklpiecolpnmlaaDoor
