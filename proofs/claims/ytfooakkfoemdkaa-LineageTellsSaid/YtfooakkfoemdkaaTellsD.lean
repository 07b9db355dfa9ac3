/- For all sequences of at most 70 calls, numbers, names, lists and truth values, all results are those of the reference. For all inputs, with no condition. -/
import Derived.Test.YtfooakkfoemdkaaTellsC
import Derived.Test.YtfooakkfoemdkaaRows
import Derived.WalkKit
import Derived.ProofKit
import Derived.OpenShut
import Derived.ChangeOld
import Derived.Below
import Derived.SizedLaws
import Derived.Carry
import Derived.ChangeMaps5
/- Pieces of functions, printed by a program of ours (Gen), held by the kernel. -/
namespace Go.Proofs.Ytfooakkfoemdkaa
open Go.Fw
@[go_sem] theorem build55 : buildOf Try.prog 55 = some ((.agg #[(.slice none 0 0), (.slice none 0 0), (.slice none 0 0)]), [(0, 1), (1, 1), (2, 1)]) := by kernel_rfl
/-! ### 14: missive/missiveref28.New -/
noncomputable def f14_c : Code := Try.f14.body.getD .skip
def f14_L : List Nat := [0]
noncomputable def f14_l : List Code := flat f14_c
noncomputable def f14_l0 : List Code := f14_l.drop 3
def f14_T0 (q : LPost) : List Value → Heap → Prop := fun vs h => match vs with
 | [_] =>
 oBuild (buildOf Try.prog 55) [] (fun x0 h1 =>
 oBox 55 x0 (fun x2 h3 =>
 q .ret [x2] h3) h1) h
 | _ => False
set_option maxRecDepth 20000 in
theorem f14_T0_ok (q : LPost) : RfN f14_L (f14_T0 q) (wpLs pcN f14_l (proj f14_L q)) :=
 seg_rule' 3 (fun env h => by kernel_rfl) (end_rule' (by kernel_rfl) (Rf.proj q) (fun _ _ x => x)) (Rf.proj q)
theorem f14_ret {v0 : Value} {h : Heap} {K : Kont} : retL Try.prog f14_L Try.f14.results.toList K .ret [v0] h = (K v0 h) := by kernel_rfl
theorem f14_end {v0 : Value} {h : Heap} {K : Kont} : retL Try.prog f14_L Try.f14.results.toList K .normal [v0] h = (K v0 h) := by kernel_rfl
set_option maxRecDepth 20000 in
theorem f14_fn {h : Heap} {K : Kont}
 (hw : f14_T0 (retL Try.prog f14_L Try.f14.results.toList K) [undef] h) : FnH Try.prog 14 #[] h K :=
 fn_by (L := f14_L) (T := fun q => f14_T0 q) (args := []) pcN mixed Try.func14 (c := f14_c) (by kernel_rfl) (by kernel_rfl) (by kernel_rfl) (by kernel_rfl) (fun q => (f14_T0_ok q)) hw
/-! ### 16: missive/missivelaw28.model -/
noncomputable def f16_c : Code := Try.f16.body.getD .skip
def f16_L : List Nat := [0, 1, 4, 5]
noncomputable def f16_l : List Code := flat f16_c
noncomputable def f16_l0 : List Code := f16_l.drop 5
def f16_T0 (q : LPost) : List Value → Heap → Prop := fun vs h => match vs with
 | [v0, v1, _, _] =>
 oBox 49 v1 (fun x0 h1 =>
 oFieldAddr (fieldOff Try.prog 49 0) x0 (fun x2 h3 =>
 oLoad (varOf Try.prog 3) x2 (fun x4 h5 =>
 oCallF Try.prog 33 [x4, (.int .i64 6)] (fun x6 h7 =>
 oBin (Try.prog.underlying 3) .eql x6 (.int .i64 2) (fun x8 h9 =>
 oCond x8 (oFieldAddr (fieldOff Try.prog 49 1) x0 (fun x10 h11 =>
 oLoad (varOf Try.prog 3) x10 (fun x12 h13 =>
 oFieldAddr (fieldOff Try.prog 49 3) x0 (fun x14 h15 =>
 oLoad (varOf Try.prog 9) x14 (fun x16 h17 =>
 oCallF Try.prog 36 [v0, x12, x16] (fun x18 h19 =>
 q .ret [v0, v1, (.int .i64 0), x18] h19) h17) h15) h13) h11) h9) (oBin (Try.prog.underlying 3) .eql x6 (.int .i64 3) (fun x20 h21 =>
 oCond x20 (oFieldAddr (fieldOff Try.prog 49 1) x0 (fun x22 h23 =>
 oLoad (varOf Try.prog 3) x22 (fun x24 h25 =>
 oFieldAddr (fieldOff Try.prog 49 3) x0 (fun x26 h27 =>
 oLoad (varOf Try.prog 9) x26 (fun x28 h29 =>
 oFieldAddr (fieldOff Try.prog 49 2) x0 (fun x30 h31 =>
 oLoad (varOf Try.prog 3) x30 (fun x32 h33 =>
 oCallF Try.prog 37 [v0, x24, x28, (.string (ByteArray.mk #[112])), x32] (fun x34 h35 =>
 oExtract x34 0 (fun x36 h37 =>
 oExtract x34 1 (fun x38 h39 =>
 q .ret [v0, v1, x36, x38] h39) h37) h35) h33) h31) h29) h27) h25) h23) h21) (oBin (Try.prog.underlying 3) .eql x6 (.int .i64 4) (fun x40 h41 =>
 oCond x40 (oFieldAddr (fieldOff Try.prog 49 1) x0 (fun x42 h43 =>
 oLoad (varOf Try.prog 3) x42 (fun x44 h45 =>
 oFieldAddr (fieldOff Try.prog 49 2) x0 (fun x46 h47 =>
 oLoad (varOf Try.prog 3) x46 (fun x48 h49 =>
 oCallF Try.prog 38 [v0, x44, x48] (fun x50 h51 =>
 q .ret [v0, v1, (.int .i64 0), x50] h51) h49) h47) h45) h43) h41) (oBin (Try.prog.underlying 3) .eql x6 (.int .i64 5) (fun x52 h53 =>
 oCond x52 (oFieldAddr (fieldOff Try.prog 49 1) x0 (fun x54 h55 =>
 oLoad (varOf Try.prog 3) x54 (fun x56 h57 =>
 oFieldAddr (fieldOff Try.prog 49 3) x0 (fun x58 h59 =>
 oLoad (varOf Try.prog 9) x58 (fun x60 h61 =>
 oCallF Try.prog 39 [v0, x56, x60] (fun x62 h63 =>
 q .ret [v0, v1, (.int .i64 0), x62] h63) h61) h59) h57) h55) h53) (oFieldAddr (fieldOff Try.prog 49 3) x0 (fun x64 h65 =>
 oLoad (varOf Try.prog 9) x64 (fun x66 h67 =>
 oCallF Try.prog 40 [v0, x66] (fun x68 h69 =>
 oExtract x68 0 (fun x70 h71 =>
 oExtract x68 1 (fun x72 h73 =>
 q .ret [v0, v1, x70, x72] h73) h71) h69) h67) h65) h53)) h41)) h21)) h9)) h7) h5) h3) h1) h
 | _ => False
set_option maxRecDepth 20000 in
theorem f16_T0_ok (q : LPost) : RfN f16_L (f16_T0 q) (wpLs pcN f16_l (proj f16_L q)) :=
 seg_rule' 5 (fun env h => by kernel_rfl) (end_rule' (by kernel_rfl) (Rf.proj q) (fun _ _ x => x)) (Rf.proj q)
theorem f16_ret {v0 v1 v4 v5 : Value} {h : Heap} {K : Kont} : retL Try.prog f16_L Try.f16.results.toList K .ret [v0, v1, v4, v5] h = (K (.tuple #[v4, v5]) h) := by kernel_rfl
theorem f16_end {v0 v1 v4 v5 : Value} {h : Heap} {K : Kont} : retL Try.prog f16_L Try.f16.results.toList K .normal [v0, v1, v4, v5] h = (K (.tuple #[v4, v5]) h) := by kernel_rfl
set_option maxRecDepth 20000 in
theorem f16_fn {a0 a1 : Value} {h : Heap} {K : Kont}
 (hw : f16_T0 (retL Try.prog f16_L Try.f16.results.toList K) [a0, a1, undef, undef] h) : FnH Try.prog 16 #[a0, a1] h K :=
 fn_by (L := f16_L) (T := fun q => f16_T0 q) (args := [a0, a1]) pcN mixed Try.func16 (c := f16_c) (by kernel_rfl) (by kernel_rfl) (by kernel_rfl) (by kernel_rfl) (fun q => (f16_T0_ok q)) hw
@[go_sem] theorem struct38 : structOf Try.prog 38 = some [(0, (.int .i64)), (1, (.int .i64)), (2, (.int .i64)), (3, .string), (4, .string)] := by kernel_rfl
/-! ### 17: missive/missiveref28.Lists -/
noncomputable def f17_c : Code := Try.f17.body.getD .skip
def f17_L : List Nat := [0, 1, 4, 5]
noncomputable def f17_l : List Code := flat f17_c
noncomputable def f17_l0 : List Code := f17_l.drop 4
noncomputable def f17_l1 : List Code := f17_l0.drop 1
noncomputable def f17_l2 : List Code := f17_l1.drop 2
def f17_T2 (q : LPost) : List Value → Heap → Prop := fun vs h => match vs with
 | [v0, v1, _, v5] =>
 q .ret [v0, v1, (.bool true), v5] h
 | _ => False
set_option maxRecDepth 20000 in
theorem f17_T2_ok (q : LPost) : RfN f17_L (f17_T2 q) (wpLs pcN f17_l1 (proj f17_L q)) :=
 seg_rule' 2 (fun env h => by kernel_rfl) (end_rule' (by kernel_rfl) (Rf.proj q) (fun _ _ x => x)) (Rf.proj q)
noncomputable def f17_l3 : List Code := flat (hdB f17_l0)
noncomputable def f17_l4 : List Code := flat (hdB f17_l3)
noncomputable def f17_l5 : List Code := f17_l4.drop 4
def f17_T5 (q : LPost) : List Value → Heap → Prop := fun vs h => match vs with
 | [v0, v1, v4, v5] =>
 oLen (Try.prog.underlying 29) v0 (fun x0 h1 =>
 oBin (Try.prog.underlying 3) .lss v5 x0 (fun x2 h3 =>
 oCond x2 (oIndexAddr (rowedOf Try.prog 29) v0 v5 (fun x4 h5 =>
 oLoad (varOf Try.prog 38) x4 (fun x6 h7 =>
 oIndexAddr (rowedOf Try.prog 29) v1 v5 (fun x8 h9 =>
 oLoad (varOf Try.prog 38) x8 (fun x10 h11 =>
 oStruct (structOf Try.prog 38) .neq x6 x10 (fun x12 h13 =>
 oCond x12 (q .ret [v0, v1, (.bool false), v5] h13) (oBin (Try.prog.underlying 3) .add v5 (.int .i64 1) (fun x14 h15 =>
 q .normal [v0, v1, v4, x14] h15) h13)) h11) h9) h7) h5) h3) (q (.exit 0) [v0, v1, v4, v5] h3)) h1) h
 | _ => False
set_option maxRecDepth 20000 in
theorem f17_T5_ok (q : LPost) : RfN f17_L (f17_T5 q) (wpLs pcN f17_l4 (proj f17_L q)) :=
 seg_rule' 4 (fun env h => by kernel_rfl) (end_rule' (by kernel_rfl) (Rf.proj q) (fun _ _ x => x)) (Rf.proj q)
def f17_T4 (q : LPost) : List Value → Heap → Prop := LoopS (fun q => f17_T5 q) (inBL 0 (thenL (f17_T2 q) (q)))
set_option maxRecDepth 20000 in
theorem f17_T4_ok (q : LPost) : RfN f17_L (f17_T4 q) (wpLs pcN f17_l3 (inB 0 (thenQ (wpLs pcN f17_l1 (proj f17_L q)) (proj f17_L q)))) :=
 loop_rule' (b := hdB f17_l3) (B := fun q => f17_T5 q) (c := inBL 0 (thenL (f17_T2 q) (q))) (by kernel_rfl) (fun _ _ x => x) (fun q => (f17_T5_ok q)) (Rf.inB (Rf.then (f17_T2_ok q) (Rf.proj q)))
set_option maxRecDepth 20000 in
theorem f17_B3_ok (q : LPost) : RfN f17_L (f17_T4 q) (wpLs pcN f17_l0 (proj f17_L q)) :=
 block_rule (id := 0) (b := hdB f17_l0) (rest := f17_l1) (by kernel_rfl) (f17_T4_ok q)
def f17_T0 (q : LPost) : List Value → Heap → Prop := fun vs h => match vs with
 | [v0, v1, _, v5] =>
 oLen (Try.prog.underlying 29) v0 (fun x16 h17 =>
 oLen (Try.prog.underlying 29) v1 (fun x18 h19 =>
 oBin (Try.prog.underlying 3) .neq x16 x18 (fun x20 h21 =>
 oCond x20 (q .ret [v0, v1, (.bool false), v5] h21) (f17_T4 q [v0, v1, (.bool false), (.int .i64 0)] h21)) h19) h17) h
 | _ => False
set_option maxRecDepth 20000 in
theorem f17_T0_ok (q : LPost) : RfN f17_L (f17_T0 q) (wpLs pcN f17_l (proj f17_L q)) :=
 seg_rule' 4 (fun env h => by kernel_rfl) (f17_B3_ok q) (Rf.proj q)
theorem f17_ret {v0 v1 v4 v5 : Value} {h : Heap} {K : Kont} : retL Try.prog f17_L Try.f17.results.toList K .ret [v0, v1, v4, v5] h = (K v4 h) := by kernel_rfl
theorem f17_end {v0 v1 v4 v5 : Value} {h : Heap} {K : Kont} : retL Try.prog f17_L Try.f17.results.toList K .normal [v0, v1, v4, v5] h = (K v4 h) := by kernel_rfl
set_option maxRecDepth 20000 in
theorem f17_fn {a0 a1 : Value} {h : Heap} {K : Kont}
 (hw : f17_T0 (retL Try.prog f17_L Try.f17.results.toList K) [a0, a1, undef, undef] h) : FnH Try.prog 17 #[a0, a1] h K :=
 fn_by (L := f17_L) (T := fun q => f17_T0 q) (args := [a0, a1]) pcN mixed Try.func17 (c := f17_c) (by kernel_rfl) (by kernel_rfl) (by kernel_rfl) (by kernel_rfl) (fun q => (f17_T0_ok q)) hw
@[go_sem] theorem struct73 : structOf Try.prog 73 = some [(0, (.int .i64)), (1, (.int .i64)), (2, (.int .i64)), (3, .string)] := by kernel_rfl
/-! ### 18: missive/missiveref28.Splits -/
noncomputable def f18_c : Code := Try.f18.body.getD .skip
def f18_L : List Nat := [0, 1, 4, 5]
noncomputable def f18_l : List Code := flat f18_c
noncomputable def f18_l0 : List Code := f18_l.drop 4
noncomputable def f18_l1 : List Code := f18_l0.drop 1
noncomputable def f18_l2 : List Code := f18_l1.drop 2
def f18_T2 (q : LPost) : List Value → Heap → Prop := fun vs h => match vs with
 | [v0, v1, _, v5] =>
 q .ret [v0, v1, (.bool true), v5] h
 | _ => False
set_option maxRecDepth 20000 in
theorem f18_T2_ok (q : LPost) : RfN f18_L (f18_T2 q) (wpLs pcN f18_l1 (proj f18_L q)) :=
 seg_rule' 2 (fun env h => by kernel_rfl) (end_rule' (by kernel_rfl) (Rf.proj q) (fun _ _ x => x)) (Rf.proj q)
noncomputable def f18_l3 : List Code := flat (hdB f18_l0)
noncomputable def f18_l4 : List Code := flat (hdB f18_l3)
noncomputable def f18_l5 : List Code := f18_l4.drop 4
def f18_T5 (q : LPost) : List Value → Heap → Prop := fun vs h => match vs with
 | [v0, v1, v4, v5] =>
 oLen (Try.prog.underlying 52) v0 (fun x0 h1 =>
 oBin (Try.prog.underlying 3) .lss v5 x0 (fun x2 h3 =>
 oCond x2 (oIndexAddr (rowedOf Try.prog 52) v0 v5 (fun x4 h5 =>
 oLoad (varOf Try.prog 73) x4 (fun x6 h7 =>
 oIndexAddr (rowedOf Try.prog 52) v1 v5 (fun x8 h9 =>
 oLoad (varOf Try.prog 73) x8 (fun x10 h11 =>
 oStruct (structOf Try.prog 73) .neq x6 x10 (fun x12 h13 =>
 oCond x12 (q .ret [v0, v1, (.bool false), v5] h13) (oBin (Try.prog.underlying 3) .add v5 (.int .i64 1) (fun x14 h15 =>
 q .normal [v0, v1, v4, x14] h15) h13)) h11) h9) h7) h5) h3) (q (.exit 0) [v0, v1, v4, v5] h3)) h1) h
 | _ => False
set_option maxRecDepth 20000 in
theorem f18_T5_ok (q : LPost) : RfN f18_L (f18_T5 q) (wpLs pcN f18_l4 (proj f18_L q)) :=
 seg_rule' 4 (fun env h => by kernel_rfl) (end_rule' (by kernel_rfl) (Rf.proj q) (fun _ _ x => x)) (Rf.proj q)
def f18_T4 (q : LPost) : List Value → Heap → Prop := LoopS (fun q => f18_T5 q) (inBL 0 (thenL (f18_T2 q) (q)))
set_option maxRecDepth 20000 in
theorem f18_T4_ok (q : LPost) : RfN f18_L (f18_T4 q) (wpLs pcN f18_l3 (inB 0 (thenQ (wpLs pcN f18_l1 (proj f18_L q)) (proj f18_L q)))) :=
 loop_rule' (b := hdB f18_l3) (B := fun q => f18_T5 q) (c := inBL 0 (thenL (f18_T2 q) (q))) (by kernel_rfl) (fun _ _ x => x) (fun q => (f18_T5_ok q)) (Rf.inB (Rf.then (f18_T2_ok q) (Rf.proj q)))
set_option maxRecDepth 20000 in
theorem f18_B3_ok (q : LPost) : RfN f18_L (f18_T4 q) (wpLs pcN f18_l0 (proj f18_L q)) :=
 block_rule (id := 0) (b := hdB f18_l0) (rest := f18_l1) (by kernel_rfl) (f18_T4_ok q)
def f18_T0 (q : LPost) : List Value → Heap → Prop := fun vs h => match vs with
 | [v0, v1, _, v5] =>
 oLen (Try.prog.underlying 52) v0 (fun x16 h17 =>
 oLen (Try.prog.underlying 52) v1 (fun x18 h19 =>
 oBin (Try.prog.underlying 3) .neq x16 x18 (fun x20 h21 =>
 oCond x20 (q .ret [v0, v1, (.bool false), v5] h21) (f18_T4 q [v0, v1, (.bool false), (.int .i64 0)] h21)) h19) h17) h
 | _ => False
set_option maxRecDepth 20000 in
theorem f18_T0_ok (q : LPost) : RfN f18_L (f18_T0 q) (wpLs pcN f18_l (proj f18_L q)) :=
 seg_rule' 4 (fun env h => by kernel_rfl) (f18_B3_ok q) (Rf.proj q)
theorem f18_ret {v0 v1 v4 v5 : Value} {h : Heap} {K : Kont} : retL Try.prog f18_L Try.f18.results.toList K .ret [v0, v1, v4, v5] h = (K v4 h) := by kernel_rfl
theorem f18_end {v0 v1 v4 v5 : Value} {h : Heap} {K : Kont} : retL Try.prog f18_L Try.f18.results.toList K .normal [v0, v1, v4, v5] h = (K v4 h) := by kernel_rfl
set_option maxRecDepth 20000 in
theorem f18_fn {a0 a1 : Value} {h : Heap} {K : Kont}
 (hw : f18_T0 (retL Try.prog f18_L Try.f18.results.toList K) [a0, a1, undef, undef] h) : FnH Try.prog 18 #[a0, a1] h K :=
 fn_by (L := f18_L) (T := fun q => f18_T0 q) (args := [a0, a1]) pcN mixed Try.func18 (c := f18_c) (by kernel_rfl) (by kernel_rfl) (by kernel_rfl) (by kernel_rfl) (fun q => (f18_T0_ok q)) hw
/-! ### 19: (*missive/lineage.Lineage).Splits -/
noncomputable def f19_c : Code := Try.f19.body.getD .skip
def f19_L : List Nat := [0, 2]
noncomputable def f19_l : List Code := flat f19_c
noncomputable def f19_l0 : List Code := f19_l.drop 3
def f19_T0 (q : LPost) : List Value → Heap → Prop := fun vs h => match vs with
 | [v0, _] =>
 oNilCheck v0 (fun x0 h1 =>
 oFieldAddr (fieldOff Try.prog 70 1) x0 (fun x2 h3 =>
 oLoad (varOf Try.prog 52) x2 (fun x4 h5 =>
 oCallF Try.prog 41 [x4] (fun x6 h7 =>
 q .ret [v0, x6] h7) h5) h3) h1) h
 | _ => False
set_option maxRecDepth 20000 in
theorem f19_T0_ok (q : LPost) : RfN f19_L (f19_T0 q) (wpLs pcN f19_l (proj f19_L q)) :=
 seg_rule' 3 (fun env h => by kernel_rfl) (end_rule' (by kernel_rfl) (Rf.proj q) (fun _ _ x => x)) (Rf.proj q)
theorem f19_ret {v0 v2 : Value} {h : Heap} {K : Kont} : retL Try.prog f19_L Try.f19.results.toList K .ret [v0, v2] h = (K v2 h) := by kernel_rfl
theorem f19_end {v0 v2 : Value} {h : Heap} {K : Kont} : retL Try.prog f19_L Try.f19.results.toList K .normal [v0, v2] h = (K v2 h) := by kernel_rfl
set_option maxRecDepth 20000 in
theorem f19_fn {a0 : Value} {h : Heap} {K : Kont}
 (hw : f19_T0 (retL Try.prog f19_L Try.f19.results.toList K) [a0, undef] h) : FnH Try.prog 19 #[a0] h K :=
 fn_by (L := f19_L) (T := fun q => f19_T0 q) (args := [a0]) pcN mixed Try.func19 (c := f19_c) (by kernel_rfl) (by kernel_rfl) (by kernel_rfl) (by kernel_rfl) (fun q => (f19_T0_ok q)) hw
@[go_sem] theorem foff55_0 : fieldOff Try.prog 55 0 = some 0 := by kernel_rfl
/-! ### 20: (*missive/missiveref28.Lineage).Resolve -/
noncomputable def f20_c : Code := Try.f20.body.getD .skip
def f20_L : List Nat := [0, 1, 4, 5, 6]
noncomputable def f20_l : List Code := flat f20_c
noncomputable def f20_l0 : List Code := f20_l.drop 8
def f20_T0 (q : LPost) : List Value → Heap → Prop := fun vs h => match vs with
 | [v0, v1, _, _, _] =>
 oCallF Try.prog 21 [v0, v1] (fun x0 h1 =>
 oExtract x0 0 (fun x2 h3 =>
 oExtract x0 1 (fun x4 h5 =>
 oUn .not x4 (fun x6 h7 =>
 oCond x6 (q .ret [v0, v1, (.int .i64 0), (.string (ByteArray.mk #[])), (.int .i64 4)] h7) (oNilCheck v0 (fun x8 h9 =>
 oFieldAddr (fieldOff Try.prog 55 0) x8 (fun x10 h11 =>
 oLoad (varOf Try.prog 29) x10 (fun x12 h13 =>
 oBin (Try.prog.underlying 3) .sub x2 (.int .i64 1) (fun x14 h15 =>
 oIndexAddr (rowedOf Try.prog 29) x12 x14 (fun x16 h17 =>
 oFieldAddr (fieldOff Try.prog 38 4) x16 (fun x18 h19 =>
 oLoad (varOf Try.prog 9) x18 (fun x20 h21 =>
 oBin (Try.prog.underlying 9) .neq x20 (.string (ByteArray.mk #[])) (fun x22 h23 =>
 oCond x22 (oNilCheck v0 (fun x24 h25 =>
 oFieldAddr (fieldOff Try.prog 55 0) x24 (fun x26 h27 =>
 oLoad (varOf Try.prog 29) x26 (fun x28 h29 =>
 oBin (Try.prog.underlying 3) .sub x2 (.int .i64 1) (fun x30 h31 =>
 oIndexAddr (rowedOf Try.prog 29) x28 x30 (fun x32 h33 =>
 oFieldAddr (fieldOff Try.prog 38 4) x32 (fun x34 h35 =>
 oLoad (varOf Try.prog 9) x34 (fun x36 h37 =>
 q .ret [v0, v1, (.int .i64 0), x36, (.int .i64 0)] h37) h35) h33) h31) h29) h27) h25) h23) (q .ret [v0, v1, x2, (.string (ByteArray.mk #[])), (.int .i64 0)] h23)) h21) h19) h17) h15) h13) h11) h9) h7)) h5) h3) h1) h
 | _ => False
set_option maxRecDepth 20000 in
theorem f20_T0_ok (q : LPost) : RfN f20_L (f20_T0 q) (wpLs pcN f20_l (proj f20_L q)) :=
 seg_rule' 8 (fun env h => by kernel_rfl) (end_rule' (by kernel_rfl) (Rf.proj q) (fun _ _ x => x)) (Rf.proj q)
theorem f20_ret {v0 v1 v4 v5 v6 : Value} {h : Heap} {K : Kont} : retL Try.prog f20_L Try.f20.results.toList K .ret [v0, v1, v4, v5, v6] h = (K (.tuple #[v4, v5, v6]) h) := by kernel_rfl
theorem f20_end {v0 v1 v4 v5 v6 : Value} {h : Heap} {K : Kont} : retL Try.prog f20_L Try.f20.results.toList K .normal [v0, v1, v4, v5, v6] h = (K (.tuple #[v4, v5, v6]) h) := by kernel_rfl
set_option maxRecDepth 20000 in
theorem f20_fn {a0 a1 : Value} {h : Heap} {K : Kont}
 (hw : f20_T0 (retL Try.prog f20_L Try.f20.results.toList K) [a0, a1, undef, undef, undef] h) : FnH Try.prog 20 #[a0, a1] h K :=
 fn_by (L := f20_L) (T := fun q => f20_T0 q) (args := [a0, a1]) pcN mixed Try.func20 (c := f20_c) (by kernel_rfl) (by kernel_rfl) (by kernel_rfl) (by kernel_rfl) (fun q => (f20_T0_ok q)) hw
/-! ### 21: (*missive/missiveref28.Lineage).Owner -/
noncomputable def f21_c : Code := Try.f21.body.getD .skip
def f21_L : List Nat := [0, 1, 4, 5]
noncomputable def f21_l : List Code := flat f21_c
noncomputable def f21_l0 : List Code := f21_l.drop 4
def f21_T0 (q : LPost) : List Value → Heap → Prop := fun vs h => match vs with
 | [v0, v1, _, _] =>
 oCallF Try.prog 42 [v0, v1] (fun x0 h1 =>
 oCallF Try.prog 23 [v0, x0] (fun x2 h3 =>
 oBin (Try.prog.underlying 3) .gtr x2 (.int .i64 0) (fun x4 h5 =>
 q .ret [v0, v1, x2, x4] h5) h3) h1) h
 | _ => False
set_option maxRecDepth 20000 in
theorem f21_T0_ok (q : LPost) : RfN f21_L (f21_T0 q) (wpLs pcN f21_l (proj f21_L q)) :=
 seg_rule' 4 (fun env h => by kernel_rfl) (end_rule' (by kernel_rfl) (Rf.proj q) (fun _ _ x => x)) (Rf.proj q)
theorem f21_ret {v0 v1 v4 v5 : Value} {h : Heap} {K : Kont} : retL Try.prog f21_L Try.f21.results.toList K .ret [v0, v1, v4, v5] h = (K (.tuple #[v4, v5]) h) := by kernel_rfl
theorem f21_end {v0 v1 v4 v5 : Value} {h : Heap} {K : Kont} : retL Try.prog f21_L Try.f21.results.toList K .normal [v0, v1, v4, v5] h = (K (.tuple #[v4, v5]) h) := by kernel_rfl
set_option maxRecDepth 20000 in
theorem f21_fn {a0 a1 : Value} {h : Heap} {K : Kont}
 (hw : f21_T0 (retL Try.prog f21_L Try.f21.results.toList K) [a0, a1, undef, undef] h) : FnH Try.prog 21 #[a0, a1] h K :=
 fn_by (L := f21_L) (T := fun q => f21_T0 q) (args := [a0, a1]) pcN mixed Try.func21 (c := f21_c) (by kernel_rfl) (by kernel_rfl) (by kernel_rfl) (by kernel_rfl) (fun q => (f21_T0_ok q)) hw
/-! ### 23: (*missive/missiveref28.Lineage).Now -/
noncomputable def f23_c : Code := Try.f23.body.getD .skip
def f23_L : List Nat := [0, 1, 4]
noncomputable def f23_l : List Code := flat f23_c
noncomputable def f23_l0 : List Code := f23_l.drop 3
noncomputable def f23_l1 : List Code := f23_l0.drop 1
noncomputable def f23_l2 : List Code := f23_l1.drop 2
def f23_T2 (q : LPost) : List Value → Heap → Prop := fun vs h => match vs with
 | [v0, v1, _] =>
 q .ret [v0, v1, v1] h
 | _ => False
set_option maxRecDepth 20000 in
theorem f23_T2_ok (q : LPost) : RfN f23_L (f23_T2 q) (wpLs pcN f23_l1 (proj f23_L q)) :=
 seg_rule' 2 (fun env h => by kernel_rfl) (end_rule' (by kernel_rfl) (Rf.proj q) (fun _ _ x => x)) (Rf.proj q)
noncomputable def f23_l3 : List Code := flat (hdB f23_l0)
noncomputable def f23_l4 : List Code := flat (hdB f23_l3)
noncomputable def f23_l5 : List Code := f23_l4.drop 3
def f23_T5 (q : LPost) : List Value → Heap → Prop := fun vs h => match vs with
 | [v0, v1, v4] =>
 oNilCheck v0 (fun x0 h1 =>
 oFieldAddr (fieldOff Try.prog 55 0) x0 (fun x2 h3 =>
 oLoad (varOf Try.prog 29) x2 (fun x4 h5 =>
 oBin (Try.prog.underlying 3) .sub v1 (.int .i64 1) (fun x6 h7 =>
 oIndexAddr (rowedOf Try.prog 29) x4 x6 (fun x8 h9 =>
 oFieldAddr (fieldOff Try.prog 38 1) x8 (fun x10 h11 =>
 oLoad (varOf Try.prog 3) x10 (fun x12 h13 =>
 oBin (Try.prog.underlying 3) .neq x12 (.int .i64 0) (fun x14 h15 =>
 oCond x14 (oNilCheck v0 (fun x16 h17 =>
 oFieldAddr (fieldOff Try.prog 55 0) x16 (fun x18 h19 =>
 oLoad (varOf Try.prog 29) x18 (fun x20 h21 =>
 oBin (Try.prog.underlying 3) .sub v1 (.int .i64 1) (fun x22 h23 =>
 oIndexAddr (rowedOf Try.prog 29) x20 x22 (fun x24 h25 =>
 oFieldAddr (fieldOff Try.prog 38 1) x24 (fun x26 h27 =>
 oLoad (varOf Try.prog 3) x26 (fun x28 h29 =>
 q .normal [v0, x28, v4] h29) h27) h25) h23) h21) h19) h17) h15) (q (.exit 0) [v0, v1, v4] h15)) h13) h11) h9) h7) h5) h3) h1) h
 | _ => False
set_option maxRecDepth 20000 in
theorem f23_T5_ok (q : LPost) : RfN f23_L (f23_T5 q) (wpLs pcN f23_l4 (proj f23_L q)) :=
 seg_rule' 3 (fun env h => by kernel_rfl) (end_rule' (by kernel_rfl) (Rf.proj q) (fun _ _ x => x)) (Rf.proj q)
def f23_T4 (q : LPost) : List Value → Heap → Prop := LoopS (fun q => f23_T5 q) (inBL 0 (thenL (f23_T2 q) (q)))
set_option maxRecDepth 20000 in
theorem f23_T4_ok (q : LPost) : RfN f23_L (f23_T4 q) (wpLs pcN f23_l3 (inB 0 (thenQ (wpLs pcN f23_l1 (proj f23_L q)) (proj f23_L q)))) :=
 loop_rule' (b := hdB f23_l3) (B := fun q => f23_T5 q) (c := inBL 0 (thenL (f23_T2 q) (q))) (by kernel_rfl) (fun _ _ x => x) (fun q => (f23_T5_ok q)) (Rf.inB (Rf.then (f23_T2_ok q) (Rf.proj q)))
set_option maxRecDepth 20000 in
theorem f23_B3_ok (q : LPost) : RfN f23_L (f23_T4 q) (wpLs pcN f23_l0 (proj f23_L q)) :=
 block_rule (id := 0) (b := hdB f23_l0) (rest := f23_l1) (by kernel_rfl) (f23_T4_ok q)
def f23_T0 (q : LPost) : List Value → Heap → Prop := fun vs h => match vs with
 | [v0, v1, _] =>
 oCallF Try.prog 44 [v0, v1] (fun x30 h31 =>
 oUn .not x30 (fun x32 h33 =>
 oCond x32 (q .ret [v0, v1, (.int .i64 0)] h33) (f23_T4 q [v0, v1, (.int .i64 0)] h33)) h31) h
 | _ => False
set_option maxRecDepth 20000 in
theorem f23_T0_ok (q : LPost) : RfN f23_L (f23_T0 q) (wpLs pcN f23_l (proj f23_L q)) :=
 seg_rule' 3 (fun env h => by kernel_rfl) (f23_B3_ok q) (Rf.proj q)
theorem f23_ret {v0 v1 v4 : Value} {h : Heap} {K : Kont} : retL Try.prog f23_L Try.f23.results.toList K .ret [v0, v1, v4] h = (K v4 h) := by kernel_rfl
theorem f23_end {v0 v1 v4 : Value} {h : Heap} {K : Kont} : retL Try.prog f23_L Try.f23.results.toList K .normal [v0, v1, v4] h = (K v4 h) := by kernel_rfl
set_option maxRecDepth 20000 in
theorem f23_fn {a0 a1 : Value} {h : Heap} {K : Kont}
 (hw : f23_T0 (retL Try.prog f23_L Try.f23.results.toList K) [a0, a1, undef] h) : FnH Try.prog 23 #[a0, a1] h K :=
 fn_by (L := f23_L) (T := fun q => f23_T0 q) (args := [a0, a1]) pcN mixed Try.func23 (c := f23_c) (by kernel_rfl) (by kernel_rfl) (by kernel_rfl) (by kernel_rfl) (fun q => (f23_T0_ok q)) hw
/-! ### 24: missive/missiveref01.Strings -/
noncomputable def f24_c : Code := Try.f24.body.getD .skip
def f24_L : List Nat := [0, 1, 4, 5]
noncomputable def f24_l : List Code := flat f24_c
noncomputable def f24_l0 : List Code := f24_l.drop 4
noncomputable def f24_l1 : List Code := f24_l0.drop 1
noncomputable def f24_l2 : List Code := f24_l1.drop 2
def f24_T2 (q : LPost) : List Value → Heap → Prop := fun vs h => match vs with
 | [v0, v1, _, v5] =>
 q .ret [v0, v1, (.bool true), v5] h
 | _ => False
set_option maxRecDepth 20000 in
theorem f24_T2_ok (q : LPost) : RfN f24_L (f24_T2 q) (wpLs pcN f24_l1 (proj f24_L q)) :=
 seg_rule' 2 (fun env h => by kernel_rfl) (end_rule' (by kernel_rfl) (Rf.proj q) (fun _ _ x => x)) (Rf.proj q)
noncomputable def f24_l3 : List Code := flat (hdB f24_l0)
noncomputable def f24_l4 : List Code := flat (hdB f24_l3)
noncomputable def f24_l5 : List Code := f24_l4.drop 4
def f24_T5 (q : LPost) : List Value → Heap → Prop := fun vs h => match vs with
 | [v0, v1, v4, v5] =>
 oLen (Try.prog.underlying 26) v0 (fun x0 h1 =>
 oBin (Try.prog.underlying 3) .lss v5 x0 (fun x2 h3 =>
 oCond x2 (oIndexAddr (rowedOf Try.prog 26) v0 v5 (fun x4 h5 =>
 oLoad (varOf Try.prog 9) x4 (fun x6 h7 =>
 oIndexAddr (rowedOf Try.prog 26) v1 v5 (fun x8 h9 =>
 oLoad (varOf Try.prog 9) x8 (fun x10 h11 =>
 oBin (Try.prog.underlying 9) .neq x6 x10 (fun x12 h13 =>
 oCond x12 (q .ret [v0, v1, (.bool false), v5] h13) (oBin (Try.prog.underlying 3) .add v5 (.int .i64 1) (fun x14 h15 =>
 q .normal [v0, v1, v4, x14] h15) h13)) h11) h9) h7) h5) h3) (q (.exit 0) [v0, v1, v4, v5] h3)) h1) h
 | _ => False
set_option maxRecDepth 20000 in
theorem f24_T5_ok (q : LPost) : RfN f24_L (f24_T5 q) (wpLs pcN f24_l4 (proj f24_L q)) :=
 seg_rule' 4 (fun env h => by kernel_rfl) (end_rule' (by kernel_rfl) (Rf.proj q) (fun _ _ x => x)) (Rf.proj q)
def f24_T4 (q : LPost) : List Value → Heap → Prop := LoopS (fun q => f24_T5 q) (inBL 0 (thenL (f24_T2 q) (q)))
set_option maxRecDepth 20000 in
theorem f24_T4_ok (q : LPost) : RfN f24_L (f24_T4 q) (wpLs pcN f24_l3 (inB 0 (thenQ (wpLs pcN f24_l1 (proj f24_L q)) (proj f24_L q)))) :=
 loop_rule' (b := hdB f24_l3) (B := fun q => f24_T5 q) (c := inBL 0 (thenL (f24_T2 q) (q))) (by kernel_rfl) (fun _ _ x => x) (fun q => (f24_T5_ok q)) (Rf.inB (Rf.then (f24_T2_ok q) (Rf.proj q)))
set_option maxRecDepth 20000 in
theorem f24_B3_ok (q : LPost) : RfN f24_L (f24_T4 q) (wpLs pcN f24_l0 (proj f24_L q)) :=
 block_rule (id := 0) (b := hdB f24_l0) (rest := f24_l1) (by kernel_rfl) (f24_T4_ok q)
def f24_T0 (q : LPost) : List Value → Heap → Prop := fun vs h => match vs with
 | [v0, v1, _, v5] =>
 oLen (Try.prog.underlying 26) v0 (fun x16 h17 =>
 oLen (Try.prog.underlying 26) v1 (fun x18 h19 =>
 oBin (Try.prog.underlying 3) .neq x16 x18 (fun x20 h21 =>
 oCond x20 (q .ret [v0, v1, (.bool false), v5] h21) (f24_T4 q [v0, v1, (.bool false), (.int .i64 0)] h21)) h19) h17) h
 | _ => False
set_option maxRecDepth 20000 in
theorem f24_T0_ok (q : LPost) : RfN f24_L (f24_T0 q) (wpLs pcN f24_l (proj f24_L q)) :=
 seg_rule' 4 (fun env h => by kernel_rfl) (f24_B3_ok q) (Rf.proj q)
theorem f24_ret {v0 v1 v4 v5 : Value} {h : Heap} {K : Kont} : retL Try.prog f24_L Try.f24.results.toList K .ret [v0, v1, v4, v5] h = (K v4 h) := by kernel_rfl
theorem f24_end {v0 v1 v4 v5 : Value} {h : Heap} {K : Kont} : retL Try.prog f24_L Try.f24.results.toList K .normal [v0, v1, v4, v5] h = (K v4 h) := by kernel_rfl
set_option maxRecDepth 20000 in
theorem f24_fn {a0 a1 : Value} {h : Heap} {K : Kont}
 (hw : f24_T0 (retL Try.prog f24_L Try.f24.results.toList K) [a0, a1, undef, undef] h) : FnH Try.prog 24 #[a0, a1] h K :=
 fn_by (L := f24_L) (T := fun q => f24_T0 q) (args := [a0, a1]) pcN mixed Try.func24 (c := f24_c) (by kernel_rfl) (by kernel_rfl) (by kernel_rfl) (by kernel_rfl) (fun q => (f24_T0_ok q)) hw
/-! ### 27: (*missive/missiveref28.Lineage).Route -/
noncomputable def f27_c : Code := Try.f27.body.getD .skip
def f27_L : List Nat := [0, 1, 2, 3, 8, 9, 10, 11]
noncomputable def f27_l : List Code := flat f27_c
noncomputable def f27_l0 : List Code := f27_l.drop 3
noncomputable def f27_l1 : List Code := f27_l0.drop 1
noncomputable def f27_l2 : List Code := f27_l1.drop 2
def f27_T2 (q : LPost) : List Value → Heap → Prop := fun vs h => match vs with
 | [v0, v1, v2, v3, _, v9, v10, v11] =>
 q .ret [v0, v1, v2, v3, v9, v9, v10, v11] h
 | _ => False
set_option maxRecDepth 20000 in
theorem f27_T2_ok (q : LPost) : RfN f27_L (f27_T2 q) (wpLs pcN f27_l1 (proj f27_L q)) :=
 seg_rule' 2 (fun env h => by kernel_rfl) (end_rule' (by kernel_rfl) (Rf.proj q) (fun _ _ x => x)) (Rf.proj q)
noncomputable def f27_l3 : List Code := flat (hdB f27_l0)
noncomputable def f27_l4 : List Code := flat (hdB f27_l3)
noncomputable def f27_l5 : List Code := f27_l4.drop 2
noncomputable def f27_l6 : List Code := f27_l5.drop 1
noncomputable def f27_l7 : List Code := flat (hdB f27_l5)
noncomputable def f27_l8 : List Code := f27_l7.drop 3
noncomputable def f27_l9 : List Code := f27_l8.drop 4
def f27_T9 (q : LPost) : List Value → Heap → Prop := fun vs h => match vs with
 | [v0, v1, v2, v3, v8, v9, v10, v11] =>
 oBin (Try.prog.underlying 3) .eql v11 (.int .i64 0) (fun x0 h1 =>
 oCond x0 (q .ret [v0, v1, v2, v3, v9, v9, v10, v11] h1) (oBuildSlice (sliceOf Try.prog 41) 1 [(0, v11)] (fun x2 h3 =>
 oAppend (sliceOf Try.prog 41) v10 x2 (fun x4 h5 =>
 q .normal [v0, v1, v2, v3, v8, v11, x4, v11] h5) h3) h1)) h
 | _ => False
set_option maxRecDepth 20000 in
theorem f27_T9_ok (q : LPost) : RfN f27_L (f27_T9 q) (wpLs pcN f27_l8 (inB 1 (thenQ (wpLs pcN f27_l6 (proj f27_L q)) (proj f27_L q)))) :=
 seg_rule' 4 (fun env h => by kernel_rfl) (end_rule' (by kernel_rfl) (Rf.inB (Rf.then (end_rule' (by kernel_rfl) (Rf.proj q) (fun _ _ x => x)) (Rf.proj q))) (fun _ _ x => x)) (Rf.inB (Rf.then (end_rule' (by kernel_rfl) (Rf.proj q) (fun _ _ x => x)) (Rf.proj q)))
def f27_T8 (q : LPost) : List Value → Heap → Prop := fun vs h => match vs with
 | [v0, v1, v2, v3, v8, v9, v10, _] =>
 oCallF Try.prog 46 [v0, v9, v10, v2, v3, (.bool true)] (fun x6 h7 =>
 oBin (Try.prog.underlying 3) .eql x6 (.int .i64 0) (fun x8 h9 =>
 gop x8 true (fun K h => K v2 h) (fun x10 h11 =>
 gop x8 true (fun K h => K v9 h) (fun x12 h13 =>
 gop x8 true (oCallF Try.prog 47 [x10, x12]) (fun x14 h15 =>
 gop x8 true (oUn .not x14) (fun x16 h17 =>
 oPick x8 x16 (.bool false) (fun x18 h19 =>
 oCond x18 (oCallF Try.prog 46 [v0, v9, v10, v2, v3, (.bool false)] (fun x20 h21 =>
 f27_T9 q [v0, v1, v2, v3, v8, v9, v10, x20] h21) h19) (f27_T9 q [v0, v1, v2, v3, v8, v9, v10, x6] h19)) h17) h15) h13) h11) h9) h7) h
 | _ => False
set_option maxRecDepth 20000 in
theorem f27_T8_ok (q : LPost) : RfN f27_L (f27_T8 q) (wpLs pcN f27_l7 (inB 1 (thenQ (wpLs pcN f27_l6 (proj f27_L q)) (proj f27_L q)))) :=
 seg_rule' 3 (fun env h => by kernel_rfl) (f27_T9_ok q) (Rf.inB (Rf.then (end_rule' (by kernel_rfl) (Rf.proj q) (fun _ _ x => x)) (Rf.proj q)))
set_option maxRecDepth 20000 in
theorem f27_B7_ok (q : LPost) : RfN f27_L (f27_T8 q) (wpLs pcN f27_l5 (proj f27_L q)) :=
 block_rule (id := 1) (b := hdB f27_l5) (rest := f27_l6) (by kernel_rfl) (f27_T8_ok q)
def f27_T5 (q : LPost) : List Value → Heap → Prop := fun vs h => match vs with
 | [v0, v1, v2, v3, v8, v9, v10, v11] =>
 oBin (Try.prog.underlying 3) .gtr v9 (.int .i64 0) (fun x22 h23 =>
 oCond x22 (f27_T8 q [v0, v1, v2, v3, v8, v9, v10, v11] h23) (q (.exit 0) [v0, v1, v2, v3, v8, v9, v10, v11] h23)) h
 | _ => False
set_option maxRecDepth 20000 in
theorem f27_T5_ok (q : LPost) : RfN f27_L (f27_T5 q) (wpLs pcN f27_l4 (proj f27_L q)) :=
 seg_rule' 2 (fun env h => by kernel_rfl) (f27_B7_ok q) (Rf.proj q)
def f27_T4 (q : LPost) : List Value → Heap → Prop := LoopS (fun q => f27_T5 q) (inBL 0 (thenL (f27_T2 q) (q)))
set_option maxRecDepth 20000 in
theorem f27_T4_ok (q : LPost) : RfN f27_L (f27_T4 q) (wpLs pcN f27_l3 (inB 0 (thenQ (wpLs pcN f27_l1 (proj f27_L q)) (proj f27_L q)))) :=
 loop_rule' (b := hdB f27_l3) (B := fun q => f27_T5 q) (c := inBL 0 (thenL (f27_T2 q) (q))) (by kernel_rfl) (fun _ _ x => x) (fun q => (f27_T5_ok q)) (Rf.inB (Rf.then (f27_T2_ok q) (Rf.proj q)))
set_option maxRecDepth 20000 in
theorem f27_B3_ok (q : LPost) : RfN f27_L (f27_T4 q) (wpLs pcN f27_l0 (proj f27_L q)) :=
 block_rule (id := 0) (b := hdB f27_l0) (rest := f27_l1) (by kernel_rfl) (f27_T4_ok q)
def f27_T0 (q : LPost) : List Value → Heap → Prop := fun vs h => match vs with
 | [v0, v1, v2, v3, _, _, _, v11] =>
 oCallF Try.prog 23 [v0, v1] (fun x24 h25 =>
 oBuildSlice (sliceOf Try.prog 41) 1 [(0, x24)] (fun x26 h27 =>
 f27_T4 q [v0, v1, v2, v3, (.int .i64 0), x24, x26, v11] h27) h25) h
 | _ => False
set_option maxRecDepth 20000 in
theorem f27_T0_ok (q : LPost) : RfN f27_L (f27_T0 q) (wpLs pcN f27_l (proj f27_L q)) :=
 seg_rule' 3 (fun env h => by kernel_rfl) (f27_B3_ok q) (Rf.proj q)
theorem f27_ret {v0 v1 v2 v3 v8 v9 v10 v11 : Value} {h : Heap} {K : Kont} : retL Try.prog f27_L Try.f27.results.toList K .ret [v0, v1, v2, v3, v8, v9, v10, v11] h = (K v8 h) := by kernel_rfl
theorem f27_end {v0 v1 v2 v3 v8 v9 v10 v11 : Value} {h : Heap} {K : Kont} : retL Try.prog f27_L Try.f27.results.toList K .normal [v0, v1, v2, v3, v8, v9, v10, v11] h = (K v8 h) := by kernel_rfl
set_option maxRecDepth 20000 in
theorem f27_fn {a0 a1 a2 a3 : Value} {h : Heap} {K : Kont}
 (hw : f27_T0 (retL Try.prog f27_L Try.f27.results.toList K) [a0, a1, a2, a3, undef, undef, undef, undef] h) : FnH Try.prog 27 #[a0, a1, a2, a3] h K :=
 fn_by (L := f27_L) (T := fun q => f27_T0 q) (args := [a0, a1, a2, a3]) pcN mixed Try.func27 (c := f27_c) (by kernel_rfl) (by kernel_rfl) (by kernel_rfl) (by kernel_rfl) (fun q => (f27_T0_ok q)) hw
@[go_sem] theorem build78 : buildOf Try.prog 78 = some ((.agg #[(.string (ByteArray.mk #[])), (.int .i64 0)]), [(0, 1), (1, 1)]) := by kernel_rfl
@[go_sem] theorem var53 : varOf Try.prog 53 = .one := by kernel_rfl
@[go_sem] theorem foff55_2 : fieldOff Try.prog 55 2 = some 2 := by kernel_rfl
@[go_sem] theorem slice53 : sliceOf Try.prog 53 = some (78, 2, 24, (.agg #[(.string (ByteArray.mk #[])), (.int .i64 0)])) := by kernel_rfl
/-! ### 36: (*missive/missiveref28.Lineage).Rename -/
noncomputable def f36_c : Code := Try.f36.body.getD .skip
def f36_L : List Nat := [0, 1, 2, 6, 7]
noncomputable def f36_l : List Code := flat f36_c
noncomputable def f36_l0 : List Code := f36_l.drop 4
noncomputable def f36_l1 : List Code := f36_l0.drop 8
def f36_T1 (q : LPost) : List Value → Heap → Prop := fun vs h => match vs with
 | [v0, v1, v2, _, v7] =>
 oBin (Try.prog.underlying 31) .neq v7 (.int .i64 0) (fun x0 h1 =>
 oCond x0 (q .ret [v0, v1, v2, v7, v7] h1) (oNilCheck v0 (fun x2 h3 =>
 oFieldAddr (fieldOff Try.prog 55 0) x2 (fun x4 h5 =>
 oLoad (varOf Try.prog 29) x4 (fun x6 h7 =>
 oBin (Try.prog.underlying 3) .sub v1 (.int .i64 1) (fun x8 h9 =>
 oIndexAddr (rowedOf Try.prog 29) x6 x8 (fun x10 h11 =>
 oLoad (varOf Try.prog 38) x10 (fun x12 h13 =>
 oAlloc (zeroOf Try.prog 38) 38 (fun x14 h15 =>
 oStore (varOf Try.prog 38) x14 x12 (fun _ h17 =>
 oFieldAddr (fieldOff Try.prog 38 3) x14 (fun x18 h19 =>
 oStore (varOf Try.prog 9) x18 v2 (fun _ h21 =>
 oLoad (varOf Try.prog 38) x14 (fun x22 h23 =>
 oCallF Try.prog 55 [v0, x22] (fun _ h25 =>
 oBuildSlice (sliceOf Try.prog 53) 0 [] (fun x26 h27 =>
 oNilCheck v0 (fun x28 h29 =>
 oFieldAddr (fieldOff Try.prog 55 2) x28 (fun x30 h31 =>
 oLoad (varOf Try.prog 53) x30 (fun x32 h33 =>
 oAppend (sliceOf Try.prog 53) x26 x32 (fun x34 h35 =>
 oBuild (buildOf Try.prog 78) [(0, v2), (1, v1)] (fun x36 h37 =>
 oBuildSlice (sliceOf Try.prog 53) 1 [(0, x36)] (fun x38 h39 =>
 oAppend (sliceOf Try.prog 53) x34 x38 (fun x40 h41 =>
 oNilCheck v0 (fun x42 h43 =>
 oFieldAddr (fieldOff Try.prog 55 2) x42 (fun x44 h45 =>
 oStore (varOf Try.prog 53) x44 x40 (fun _ h47 =>
 q .ret [v0, v1, v2, (.int .i64 0), v7] h47) h45) h43) h41) h39) h37) h35) h33) h31) h29) h27) h25) h23) h21) h19) h17) h15) h13) h11) h9) h7) h5) h3) h1)) h
 | _ => False
set_option maxRecDepth 20000 in
theorem f36_T1_ok (q : LPost) : RfN f36_L (f36_T1 q) (wpLs pcN f36_l0 (proj f36_L q)) :=
 seg_rule' 8 (fun env h => by kernel_rfl) (end_rule' (by kernel_rfl) (Rf.proj q) (fun _ _ x => x)) (Rf.proj q)
def f36_T0 (q : LPost) : List Value → Heap → Prop := fun vs h => match vs with
 | [v0, v1, v2, _, _] =>
 oCallF Try.prog 53 [v0, v1] (fun x48 h49 =>
 oBin (Try.prog.underlying 31) .eql x48 (.int .i64 0) (fun x50 h51 =>
 oCond x50 (oCallF Try.prog 54 [v0, v2] (fun x52 h53 =>
 f36_T1 q [v0, v1, v2, (.int .i64 0), x52] h53) h51) (f36_T1 q [v0, v1, v2, (.int .i64 0), x48] h51)) h49) h
 | _ => False
set_option maxRecDepth 20000 in
theorem f36_T0_ok (q : LPost) : RfN f36_L (f36_T0 q) (wpLs pcN f36_l (proj f36_L q)) :=
 seg_rule' 4 (fun env h => by kernel_rfl) (f36_T1_ok q) (Rf.proj q)
theorem f36_ret {v0 v1 v2 v6 v7 : Value} {h : Heap} {K : Kont} : retL Try.prog f36_L Try.f36.results.toList K .ret [v0, v1, v2, v6, v7] h = (K v6 h) := by kernel_rfl
theorem f36_end {v0 v1 v2 v6 v7 : Value} {h : Heap} {K : Kont} : retL Try.prog f36_L Try.f36.results.toList K .normal [v0, v1, v2, v6, v7] h = (K v6 h) := by kernel_rfl
set_option maxRecDepth 20000 in
theorem f36_fn {a0 a1 a2 : Value} {h : Heap} {K : Kont}
 (hw : f36_T0 (retL Try.prog f36_L Try.f36.results.toList K) [a0, a1, a2, undef, undef] h) : FnH Try.prog 36 #[a0, a1, a2] h K :=
 fn_by (L := f36_L) (T := fun q => f36_T0 q) (args := [a0, a1, a2]) pcN mixed Try.func36 (c := f36_c) (by kernel_rfl) (by kernel_rfl) (by kernel_rfl) (by kernel_rfl) (fun q => (f36_T0_ok q)) hw
@[go_sem] theorem foff55_1 : fieldOff Try.prog 55 1 = some 1 := by kernel_rfl
/-! ### 37: (*missive/missiveref28.Lineage).Split -/
noncomputable def f37_c : Code := Try.f37.body.getD .skip
def f37_L : List Nat := [0, 1, 2, 3, 4, 10, 11]
noncomputable def f37_l : List Code := flat f37_c
noncomputable def f37_l0 : List Code := f37_l.drop 10
def f37_T0 (q : LPost) : List Value → Heap → Prop := fun vs h => match vs with
 | [v0, v1, v2, v3, v4, _, _] =>
 oCallF Try.prog 53 [v0, v1] (fun x0 h1 =>
 oBin (Try.prog.underlying 31) .neq x0 (.int .i64 0) (fun x2 h3 =>
 oCond x2 (q .ret [v0, v1, v2, v3, v4, (.int .i64 0), x0] h3) (oCallF Try.prog 56 [v0, v2, v1] (fun x4 h5 =>
 oExtract x4 0 (fun x6 h7 =>
 oExtract x4 1 (fun x8 h9 =>
 oBin (Try.prog.underlying 31) .neq x8 (.int .i64 0) (fun x10 h11 =>
 oCond x10 (q .ret [v0, v1, v2, v3, v4, (.int .i64 0), x8] h11) (oBuildSlice (sliceOf Try.prog 52) 0 [] (fun x12 h13 =>
 oNilCheck v0 (fun x14 h15 =>
 oFieldAddr (fieldOff Try.prog 55 1) x14 (fun x16 h17 =>
 oLoad (varOf Try.prog 52) x16 (fun x18 h19 =>
 oAppend (sliceOf Try.prog 52) x12 x18 (fun x20 h21 =>
 oBuild (buildOf Try.prog 73) [(0, v1), (1, x6), (2, v4), (3, v3)] (fun x22 h23 =>
 oBuildSlice (sliceOf Try.prog 52) 1 [(0, x22)] (fun x24 h25 =>
 oAppend (sliceOf Try.prog 52) x20 x24 (fun x26 h27 =>
 oNilCheck v0 (fun x28 h29 =>
 oFieldAddr (fieldOff Try.prog 55 1) x28 (fun x30 h31 =>
 oStore (varOf Try.prog 52) x30 x26 (fun _ h33 =>
 q .ret [v0, v1, v2, v3, v4, x6, (.int .i64 0)] h33) h31) h29) h27) h25) h23) h21) h19) h17) h15) h13) h11)) h9) h7) h5) h3)) h1) h
 | _ => False
set_option maxRecDepth 20000 in
theorem f37_T0_ok (q : LPost) : RfN f37_L (f37_T0 q) (wpLs pcN f37_l (proj f37_L q)) :=
 seg_rule' 10 (fun env h => by kernel_rfl) (end_rule' (by kernel_rfl) (Rf.proj q) (fun _ _ x => x)) (Rf.proj q)
theorem f37_ret {v0 v1 v2 v3 v4 v10 v11 : Value} {h : Heap} {K : Kont} : retL Try.prog f37_L Try.f37.results.toList K .ret [v0, v1, v2, v3, v4, v10, v11] h = (K (.tuple #[v10, v11]) h) := by kernel_rfl
theorem f37_end {v0 v1 v2 v3 v4 v10 v11 : Value} {h : Heap} {K : Kont} : retL Try.prog f37_L Try.f37.results.toList K .normal [v0, v1, v2, v3, v4, v10, v11] h = (K (.tuple #[v10, v11]) h) := by kernel_rfl
set_option maxRecDepth 20000 in
theorem f37_fn {a0 a1 a2 a3 a4 : Value} {h : Heap} {K : Kont}
 (hw : f37_T0 (retL Try.prog f37_L Try.f37.results.toList K) [a0, a1, a2, a3, a4, undef, undef] h) : FnH Try.prog 37 #[a0, a1, a2, a3, a4] h K :=
 fn_by (L := f37_L) (T := fun q => f37_T0 q) (args := [a0, a1, a2, a3, a4]) pcN mixed Try.func37 (c := f37_c) (by kernel_rfl) (by kernel_rfl) (by kernel_rfl) (by kernel_rfl) (fun q => (f37_T0_ok q)) hw
/-! ### 38: (*missive/missiveref28.Lineage).Merge -/
noncomputable def f38_c : Code := Try.f38.body.getD .skip
def f38_L : List Nat := [0, 1, 2, 6]
noncomputable def f38_l : List Code := flat f38_c
noncomputable def f38_l0 : List Code := f38_l.drop 13
def f38_T0 (q : LPost) : List Value → Heap → Prop := fun vs h => match vs with
 | [v0, v1, v2, _] =>
 oCallF Try.prog 44 [v0, v1] (fun x0 h1 =>
 oUn .not x0 (fun x2 h3 =>
 gop x2 false (fun K h => K v0 h) (fun x4 h5 =>
 gop x2 false (fun K h => K v2 h) (fun x6 h7 =>
 gop x2 false (oCallF Try.prog 44 [x4, x6]) (fun x8 h9 =>
 gop x2 false (oUn .not x8) (fun x10 h11 =>
 oPick x2 (.bool true) x10 (fun x12 h13 =>
 oCond x12 (q .ret [v0, v1, v2, (.int .i64 4)] h13) (oCallF Try.prog 23 [v0, v2] (fun x14 h15 =>
 oCallF Try.prog 57 [v0, v1] (fun x16 h17 =>
 oUn .not x16 (fun x18 h19 =>
 gop x18 false (fun K h => K v0 h) (fun x20 h21 =>
 gop x18 false (oNilCheck x20) (fun x22 h23 =>
 gop x18 false (oFieldAddr (fieldOff Try.prog 55 0) x22) (fun x24 h25 =>
 gop x18 false (oLoad (varOf Try.prog 29) x24) (fun x26 h27 =>
 gop x18 false (fun K h => K x14 h) (fun x28 h29 =>
 gop x18 false (oBin (Try.prog.underlying 3) .sub x28 (.int .i64 1)) (fun x30 h31 =>
 gop x18 false (oIndexAddr (rowedOf Try.prog 29) x26 x30) (fun x32 h33 =>
 gop x18 false (oFieldAddr (fieldOff Try.prog 38 4) x32) (fun x34 h35 =>
 gop x18 false (oLoad (varOf Try.prog 9) x34) (fun x36 h37 =>
 gop x18 false (oBin (Try.prog.underlying 9) .neq x36 (.string (ByteArray.mk #[]))) (fun x38 h39 =>
 oPick x18 (.bool true) x38 (fun x40 h41 =>
 oCond x40 (q .ret [v0, v1, v2, (.int .i64 7)] h41) (oBin (Try.prog.underlying 3) .eql x14 v1 (fun x42 h43 =>
 oCond x42 (q .ret [v0, v1, v2, (.int .i64 1)] h43) (oNilCheck v0 (fun x44 h45 =>
 oFieldAddr (fieldOff Try.prog 55 0) x44 (fun x46 h47 =>
 oLoad (varOf Try.prog 29) x46 (fun x48 h49 =>
 oBin (Try.prog.underlying 3) .sub v1 (.int .i64 1) (fun x50 h51 =>
 oIndexAddr (rowedOf Try.prog 29) x48 x50 (fun x52 h53 =>
 oLoad (varOf Try.prog 38) x52 (fun x54 h55 =>
 oAlloc (zeroOf Try.prog 38) 38 (fun x56 h57 =>
 oStore (varOf Try.prog 38) x56 x54 (fun _ h59 =>
 oFieldAddr (fieldOff Try.prog 38 1) x56 (fun x60 h61 =>
 oStore (varOf Try.prog 3) x60 x14 (fun _ h63 =>
 oLoad (varOf Try.prog 38) x56 (fun x64 h65 =>
 oCallF Try.prog 55 [v0, x64] (fun _ h67 =>
 q .ret [v0, v1, v2, (.int .i64 0)] h67) h65) h63) h61) h59) h57) h55) h53) h51) h49) h47) h45) h43)) h41)) h39) h37) h35) h33) h31) h29) h27) h25) h23) h21) h19) h17) h15) h13)) h11) h9) h7) h5) h3) h1) h
 | _ => False
set_option maxRecDepth 20000 in
theorem f38_T0_ok (q : LPost) : RfN f38_L (f38_T0 q) (wpLs pcN f38_l (proj f38_L q)) :=
 seg_rule' 13 (fun env h => by kernel_rfl) (end_rule' (by kernel_rfl) (Rf.proj q) (fun _ _ x => x)) (Rf.proj q)
theorem f38_ret {v0 v1 v2 v6 : Value} {h : Heap} {K : Kont} : retL Try.prog f38_L Try.f38.results.toList K .ret [v0, v1, v2, v6] h = (K v6 h) := by kernel_rfl
theorem f38_end {v0 v1 v2 v6 : Value} {h : Heap} {K : Kont} : retL Try.prog f38_L Try.f38.results.toList K .normal [v0, v1, v2, v6] h = (K v6 h) := by kernel_rfl
set_option maxRecDepth 20000 in
theorem f38_fn {a0 a1 a2 : Value} {h : Heap} {K : Kont}
 (hw : f38_T0 (retL Try.prog f38_L Try.f38.results.toList K) [a0, a1, a2, undef] h) : FnH Try.prog 38 #[a0, a1, a2] h K :=
 fn_by (L := f38_L) (T := fun q => f38_T0 q) (args := [a0, a1, a2]) pcN mixed Try.func38 (c := f38_c) (by kernel_rfl) (by kernel_rfl) (by kernel_rfl) (by kernel_rfl) (fun q => (f38_T0_ok q)) hw
/-! ### 39: (*missive/missiveref28.Lineage).Move -/
noncomputable def f39_c : Code := Try.f39.body.getD .skip
def f39_L : List Nat := [0, 1, 2, 6, 7]
noncomputable def f39_l : List Code := flat f39_c
noncomputable def f39_l0 : List Code := f39_l.drop 4
noncomputable def f39_l1 : List Code := f39_l0.drop 7
def f39_T1 (q : LPost) : List Value → Heap → Prop := fun vs h => match vs with
 | [v0, v1, v2, _, v7] =>
 oBin (Try.prog.underlying 31) .neq v7 (.int .i64 0) (fun x0 h1 =>
 oCond x0 (q .ret [v0, v1, v2, v7, v7] h1) (oNilCheck v0 (fun x2 h3 =>
 oFieldAddr (fieldOff Try.prog 55 0) x2 (fun x4 h5 =>
 oLoad (varOf Try.prog 29) x4 (fun x6 h7 =>
 oBin (Try.prog.underlying 3) .sub v1 (.int .i64 1) (fun x8 h9 =>
 oIndexAddr (rowedOf Try.prog 29) x6 x8 (fun x10 h11 =>
 oLoad (varOf Try.prog 38) x10 (fun x12 h13 =>
 oAlloc (zeroOf Try.prog 38) 38 (fun x14 h15 =>
 oStore (varOf Try.prog 38) x14 x12 (fun _ h17 =>
 oFieldAddr (fieldOff Try.prog 38 4) x14 (fun x18 h19 =>
 oStore (varOf Try.prog 9) x18 v2 (fun _ h21 =>
 oLoad (varOf Try.prog 38) x14 (fun x22 h23 =>
 oCallF Try.prog 55 [v0, x22] (fun _ h25 =>
 q .ret [v0, v1, v2, (.int .i64 0), v7] h25) h23) h21) h19) h17) h15) h13) h11) h9) h7) h5) h3) h1)) h
 | _ => False
set_option maxRecDepth 20000 in
theorem f39_T1_ok (q : LPost) : RfN f39_L (f39_T1 q) (wpLs pcN f39_l0 (proj f39_L q)) :=
 seg_rule' 7 (fun env h => by kernel_rfl) (end_rule' (by kernel_rfl) (Rf.proj q) (fun _ _ x => x)) (Rf.proj q)
def f39_T0 (q : LPost) : List Value → Heap → Prop := fun vs h => match vs with
 | [v0, v1, v2, _, _] =>
 oCallF Try.prog 53 [v0, v1] (fun x26 h27 =>
 oBin (Try.prog.underlying 31) .eql x26 (.int .i64 0) (fun x28 h29 =>
 gop x28 true (fun K h => K v2 h) (fun x30 h31 =>
 gop x28 true (oBin (Try.prog.underlying 9) .eql x30 (.string (ByteArray.mk #[]))) (fun x32 h33 =>
 oPick x28 x32 (.bool false) (fun x34 h35 =>
 oCond x34 (f39_T1 q [v0, v1, v2, (.int .i64 0), (.int .i64 1)] h35) (f39_T1 q [v0, v1, v2, (.int .i64 0), x26] h35)) h33) h31) h29) h27) h
 | _ => False
set_option maxRecDepth 20000 in
theorem f39_T0_ok (q : LPost) : RfN f39_L (f39_T0 q) (wpLs pcN f39_l (proj f39_L q)) :=
 seg_rule' 4 (fun env h => by kernel_rfl) (f39_T1_ok q) (Rf.proj q)
theorem f39_ret {v0 v1 v2 v6 v7 : Value} {h : Heap} {K : Kont} : retL Try.prog f39_L Try.f39.results.toList K .ret [v0, v1, v2, v6, v7] h = (K v6 h) := by kernel_rfl
theorem f39_end {v0 v1 v2 v6 v7 : Value} {h : Heap} {K : Kont} : retL Try.prog f39_L Try.f39.results.toList K .normal [v0, v1, v2, v6, v7] h = (K v6 h) := by kernel_rfl
set_option maxRecDepth 20000 in
theorem f39_fn {a0 a1 a2 : Value} {h : Heap} {K : Kont}
 (hw : f39_T0 (retL Try.prog f39_L Try.f39.results.toList K) [a0, a1, a2, undef, undef] h) : FnH Try.prog 39 #[a0, a1, a2] h K :=
 fn_by (L := f39_L) (T := fun q => f39_T0 q) (args := [a0, a1, a2]) pcN mixed Try.func39 (c := f39_c) (by kernel_rfl) (by kernel_rfl) (by kernel_rfl) (by kernel_rfl) (fun q => (f39_T0_ok q)) hw
/-! ### 40: (*missive/missiveref28.Lineage).Create -/
noncomputable def f40_c : Code := Try.f40.body.getD .skip
def f40_L : List Nat := [0, 1, 4, 5]
noncomputable def f40_l : List Code := flat f40_c
noncomputable def f40_l0 : List Code := f40_l.drop 3
def f40_T0 (q : LPost) : List Value → Heap → Prop := fun vs h => match vs with
 | [v0, v1, _, _] =>
 oCallF Try.prog 56 [v0, v1, (.int .i64 0)] (fun x0 h1 =>
 oExtract x0 0 (fun x2 h3 =>
 oExtract x0 1 (fun x4 h5 =>
 q .ret [v0, v1, x2, x4] h5) h3) h1) h
 | _ => False
set_option maxRecDepth 20000 in
theorem f40_T0_ok (q : LPost) : RfN f40_L (f40_T0 q) (wpLs pcN f40_l (proj f40_L q)) :=
 seg_rule' 3 (fun env h => by kernel_rfl) (end_rule' (by kernel_rfl) (Rf.proj q) (fun _ _ x => x)) (Rf.proj q)
theorem f40_ret {v0 v1 v4 v5 : Value} {h : Heap} {K : Kont} : retL Try.prog f40_L Try.f40.results.toList K .ret [v0, v1, v4, v5] h = (K (.tuple #[v4, v5]) h) := by kernel_rfl
theorem f40_end {v0 v1 v4 v5 : Value} {h : Heap} {K : Kont} : retL Try.prog f40_L Try.f40.results.toList K .normal [v0, v1, v4, v5] h = (K (.tuple #[v4, v5]) h) := by kernel_rfl
set_option maxRecDepth 20000 in
theorem f40_fn {a0 a1 : Value} {h : Heap} {K : Kont}
 (hw : f40_T0 (retL Try.prog f40_L Try.f40.results.toList K) [a0, a1, undef, undef] h) : FnH Try.prog 40 #[a0, a1] h K :=
 fn_by (L := f40_L) (T := fun q => f40_T0 q) (args := [a0, a1]) pcN mixed Try.func40 (c := f40_c) (by kernel_rfl) (by kernel_rfl) (by kernel_rfl) (by kernel_rfl) (fun q => (f40_T0_ok q)) hw
@[go_sem] theorem foff78_1 : fieldOff Try.prog 78 1 = some 1 := by kernel_rfl
@[go_sem] theorem foff78_0 : fieldOff Try.prog 78 0 = some 0 := by kernel_rfl
@[go_sem] theorem rowed53 : rowedOf Try.prog 53 = .slice 2 := by kernel_rfl
@[go_sem] theorem und53 : Try.prog.underlying 53 = some (.slice 78) := by kernel_rfl
/-! ### 42: (*missive/missiveref28.Lineage).find -/
noncomputable def f42_c : Code := Try.f42.body.getD .skip
def f42_L : List Nat := [0, 1, 4, 5]
noncomputable def f42_l : List Code := flat f42_c
noncomputable def f42_l0 : List Code := f42_l.drop 2
noncomputable def f42_l1 : List Code := f42_l0.drop 1
noncomputable def f42_l2 : List Code := f42_l1.drop 2
def f42_T2 (q : LPost) : List Value → Heap → Prop := fun vs h => match vs with
 | [v0, v1, _, v5] =>
 q .ret [v0, v1, (.int .i64 0), v5] h
 | _ => False
set_option maxRecDepth 20000 in
theorem f42_T2_ok (q : LPost) : RfN f42_L (f42_T2 q) (wpLs pcN f42_l1 (proj f42_L q)) :=
 seg_rule' 2 (fun env h => by kernel_rfl) (end_rule' (by kernel_rfl) (Rf.proj q) (fun _ _ x => x)) (Rf.proj q)
noncomputable def f42_l3 : List Code := flat (hdB f42_l0)
noncomputable def f42_l4 : List Code := flat (hdB f42_l3)
noncomputable def f42_l5 : List Code := f42_l4.drop 4
def f42_T5 (q : LPost) : List Value → Heap → Prop := fun vs h => match vs with
 | [v0, v1, v4, v5] =>
 oNilCheck v0 (fun x0 h1 =>
 oFieldAddr (fieldOff Try.prog 55 2) x0 (fun x2 h3 =>
 oLoad (varOf Try.prog 53) x2 (fun x4 h5 =>
 oLen (Try.prog.underlying 53) x4 (fun x6 h7 =>
 oBin (Try.prog.underlying 3) .lss v5 x6 (fun x8 h9 =>
 oCond x8 (oNilCheck v0 (fun x10 h11 =>
 oFieldAddr (fieldOff Try.prog 55 2) x10 (fun x12 h13 =>
 oLoad (varOf Try.prog 53) x12 (fun x14 h15 =>
 oIndexAddr (rowedOf Try.prog 53) x14 v5 (fun x16 h17 =>
 oFieldAddr (fieldOff Try.prog 78 0) x16 (fun x18 h19 =>
 oLoad (varOf Try.prog 9) x18 (fun x20 h21 =>
 oBin (Try.prog.underlying 9) .eql x20 v1 (fun x22 h23 =>
 oCond x22 (oNilCheck v0 (fun x24 h25 =>
 oFieldAddr (fieldOff Try.prog 55 2) x24 (fun x26 h27 =>
 oLoad (varOf Try.prog 53) x26 (fun x28 h29 =>
 oIndexAddr (rowedOf Try.prog 53) x28 v5 (fun x30 h31 =>
 oFieldAddr (fieldOff Try.prog 78 1) x30 (fun x32 h33 =>
 oLoad (varOf Try.prog 3) x32 (fun x34 h35 =>
 q .ret [v0, v1, x34, v5] h35) h33) h31) h29) h27) h25) h23) (oBin (Try.prog.underlying 3) .add v5 (.int .i64 1) (fun x36 h37 =>
 q .normal [v0, v1, v4, x36] h37) h23)) h21) h19) h17) h15) h13) h11) h9) (q (.exit 0) [v0, v1, v4, v5] h9)) h7) h5) h3) h1) h
 | _ => False
set_option maxRecDepth 20000 in
theorem f42_T5_ok (q : LPost) : RfN f42_L (f42_T5 q) (wpLs pcN f42_l4 (proj f42_L q)) :=
 seg_rule' 4 (fun env h => by kernel_rfl) (end_rule' (by kernel_rfl) (Rf.proj q) (fun _ _ x => x)) (Rf.proj q)
def f42_T4 (q : LPost) : List Value → Heap → Prop := LoopS (fun q => f42_T5 q) (inBL 0 (thenL (f42_T2 q) (q)))
set_option maxRecDepth 20000 in
theorem f42_T4_ok (q : LPost) : RfN f42_L (f42_T4 q) (wpLs pcN f42_l3 (inB 0 (thenQ (wpLs pcN f42_l1 (proj f42_L q)) (proj f42_L q)))) :=
 loop_rule' (b := hdB f42_l3) (B := fun q => f42_T5 q) (c := inBL 0 (thenL (f42_T2 q) (q))) (by kernel_rfl) (fun _ _ x => x) (fun q => (f42_T5_ok q)) (Rf.inB (Rf.then (f42_T2_ok q) (Rf.proj q)))
set_option maxRecDepth 20000 in
theorem f42_B3_ok (q : LPost) : RfN f42_L (f42_T4 q) (wpLs pcN f42_l0 (proj f42_L q)) :=
 block_rule (id := 0) (b := hdB f42_l0) (rest := f42_l1) (by kernel_rfl) (f42_T4_ok q)
def f42_T0 (q : LPost) : List Value → Heap → Prop := fun vs h => match vs with
 | [v0, v1, _, _] =>
 f42_T4 q [v0, v1, (.int .i64 0), (.int .i64 0)] h
 | _ => False
set_option maxRecDepth 20000 in
theorem f42_T0_ok (q : LPost) : RfN f42_L (f42_T0 q) (wpLs pcN f42_l (proj f42_L q)) :=
 seg_rule' 2 (fun env h => by kernel_rfl) (f42_B3_ok q) (Rf.proj q)
theorem f42_ret {v0 v1 v4 v5 : Value} {h : Heap} {K : Kont} : retL Try.prog f42_L Try.f42.results.toList K .ret [v0, v1, v4, v5] h = (K v4 h) := by kernel_rfl
theorem f42_end {v0 v1 v4 v5 : Value} {h : Heap} {K : Kont} : retL Try.prog f42_L Try.f42.results.toList K .normal [v0, v1, v4, v5] h = (K v4 h) := by kernel_rfl
set_option maxRecDepth 20000 in
theorem f42_fn {a0 a1 : Value} {h : Heap} {K : Kont}
 (hw : f42_T0 (retL Try.prog f42_L Try.f42.results.toList K) [a0, a1, undef, undef] h) : FnH Try.prog 42 #[a0, a1] h K :=
 fn_by (L := f42_L) (T := fun q => f42_T0 q) (args := [a0, a1]) pcN mixed Try.func42 (c := f42_c) (by kernel_rfl) (by kernel_rfl) (by kernel_rfl) (by kernel_rfl) (fun q => (f42_T0_ok q)) hw
/-! ### 44: (*missive/missiveref28.Lineage).is -/
noncomputable def f44_c : Code := Try.f44.body.getD .skip
def f44_L : List Nat := [0, 1, 4]
noncomputable def f44_l : List Code := flat f44_c
noncomputable def f44_l0 : List Code := f44_l.drop 3
def f44_T0 (q : LPost) : List Value → Heap → Prop := fun vs h => match vs with
 | [v0, v1, _] =>
 oBin (Try.prog.underlying 3) .geq v1 (.int .i64 1) (fun x0 h1 =>
 gop x0 true (fun K h => K v1 h) (fun x2 h3 =>
 gop x0 true (fun K h => K v0 h) (fun x4 h5 =>
 gop x0 true (oNilCheck x4) (fun x6 h7 =>
 gop x0 true (oFieldAddr (fieldOff Try.prog 55 0) x6) (fun x8 h9 =>
 gop x0 true (oLoad (varOf Try.prog 29) x8) (fun x10 h11 =>
 gop x0 true (oLen (Try.prog.underlying 29) x10) (fun x12 h13 =>
 gop x0 true (oBin (Try.prog.underlying 3) .leq x2 x12) (fun x14 h15 =>
 oPick x0 x14 (.bool false) (fun x16 h17 =>
 q .ret [v0, v1, x16] h17) h15) h13) h11) h9) h7) h5) h3) h1) h
 | _ => False
set_option maxRecDepth 20000 in
theorem f44_T0_ok (q : LPost) : RfN f44_L (f44_T0 q) (wpLs pcN f44_l (proj f44_L q)) :=
 seg_rule' 3 (fun env h => by kernel_rfl) (end_rule' (by kernel_rfl) (Rf.proj q) (fun _ _ x => x)) (Rf.proj q)
theorem f44_ret {v0 v1 v4 : Value} {h : Heap} {K : Kont} : retL Try.prog f44_L Try.f44.results.toList K .ret [v0, v1, v4] h = (K v4 h) := by kernel_rfl
theorem f44_end {v0 v1 v4 : Value} {h : Heap} {K : Kont} : retL Try.prog f44_L Try.f44.results.toList K .normal [v0, v1, v4] h = (K v4 h) := by kernel_rfl
set_option maxRecDepth 20000 in
theorem f44_fn {a0 a1 : Value} {h : Heap} {K : Kont}
 (hw : f44_T0 (retL Try.prog f44_L Try.f44.results.toList K) [a0, a1, undef] h) : FnH Try.prog 44 #[a0, a1] h K :=
 fn_by (L := f44_L) (T := fun q => f44_T0 q) (args := [a0, a1]) pcN mixed Try.func44 (c := f44_c) (by kernel_rfl) (by kernel_rfl) (by kernel_rfl) (by kernel_rfl) (fun q => (f44_T0_ok q)) hw
/-! ### 46: (*missive/missiveref28.Lineage).next -/
noncomputable def f46_c : Code := Try.f46.body.getD .skip
def f46_L : List Nat := [0, 1, 2, 3, 4, 5, 12, 13, 14, 15, 16]
noncomputable def f46_l : List Code := flat f46_c
noncomputable def f46_l0 : List Code := f46_l.drop 2
noncomputable def f46_l1 : List Code := f46_l0.drop 1
noncomputable def f46_l2 : List Code := f46_l1.drop 2
def f46_T2 (q : LPost) : List Value → Heap → Prop := fun vs h => match vs with
 | [v0, v1, v2, v3, v4, v5, _, v13, v14, v15, v16] =>
 q .ret [v0, v1, v2, v3, v4, v5, (.int .i64 0), v13, v14, v15, v16] h
 | _ => False
set_option maxRecDepth 20000 in
theorem f46_T2_ok (q : LPost) : RfN f46_L (f46_T2 q) (wpLs pcN f46_l1 (proj f46_L q)) :=
 seg_rule' 2 (fun env h => by kernel_rfl) (end_rule' (by kernel_rfl) (Rf.proj q) (fun _ _ x => x)) (Rf.proj q)
noncomputable def f46_l3 : List Code := flat (hdB f46_l0)
noncomputable def f46_l4 : List Code := flat (hdB f46_l3)
noncomputable def f46_l5 : List Code := f46_l4.drop 2
noncomputable def f46_l6 : List Code := f46_l5.drop 1
noncomputable def f46_l7 : List Code := f46_l6.drop 1
def f46_T7 (q : LPost) : List Value → Heap → Prop := fun vs h => match vs with
 | [v0, v1, v2, v3, v4, v5, v12, v13, v14, v15, v16] =>
 oBin (Try.prog.underlying 3) .add v13 (.int .i64 1) (fun x0 h1 =>
 q .normal [v0, v1, v2, v3, v4, v5, v12, x0, v14, v15, v16] h1) h
 | _ => False
set_option maxRecDepth 20000 in
theorem f46_T7_ok (q : LPost) : RfN f46_L (f46_T7 q) (wpLs pcN f46_l6 (proj f46_L q)) :=
 seg_rule' 1 (fun env h => by kernel_rfl) (end_rule' (by kernel_rfl) (Rf.proj q) (fun _ _ x => x)) (Rf.proj q)
noncomputable def f46_l8 : List Code := flat (hdB f46_l5)
noncomputable def f46_l9 : List Code := f46_l8.drop 7
noncomputable def f46_l10 : List Code := f46_l9.drop 1
noncomputable def f46_l11 : List Code := flat (hdB f46_l9)
noncomputable def f46_l12 : List Code := flat (hdB f46_l11)
noncomputable def f46_l13 : List Code := f46_l12.drop 4
def f46_T13 (q : LPost) : List Value → Heap → Prop := fun vs h => match vs with
 | [v0, v1, v2, v3, v4, v5, v12, v13, v14, v15, v16] =>
 oLen (Try.prog.underlying 41) v15 (fun x2 h3 =>
 oBin (Try.prog.underlying 3) .lss v16 x2 (fun x4 h5 =>
 oCond x4 (oIndexAddr (rowedOf Try.prog 41) v15 v16 (fun x6 h7 =>
 oLoad (varOf Try.prog 3) x6 (fun x8 h9 =>
 oCallF Try.prog 47 [v3, x8] (fun x10 h11 =>
 oCond x10 (q .ret [v0, v1, v2, v3, v4, v5, v14, v13, v14, v15, v16] h11) (oBin (Try.prog.underlying 3) .add v16 (.int .i64 1) (fun x12 h13 =>
 q .normal [v0, v1, v2, v3, v4, v5, v12, v13, v14, v15, x12] h13) h11)) h9) h7) h5) (q (.exit 2) [v0, v1, v2, v3, v4, v5, v12, v13, v14, v15, v16] h5)) h3) h
 | _ => False
set_option maxRecDepth 20000 in
theorem f46_T13_ok (q : LPost) : RfN f46_L (f46_T13 q) (wpLs pcN f46_l12 (proj f46_L q)) :=
 seg_rule' 4 (fun env h => by kernel_rfl) (end_rule' (by kernel_rfl) (Rf.proj q) (fun _ _ x => x)) (Rf.proj q)
def f46_T12 (q : LPost) : List Value → Heap → Prop := LoopS (fun q => f46_T13 q) (inBL 2 (thenL (f46_T7 q) (inBL 1 (thenL (f46_T7 q) (q)))))
set_option maxRecDepth 20000 in
theorem f46_T12_ok (q : LPost) : RfN f46_L (f46_T12 q) (wpLs pcN f46_l11 (inB 2 (thenQ (wpLs pcN f46_l10 (inB 1 (thenQ (wpLs pcN f46_l6 (proj f46_L q)) (proj f46_L q)))) (inB 1 (thenQ (wpLs pcN f46_l6 (proj f46_L q)) (proj f46_L q)))))) :=
 loop_rule' (b := hdB f46_l11) (B := fun q => f46_T13 q) (c := inBL 2 (thenL (f46_T7 q) (inBL 1 (thenL (f46_T7 q) (q))))) (by kernel_rfl) (fun _ _ x => x) (fun q => (f46_T13_ok q)) (Rf.inB (Rf.then (end_rule' (by kernel_rfl) (Rf.inB (Rf.then (f46_T7_ok q) (Rf.proj q))) (fun _ _ x => x)) (Rf.inB (Rf.then (f46_T7_ok q) (Rf.proj q)))))
set_option maxRecDepth 20000 in
theorem f46_B11_ok (q : LPost) : RfN f46_L (f46_T12 q) (wpLs pcN f46_l9 (inB 1 (thenQ (wpLs pcN f46_l6 (proj f46_L q)) (proj f46_L q)))) :=
 block_rule (id := 2) (b := hdB f46_l9) (rest := f46_l10) (by kernel_rfl) (f46_T12_ok q)
def f46_T9 (q : LPost) : List Value → Heap → Prop := fun vs h => match vs with
 | [v0, v1, v2, v3, v4, v5, v12, v13, _, v15, v16] =>
 oNilCheck v0 (fun x14 h15 =>
 oFieldAddr (fieldOff Try.prog 55 1) x14 (fun x16 h17 =>
 oLoad (varOf Try.prog 52) x16 (fun x18 h19 =>
 oIndexAddr (rowedOf Try.prog 52) x18 v13 (fun x20 h21 =>
 oFieldAddr (fieldOff Try.prog 73 1) x20 (fun x22 h23 =>
 oLoad (varOf Try.prog 3) x22 (fun x24 h25 =>
 oCallF Try.prog 23 [v0, x24] (fun x26 h27 =>
 oNilCheck v0 (fun x28 h29 =>
 oFieldAddr (fieldOff Try.prog 55 1) x28 (fun x30 h31 =>
 oLoad (varOf Try.prog 52) x30 (fun x32 h33 =>
 oIndexAddr (rowedOf Try.prog 52) x32 v13 (fun x34 h35 =>
 oFieldAddr (fieldOff Try.prog 73 0) x34 (fun x36 h37 =>
 oLoad (varOf Try.prog 3) x36 (fun x38 h39 =>
 oBin (Try.prog.underlying 3) .neq x38 v1 (fun x40 h41 =>
 gop x40 false (fun K h => K v2 h) (fun x42 h43 =>
 gop x40 false (fun K h => K x26 h) (fun x44 h45 =>
 gop x40 false (oCallF Try.prog 47 [x42, x44]) (fun x46 h47 =>
 oPick x40 (.bool true) x46 (fun x48 h49 =>
 oCond x48 (f46_T7 q [v0, v1, v2, v3, v4, v5, v12, v13, x26, v15, v16] h49) (oUn .not v5 (fun x50 h51 =>
 oCond x50 (oLen (Try.prog.underlying 42) v4 (fun x52 h53 =>
 oBin (Try.prog.underlying 3) .lss v13 x52 (fun x54 h55 =>
 gop x54 true (fun K h => K v4 h) (fun x56 h57 =>
 gop x54 true (fun K h => K v13 h) (fun x58 h59 =>
 gop x54 true (oIndexAddr (rowedOf Try.prog 42) x56 x58) (fun x60 h61 =>
 gop x54 true (oLoad (varOf Try.prog 4) x60) (fun x62 h63 =>
 oPick x54 x62 (.bool false) (fun x64 h65 =>
 oCond x64 (q .ret [v0, v1, v2, v3, v4, v5, x26, v13, x26, v15, v16] h65) (f46_T7 q [v0, v1, v2, v3, v4, v5, v12, v13, x26, v15, v16] h65)) h63) h61) h59) h57) h55) h53) h51) (oCallF Try.prog 59 [v0, x26, v2] (fun x66 h67 =>
 f46_T12 q [v0, v1, v2, v3, v4, v5, v12, v13, x26, x66, (.int .i64 0)] h67) h51)) h49)) h47) h45) h43) h41) h39) h37) h35) h33) h31) h29) h27) h25) h23) h21) h19) h17) h15) h
 | _ => False
set_option maxRecDepth 20000 in
theorem f46_T9_ok (q : LPost) : RfN f46_L (f46_T9 q) (wpLs pcN f46_l8 (inB 1 (thenQ (wpLs pcN f46_l6 (proj f46_L q)) (proj f46_L q)))) :=
 seg_rule' 7 (fun env h => by kernel_rfl) (f46_B11_ok q) (Rf.inB (Rf.then (f46_T7_ok q) (Rf.proj q)))
set_option maxRecDepth 20000 in
theorem f46_B8_ok (q : LPost) : RfN f46_L (f46_T9 q) (wpLs pcN f46_l5 (proj f46_L q)) :=
 block_rule (id := 1) (b := hdB f46_l5) (rest := f46_l6) (by kernel_rfl) (f46_T9_ok q)
def f46_T5 (q : LPost) : List Value → Heap → Prop := fun vs h => match vs with
 | [v0, v1, v2, v3, v4, v5, v12, v13, v14, v15, v16] =>
 oNilCheck v0 (fun x68 h69 =>
 oFieldAddr (fieldOff Try.prog 55 1) x68 (fun x70 h71 =>
 oLoad (varOf Try.prog 52) x70 (fun x72 h73 =>
 oLen (Try.prog.underlying 52) x72 (fun x74 h75 =>
 oBin (Try.prog.underlying 3) .lss v13 x74 (fun x76 h77 =>
 oCond x76 (f46_T9 q [v0, v1, v2, v3, v4, v5, v12, v13, v14, v15, v16] h77) (q (.exit 0) [v0, v1, v2, v3, v4, v5, v12, v13, v14, v15, v16] h77)) h75) h73) h71) h69) h
 | _ => False
set_option maxRecDepth 20000 in
theorem f46_T5_ok (q : LPost) : RfN f46_L (f46_T5 q) (wpLs pcN f46_l4 (proj f46_L q)) :=
 seg_rule' 2 (fun env h => by kernel_rfl) (f46_B8_ok q) (Rf.proj q)
def f46_T4 (q : LPost) : List Value → Heap → Prop := LoopS (fun q => f46_T5 q) (inBL 0 (thenL (f46_T2 q) (q)))
set_option maxRecDepth 20000 in
theorem f46_T4_ok (q : LPost) : RfN f46_L (f46_T4 q) (wpLs pcN f46_l3 (inB 0 (thenQ (wpLs pcN f46_l1 (proj f46_L q)) (proj f46_L q)))) :=
 loop_rule' (b := hdB f46_l3) (B := fun q => f46_T5 q) (c := inBL 0 (thenL (f46_T2 q) (q))) (by kernel_rfl) (fun _ _ x => x) (fun q => (f46_T5_ok q)) (Rf.inB (Rf.then (f46_T2_ok q) (Rf.proj q)))
set_option maxRecDepth 20000 in
theorem f46_B3_ok (q : LPost) : RfN f46_L (f46_T4 q) (wpLs pcN f46_l0 (proj f46_L q)) :=
 block_rule (id := 0) (b := hdB f46_l0) (rest := f46_l1) (by kernel_rfl) (f46_T4_ok q)
def f46_T0 (q : LPost) : List Value → Heap → Prop := fun vs h => match vs with
 | [v0, v1, v2, v3, v4, v5, _, _, v14, v15, v16] =>
 f46_T4 q [v0, v1, v2, v3, v4, v5, (.int .i64 0), (.int .i64 0), v14, v15, v16] h
 | _ => False
set_option maxRecDepth 20000 in
theorem f46_T0_ok (q : LPost) : RfN f46_L (f46_T0 q) (wpLs pcN f46_l (proj f46_L q)) :=
 seg_rule' 2 (fun env h => by kernel_rfl) (f46_B3_ok q) (Rf.proj q)
theorem f46_ret {v0 v1 v2 v3 v4 v5 v12 v13 v14 v15 v16 : Value} {h : Heap} {K : Kont} : retL Try.prog f46_L Try.f46.results.toList K .ret [v0, v1, v2, v3, v4, v5, v12, v13, v14, v15, v16] h = (K v12 h) := by kernel_rfl
theorem f46_end {v0 v1 v2 v3 v4 v5 v12 v13 v14 v15 v16 : Value} {h : Heap} {K : Kont} : retL Try.prog f46_L Try.f46.results.toList K .normal [v0, v1, v2, v3, v4, v5, v12, v13, v14, v15, v16] h = (K v12 h) := by kernel_rfl
set_option maxRecDepth 20000 in
theorem f46_fn {a0 a1 a2 a3 a4 a5 : Value} {h : Heap} {K : Kont}
 (hw : f46_T0 (retL Try.prog f46_L Try.f46.results.toList K) [a0, a1, a2, a3, a4, a5, undef, undef, undef, undef, undef] h) : FnH Try.prog 46 #[a0, a1, a2, a3, a4, a5] h K :=
 fn_by (L := f46_L) (T := fun q => f46_T0 q) (args := [a0, a1, a2, a3, a4, a5]) pcN mixed Try.func46 (c := f46_c) (by kernel_rfl) (by kernel_rfl) (by kernel_rfl) (by kernel_rfl) (fun q => (f46_T0_ok q)) hw
/-! ### 47: missive/missiveref28.has -/
noncomputable def f47_c : Code := Try.f47.body.getD .skip
def f47_L : List Nat := [0, 1, 4, 5]
noncomputable def f47_l : List Code := flat f47_c
noncomputable def f47_l0 : List Code := f47_l.drop 2
noncomputable def f47_l1 : List Code := f47_l0.drop 1
noncomputable def f47_l2 : List Code := f47_l1.drop 2
def f47_T2 (q : LPost) : List Value → Heap → Prop := fun vs h => match vs with
 | [v0, v1, _, v5] =>
 q .ret [v0, v1, (.bool false), v5] h
 | _ => False
set_option maxRecDepth 20000 in
theorem f47_T2_ok (q : LPost) : RfN f47_L (f47_T2 q) (wpLs pcN f47_l1 (proj f47_L q)) :=
 seg_rule' 2 (fun env h => by kernel_rfl) (end_rule' (by kernel_rfl) (Rf.proj q) (fun _ _ x => x)) (Rf.proj q)
noncomputable def f47_l3 : List Code := flat (hdB f47_l0)
noncomputable def f47_l4 : List Code := flat (hdB f47_l3)
noncomputable def f47_l5 : List Code := f47_l4.drop 4
def f47_T5 (q : LPost) : List Value → Heap → Prop := fun vs h => match vs with
 | [v0, v1, v4, v5] =>
 oLen (Try.prog.underlying 41) v0 (fun x0 h1 =>
 oBin (Try.prog.underlying 3) .lss v5 x0 (fun x2 h3 =>
 oCond x2 (oIndexAddr (rowedOf Try.prog 41) v0 v5 (fun x4 h5 =>
 oLoad (varOf Try.prog 3) x4 (fun x6 h7 =>
 oBin (Try.prog.underlying 3) .eql x6 v1 (fun x8 h9 =>
 oCond x8 (q .ret [v0, v1, (.bool true), v5] h9) (oBin (Try.prog.underlying 3) .add v5 (.int .i64 1) (fun x10 h11 =>
 q .normal [v0, v1, v4, x10] h11) h9)) h7) h5) h3) (q (.exit 0) [v0, v1, v4, v5] h3)) h1) h
 | _ => False
set_option maxRecDepth 20000 in
theorem f47_T5_ok (q : LPost) : RfN f47_L (f47_T5 q) (wpLs pcN f47_l4 (proj f47_L q)) :=
 seg_rule' 4 (fun env h => by kernel_rfl) (end_rule' (by kernel_rfl) (Rf.proj q) (fun _ _ x => x)) (Rf.proj q)
def f47_T4 (q : LPost) : List Value → Heap → Prop := LoopS (fun q => f47_T5 q) (inBL 0 (thenL (f47_T2 q) (q)))
set_option maxRecDepth 20000 in
theorem f47_T4_ok (q : LPost) : RfN f47_L (f47_T4 q) (wpLs pcN f47_l3 (inB 0 (thenQ (wpLs pcN f47_l1 (proj f47_L q)) (proj f47_L q)))) :=
 loop_rule' (b := hdB f47_l3) (B := fun q => f47_T5 q) (c := inBL 0 (thenL (f47_T2 q) (q))) (by kernel_rfl) (fun _ _ x => x) (fun q => (f47_T5_ok q)) (Rf.inB (Rf.then (f47_T2_ok q) (Rf.proj q)))
set_option maxRecDepth 20000 in
theorem f47_B3_ok (q : LPost) : RfN f47_L (f47_T4 q) (wpLs pcN f47_l0 (proj f47_L q)) :=
 block_rule (id := 0) (b := hdB f47_l0) (rest := f47_l1) (by kernel_rfl) (f47_T4_ok q)
def f47_T0 (q : LPost) : List Value → Heap → Prop := fun vs h => match vs with
 | [v0, v1, _, _] =>
 f47_T4 q [v0, v1, (.bool false), (.int .i64 0)] h
 | _ => False
set_option maxRecDepth 20000 in
theorem f47_T0_ok (q : LPost) : RfN f47_L (f47_T0 q) (wpLs pcN f47_l (proj f47_L q)) :=
 seg_rule' 2 (fun env h => by kernel_rfl) (f47_B3_ok q) (Rf.proj q)
theorem f47_ret {v0 v1 v4 v5 : Value} {h : Heap} {K : Kont} : retL Try.prog f47_L Try.f47.results.toList K .ret [v0, v1, v4, v5] h = (K v4 h) := by kernel_rfl
theorem f47_end {v0 v1 v4 v5 : Value} {h : Heap} {K : Kont} : retL Try.prog f47_L Try.f47.results.toList K .normal [v0, v1, v4, v5] h = (K v4 h) := by kernel_rfl
set_option maxRecDepth 20000 in
theorem f47_fn {a0 a1 : Value} {h : Heap} {K : Kont}
 (hw : f47_T0 (retL Try.prog f47_L Try.f47.results.toList K) [a0, a1, undef, undef] h) : FnH Try.prog 47 #[a0, a1] h K :=
 fn_by (L := f47_L) (T := fun q => f47_T0 q) (args := [a0, a1]) pcN mixed Try.func47 (c := f47_c) (by kernel_rfl) (by kernel_rfl) (by kernel_rfl) (by kernel_rfl) (fun q => (f47_T0_ok q)) hw
/-! ### 53: (*missive/missiveref28.Lineage).check -/
noncomputable def f53_c : Code := Try.f53.body.getD .skip
def f53_L : List Nat := [0, 1, 4]
noncomputable def f53_l : List Code := flat f53_c
noncomputable def f53_l0 : List Code := f53_l.drop 7
def f53_T0 (q : LPost) : List Value → Heap → Prop := fun vs h => match vs with
 | [v0, v1, _] =>
 oCallF Try.prog 44 [v0, v1] (fun x0 h1 =>
 oUn .not x0 (fun x2 h3 =>
 oCond x2 (q .ret [v0, v1, (.int .i64 4)] h3) (oCallF Try.prog 57 [v0, v1] (fun x4 h5 =>
 oUn .not x4 (fun x6 h7 =>
 oCond x6 (q .ret [v0, v1, (.int .i64 7)] h7) (q .ret [v0, v1, (.int .i64 0)] h7)) h5) h3)) h1) h
 | _ => False
set_option maxRecDepth 20000 in
theorem f53_T0_ok (q : LPost) : RfN f53_L (f53_T0 q) (wpLs pcN f53_l (proj f53_L q)) :=
 seg_rule' 7 (fun env h => by kernel_rfl) (end_rule' (by kernel_rfl) (Rf.proj q) (fun _ _ x => x)) (Rf.proj q)
theorem f53_ret {v0 v1 v4 : Value} {h : Heap} {K : Kont} : retL Try.prog f53_L Try.f53.results.toList K .ret [v0, v1, v4] h = (K v4 h) := by kernel_rfl
theorem f53_end {v0 v1 v4 : Value} {h : Heap} {K : Kont} : retL Try.prog f53_L Try.f53.results.toList K .normal [v0, v1, v4] h = (K v4 h) := by kernel_rfl
set_option maxRecDepth 20000 in
theorem f53_fn {a0 a1 : Value} {h : Heap} {K : Kont}
 (hw : f53_T0 (retL Try.prog f53_L Try.f53.results.toList K) [a0, a1, undef] h) : FnH Try.prog 53 #[a0, a1] h K :=
 fn_by (L := f53_L) (T := fun q => f53_T0 q) (args := [a0, a1]) pcN mixed Try.func53 (c := f53_c) (by kernel_rfl) (by kernel_rfl) (by kernel_rfl) (by kernel_rfl) (fun q => (f53_T0_ok q)) hw
/-! ### 54: (*missive/missiveref28.Lineage).fresh -/
noncomputable def f54_c : Code := Try.f54.body.getD .skip
def f54_L : List Nat := [0, 1, 4]
noncomputable def f54_l : List Code := flat f54_c
noncomputable def f54_l0 : List Code := f54_l.drop 7
def f54_T0 (q : LPost) : List Value → Heap → Prop := fun vs h => match vs with
 | [v0, v1, _] =>
 oCallF Try.prog 73 [v1] (fun x0 h1 =>
 oUn .not x0 (fun x2 h3 =>
 oCond x2 (q .ret [v0, v1, (.int .i64 1)] h3) (oCallF Try.prog 42 [v0, v1] (fun x4 h5 =>
 oBin (Try.prog.underlying 3) .gtr x4 (.int .i64 0) (fun x6 h7 =>
 oCond x6 (q .ret [v0, v1, (.int .i64 5)] h7) (q .ret [v0, v1, (.int .i64 0)] h7)) h5) h3)) h1) h
 | _ => False
set_option maxRecDepth 20000 in
theorem f54_T0_ok (q : LPost) : RfN f54_L (f54_T0 q) (wpLs pcN f54_l (proj f54_L q)) :=
 seg_rule' 7 (fun env h => by kernel_rfl) (end_rule' (by kernel_rfl) (Rf.proj q) (fun _ _ x => x)) (Rf.proj q)
theorem f54_ret {v0 v1 v4 : Value} {h : Heap} {K : Kont} : retL Try.prog f54_L Try.f54.results.toList K .ret [v0, v1, v4] h = (K v4 h) := by kernel_rfl
theorem f54_end {v0 v1 v4 : Value} {h : Heap} {K : Kont} : retL Try.prog f54_L Try.f54.results.toList K .normal [v0, v1, v4] h = (K v4 h) := by kernel_rfl
set_option maxRecDepth 20000 in
theorem f54_fn {a0 a1 : Value} {h : Heap} {K : Kont}
 (hw : f54_T0 (retL Try.prog f54_L Try.f54.results.toList K) [a0, a1, undef] h) : FnH Try.prog 54 #[a0, a1] h K :=
 fn_by (L := f54_L) (T := fun q => f54_T0 q) (args := [a0, a1]) pcN mixed Try.func54 (c := f54_c) (by kernel_rfl) (by kernel_rfl) (by kernel_rfl) (by kernel_rfl) (fun q => (f54_T0_ok q)) hw
@[go_sem] theorem foff38_0 : fieldOff Try.prog 38 0 = some 0 := by kernel_rfl
/-! ### 55: (*missive/missiveref28.Lineage).set -/
noncomputable def f55_c : Code := Try.f55.body.getD .skip
def f55_L : List Nat := [0, 1]
noncomputable def f55_l : List Code := flat f55_c
noncomputable def f55_l0 : List Code := f55_l.drop 3
def f55_T0 (q : LPost) : List Value → Heap → Prop := fun vs h => match vs with
 | [v0, v1] =>
 oBox 38 v1 (fun x0 h1 =>
 oBuildSlice (sliceOf Try.prog 29) 0 [] (fun x2 h3 =>
 oNilCheck v0 (fun x4 h5 =>
 oFieldAddr (fieldOff Try.prog 55 0) x4 (fun x6 h7 =>
 oLoad (varOf Try.prog 29) x6 (fun x8 h9 =>
 oAppend (sliceOf Try.prog 29) x2 x8 (fun x10 h11 =>
 oNilCheck v0 (fun x12 h13 =>
 oFieldAddr (fieldOff Try.prog 55 0) x12 (fun x14 h15 =>
 oStore (varOf Try.prog 29) x14 x10 (fun _ h17 =>
 oNilCheck v0 (fun x18 h19 =>
 oFieldAddr (fieldOff Try.prog 55 0) x18 (fun x20 h21 =>
 oLoad (varOf Try.prog 29) x20 (fun x22 h23 =>
 oFieldAddr (fieldOff Try.prog 38 0) x0 (fun x24 h25 =>
 oLoad (varOf Try.prog 3) x24 (fun x26 h27 =>
 oBin (Try.prog.underlying 3) .sub x26 (.int .i64 1) (fun x28 h29 =>
 oLoad (varOf Try.prog 38) x0 (fun x30 h31 =>
 oIndexAddr (rowedOf Try.prog 29) x22 x28 (fun x32 h33 =>
 oStore (varOf Try.prog 38) x32 x30 (fun _ h35 =>
 q .normal [v0, v1] h35) h33) h31) h29) h27) h25) h23) h21) h19) h17) h15) h13) h11) h9) h7) h5) h3) h1) h
 | _ => False
set_option maxRecDepth 20000 in
theorem f55_T0_ok (q : LPost) : RfN f55_L (f55_T0 q) (wpLs pcN f55_l (proj f55_L q)) :=
 seg_rule' 3 (fun env h => by kernel_rfl) (end_rule' (by kernel_rfl) (Rf.proj q) (fun _ _ x => x)) (Rf.proj q)
theorem f55_ret {v0 v1 : Value} {h : Heap} {K : Kont} : retL Try.prog f55_L Try.f55.results.toList K .ret [v0, v1] h = (K (.tuple #[]) h) := by kernel_rfl
theorem f55_end {v0 v1 : Value} {h : Heap} {K : Kont} : retL Try.prog f55_L Try.f55.results.toList K .normal [v0, v1] h = (K (.tuple #[]) h) := by kernel_rfl
set_option maxRecDepth 20000 in
theorem f55_fn {a0 a1 : Value} {h : Heap} {K : Kont}
 (hw : f55_T0 (retL Try.prog f55_L Try.f55.results.toList K) [a0, a1] h) : FnH Try.prog 55 #[a0, a1] h K :=
 fn_by (L := f55_L) (T := fun q => f55_T0 q) (args := [a0, a1]) pcN mixed Try.func55 (c := f55_c) (by kernel_rfl) (by kernel_rfl) (by kernel_rfl) (by kernel_rfl) (fun q => (f55_T0_ok q)) hw
/-! ### 56: (*missive/missiveref28.Lineage).create -/
noncomputable def f56_c : Code := Try.f56.body.getD .skip
def f56_L : List Nat := [0, 1, 2, 6, 7, 8]
noncomputable def f56_l : List Code := flat f56_c
noncomputable def f56_l0 : List Code := f56_l.drop 4
noncomputable def f56_l1 : List Code := f56_l0.drop 7
def f56_T1 (q : LPost) : List Value → Heap → Prop := fun vs h => match vs with
 | [v0, v1, v2, _, _, v8] =>
 oBin (Try.prog.underlying 31) .neq v8 (.int .i64 0) (fun x0 h1 =>
 oCond x0 (q .ret [v0, v1, v2, (.int .i64 0), v8, v8] h1) (oNilCheck v0 (fun x2 h3 =>
 oFieldAddr (fieldOff Try.prog 55 0) x2 (fun x4 h5 =>
 oLoad (varOf Try.prog 29) x4 (fun x6 h7 =>
 oLen (Try.prog.underlying 29) x6 (fun x8 h9 =>
 oBin (Try.prog.underlying 3) .add x8 (.int .i64 1) (fun x10 h11 =>
 oBuildSlice (sliceOf Try.prog 29) 0 [] (fun x12 h13 =>
 oNilCheck v0 (fun x14 h15 =>
 oFieldAddr (fieldOff Try.prog 55 0) x14 (fun x16 h17 =>
 oLoad (varOf Try.prog 29) x16 (fun x18 h19 =>
 oAppend (sliceOf Try.prog 29) x12 x18 (fun x20 h21 =>
 oBuild (buildOf Try.prog 38) [(0, x10), (2, v2), (3, v1)] (fun x22 h23 =>
 oBuildSlice (sliceOf Try.prog 29) 1 [(0, x22)] (fun x24 h25 =>
 oAppend (sliceOf Try.prog 29) x20 x24 (fun x26 h27 =>
 oNilCheck v0 (fun x28 h29 =>
 oFieldAddr (fieldOff Try.prog 55 0) x28 (fun x30 h31 =>
 oStore (varOf Try.prog 29) x30 x26 (fun _ h33 =>
 oBuildSlice (sliceOf Try.prog 53) 0 [] (fun x34 h35 =>
 oNilCheck v0 (fun x36 h37 =>
 oFieldAddr (fieldOff Try.prog 55 2) x36 (fun x38 h39 =>
 oLoad (varOf Try.prog 53) x38 (fun x40 h41 =>
 oAppend (sliceOf Try.prog 53) x34 x40 (fun x42 h43 =>
 oBuild (buildOf Try.prog 78) [(0, v1), (1, x10)] (fun x44 h45 =>
 oBuildSlice (sliceOf Try.prog 53) 1 [(0, x44)] (fun x46 h47 =>
 oAppend (sliceOf Try.prog 53) x42 x46 (fun x48 h49 =>
 oNilCheck v0 (fun x50 h51 =>
 oFieldAddr (fieldOff Try.prog 55 2) x50 (fun x52 h53 =>
 oStore (varOf Try.prog 53) x52 x48 (fun _ h55 =>
 q .ret [v0, v1, v2, x10, (.int .i64 0), v8] h55) h53) h51) h49) h47) h45) h43) h41) h39) h37) h35) h33) h31) h29) h27) h25) h23) h21) h19) h17) h15) h13) h11) h9) h7) h5) h3) h1)) h
 | _ => False
set_option maxRecDepth 20000 in
theorem f56_T1_ok (q : LPost) : RfN f56_L (f56_T1 q) (wpLs pcN f56_l0 (proj f56_L q)) :=
 seg_rule' 7 (fun env h => by kernel_rfl) (end_rule' (by kernel_rfl) (Rf.proj q) (fun _ _ x => x)) (Rf.proj q)
def f56_T0 (q : LPost) : List Value → Heap → Prop := fun vs h => match vs with
 | [v0, v1, v2, _, _, _] =>
 oCallF Try.prog 54 [v0, v1] (fun x56 h57 =>
 oBin (Try.prog.underlying 31) .eql x56 (.int .i64 0) (fun x58 h59 =>
 gop x58 true (fun K h => K v0 h) (fun x60 h61 =>
 gop x58 true (oNilCheck x60) (fun x62 h63 =>
 gop x58 true (oFieldAddr (fieldOff Try.prog 55 0) x62) (fun x64 h65 =>
 gop x58 true (oLoad (varOf Try.prog 29) x64) (fun x66 h67 =>
 gop x58 true (oLen (Try.prog.underlying 29) x66) (fun x68 h69 =>
 gop x58 true (oBin (Try.prog.underlying 3) .geq x68 (.int .i64 50)) (fun x70 h71 =>
 oPick x58 x70 (.bool false) (fun x72 h73 =>
 oCond x72 (f56_T1 q [v0, v1, v2, (.int .i64 0), (.int .i64 0), (.int .i64 6)] h73) (f56_T1 q [v0, v1, v2, (.int .i64 0), (.int .i64 0), x56] h73)) h71) h69) h67) h65) h63) h61) h59) h57) h
 | _ => False
set_option maxRecDepth 20000 in
theorem f56_T0_ok (q : LPost) : RfN f56_L (f56_T0 q) (wpLs pcN f56_l (proj f56_L q)) :=
 seg_rule' 4 (fun env h => by kernel_rfl) (f56_T1_ok q) (Rf.proj q)
theorem f56_ret {v0 v1 v2 v6 v7 v8 : Value} {h : Heap} {K : Kont} : retL Try.prog f56_L Try.f56.results.toList K .ret [v0, v1, v2, v6, v7, v8] h = (K (.tuple #[v6, v7]) h) := by kernel_rfl
theorem f56_end {v0 v1 v2 v6 v7 v8 : Value} {h : Heap} {K : Kont} : retL Try.prog f56_L Try.f56.results.toList K .normal [v0, v1, v2, v6, v7, v8] h = (K (.tuple #[v6, v7]) h) := by kernel_rfl
set_option maxRecDepth 20000 in
theorem f56_fn {a0 a1 a2 : Value} {h : Heap} {K : Kont}
 (hw : f56_T0 (retL Try.prog f56_L Try.f56.results.toList K) [a0, a1, a2, undef, undef, undef] h) : FnH Try.prog 56 #[a0, a1, a2] h K :=
 fn_by (L := f56_L) (T := fun q => f56_T0 q) (args := [a0, a1, a2]) pcN mixed Try.func56 (c := f56_c) (by kernel_rfl) (by kernel_rfl) (by kernel_rfl) (by kernel_rfl) (fun q => (f56_T0_ok q)) hw
/-! ### 57: (*missive/missiveref28.Lineage).Alive -/
noncomputable def f57_c : Code := Try.f57.body.getD .skip
def f57_L : List Nat := [0, 1, 4]
noncomputable def f57_l : List Code := flat f57_c
noncomputable def f57_l0 : List Code := f57_l.drop 3
def f57_T0 (q : LPost) : List Value → Heap → Prop := fun vs h => match vs with
 | [v0, v1, _] =>
 oCallF Try.prog 44 [v0, v1] (fun x0 h1 =>
 gop x0 true (fun K h => K v0 h) (fun x2 h3 =>
 gop x0 true (oNilCheck x2) (fun x4 h5 =>
 gop x0 true (oFieldAddr (fieldOff Try.prog 55 0) x4) (fun x6 h7 =>
 gop x0 true (oLoad (varOf Try.prog 29) x6) (fun x8 h9 =>
 gop x0 true (fun K h => K v1 h) (fun x10 h11 =>
 gop x0 true (oBin (Try.prog.underlying 3) .sub x10 (.int .i64 1)) (fun x12 h13 =>
 gop x0 true (oIndexAddr (rowedOf Try.prog 29) x8 x12) (fun x14 h15 =>
 gop x0 true (oFieldAddr (fieldOff Try.prog 38 1) x14) (fun x16 h17 =>
 gop x0 true (oLoad (varOf Try.prog 3) x16) (fun x18 h19 =>
 gop x0 true (oBin (Try.prog.underlying 3) .eql x18 (.int .i64 0)) (fun x20 h21 =>
 oPick x0 x20 (.bool false) (fun x22 h23 =>
 gop x22 true (fun K h => K v0 h) (fun x24 h25 =>
 gop x22 true (oNilCheck x24) (fun x26 h27 =>
 gop x22 true (oFieldAddr (fieldOff Try.prog 55 0) x26) (fun x28 h29 =>
 gop x22 true (oLoad (varOf Try.prog 29) x28) (fun x30 h31 =>
 gop x22 true (fun K h => K v1 h) (fun x32 h33 =>
 gop x22 true (oBin (Try.prog.underlying 3) .sub x32 (.int .i64 1)) (fun x34 h35 =>
 gop x22 true (oIndexAddr (rowedOf Try.prog 29) x30 x34) (fun x36 h37 =>
 gop x22 true (oFieldAddr (fieldOff Try.prog 38 4) x36) (fun x38 h39 =>
 gop x22 true (oLoad (varOf Try.prog 9) x38) (fun x40 h41 =>
 gop x22 true (oBin (Try.prog.underlying 9) .eql x40 (.string (ByteArray.mk #[]))) (fun x42 h43 =>
 oPick x22 x42 (.bool false) (fun x44 h45 =>
 q .ret [v0, v1, x44] h45) h43) h41) h39) h37) h35) h33) h31) h29) h27) h25) h23) h21) h19) h17) h15) h13) h11) h9) h7) h5) h3) h1) h
 | _ => False
set_option maxRecDepth 20000 in
theorem f57_T0_ok (q : LPost) : RfN f57_L (f57_T0 q) (wpLs pcN f57_l (proj f57_L q)) :=
 seg_rule' 3 (fun env h => by kernel_rfl) (end_rule' (by kernel_rfl) (Rf.proj q) (fun _ _ x => x)) (Rf.proj q)
theorem f57_ret {v0 v1 v4 : Value} {h : Heap} {K : Kont} : retL Try.prog f57_L Try.f57.results.toList K .ret [v0, v1, v4] h = (K v4 h) := by kernel_rfl
theorem f57_end {v0 v1 v4 : Value} {h : Heap} {K : Kont} : retL Try.prog f57_L Try.f57.results.toList K .normal [v0, v1, v4] h = (K v4 h) := by kernel_rfl
set_option maxRecDepth 20000 in
theorem f57_fn {a0 a1 : Value} {h : Heap} {K : Kont}
 (hw : f57_T0 (retL Try.prog f57_L Try.f57.results.toList K) [a0, a1, undef] h) : FnH Try.prog 57 #[a0, a1] h K :=
 fn_by (L := f57_L) (T := fun q => f57_T0 q) (args := [a0, a1]) pcN mixed Try.func57 (c := f57_c) (by kernel_rfl) (by kernel_rfl) (by kernel_rfl) (by kernel_rfl) (fun q => (f57_T0_ok q)) hw
/-! ### 59: (*missive/missiveref28.Lineage).Reach -/
noncomputable def f59_c : Code := Try.f59.body.getD .skip
def f59_L : List Nat := [0, 1, 2, 6, 7, 8, 9]
noncomputable def f59_l : List Code := flat f59_c
noncomputable def f59_l0 : List Code := f59_l.drop 3
noncomputable def f59_l1 : List Code := f59_l0.drop 1
noncomputable def f59_l2 : List Code := f59_l1.drop 2
def f59_T2 (q : LPost) : List Value → Heap → Prop := fun vs h => match vs with
 | [v0, v1, v2, _, v7, v8, v9] =>
 q .ret [v0, v1, v2, v7, v7, v8, v9] h
 | _ => False
set_option maxRecDepth 20000 in
theorem f59_T2_ok (q : LPost) : RfN f59_L (f59_T2 q) (wpLs pcN f59_l1 (proj f59_L q)) :=
 seg_rule' 2 (fun env h => by kernel_rfl) (end_rule' (by kernel_rfl) (Rf.proj q) (fun _ _ x => x)) (Rf.proj q)
noncomputable def f59_l3 : List Code := flat (hdB f59_l0)
noncomputable def f59_l4 : List Code := flat (hdB f59_l3)
noncomputable def f59_l5 : List Code := f59_l4.drop 2
noncomputable def f59_l6 : List Code := f59_l5.drop 1
noncomputable def f59_l7 : List Code := f59_l6.drop 1
def f59_T7 (q : LPost) : List Value → Heap → Prop := fun vs h => match vs with
 | [v0, v1, v2, v6, v7, v8, v9] =>
 oBin (Try.prog.underlying 3) .add v8 (.int .i64 1) (fun x0 h1 =>
 q .normal [v0, v1, v2, v6, v7, x0, v9] h1) h
 | _ => False
set_option maxRecDepth 20000 in
theorem f59_T7_ok (q : LPost) : RfN f59_L (f59_T7 q) (wpLs pcN f59_l6 (proj f59_L q)) :=
 seg_rule' 1 (fun env h => by kernel_rfl) (end_rule' (by kernel_rfl) (Rf.proj q) (fun _ _ x => x)) (Rf.proj q)
noncomputable def f59_l8 : List Code := flat (hdB f59_l5)
noncomputable def f59_l9 : List Code := f59_l8.drop 1
noncomputable def f59_l10 : List Code := f59_l9.drop 1
noncomputable def f59_l11 : List Code := flat (hdB f59_l9)
noncomputable def f59_l12 : List Code := flat (hdB f59_l11)
noncomputable def f59_l13 : List Code := f59_l12.drop 3
noncomputable def f59_l14 : List Code := f59_l13.drop 1
def f59_T14 (q : LPost) : List Value → Heap → Prop := fun vs h => match vs with
 | [v0, v1, v2, v6, v7, v8, v9] =>
 oBin (Try.prog.underlying 3) .add v9 (.int .i64 1) (fun x2 h3 =>
 q .normal [v0, v1, v2, v6, v7, v8, x2] h3) h
 | _ => False
set_option maxRecDepth 20000 in
theorem f59_T14_ok (q : LPost) : RfN f59_L (f59_T14 q) (wpLs pcN f59_l13 (proj f59_L q)) :=
 seg_rule' 1 (fun env h => by kernel_rfl) (end_rule' (by kernel_rfl) (Rf.proj q) (fun _ _ x => x)) (Rf.proj q)
def f59_T13 (q : LPost) : List Value → Heap → Prop := fun vs h => match vs with
 | [v0, v1, v2, v6, v7, v8, v9] =>
 oNilCheck v0 (fun x4 h5 =>
 oFieldAddr (fieldOff Try.prog 55 1) x4 (fun x6 h7 =>
 oLoad (varOf Try.prog 52) x6 (fun x8 h9 =>
 oLen (Try.prog.underlying 52) x8 (fun x10 h11 =>
 oBin (Try.prog.underlying 3) .lss v9 x10 (fun x12 h13 =>
 oCond x12 (oNilCheck v0 (fun x14 h15 =>
 oFieldAddr (fieldOff Try.prog 55 1) x14 (fun x16 h17 =>
 oLoad (varOf Try.prog 52) x16 (fun x18 h19 =>
 oIndexAddr (rowedOf Try.prog 52) x18 v9 (fun x20 h21 =>
 oFieldAddr (fieldOff Try.prog 73 1) x20 (fun x22 h23 =>
 oLoad (varOf Try.prog 3) x22 (fun x24 h25 =>
 oCallF Try.prog 23 [v0, x24] (fun x26 h27 =>
 oNilCheck v0 (fun x28 h29 =>
 oFieldAddr (fieldOff Try.prog 55 1) x28 (fun x30 h31 =>
 oLoad (varOf Try.prog 52) x30 (fun x32 h33 =>
 oIndexAddr (rowedOf Try.prog 52) x32 v9 (fun x34 h35 =>
 oFieldAddr (fieldOff Try.prog 73 0) x34 (fun x36 h37 =>
 oLoad (varOf Try.prog 3) x36 (fun x38 h39 =>
 oIndexAddr (rowedOf Try.prog 41) v7 v8 (fun x40 h41 =>
 oLoad (varOf Try.prog 3) x40 (fun x42 h43 =>
 oBin (Try.prog.underlying 3) .eql x38 x42 (fun x44 h45 =>
 gop x44 true (fun K h => K v7 h) (fun x46 h47 =>
 gop x44 true (fun K h => K x26 h) (fun x48 h49 =>
 gop x44 true (oCallF Try.prog 47 [x46, x48]) (fun x50 h51 =>
 gop x44 true (oUn .not x50) (fun x52 h53 =>
 oPick x44 x52 (.bool false) (fun x54 h55 =>
 gop x54 true (fun K h => K v2 h) (fun x56 h57 =>
 gop x54 true (fun K h => K x26 h) (fun x58 h59 =>
 gop x54 true (oCallF Try.prog 47 [x56, x58]) (fun x60 h61 =>
 gop x54 true (oUn .not x60) (fun x62 h63 =>
 oPick x54 x62 (.bool false) (fun x64 h65 =>
 oCond x64 (oBuildSlice (sliceOf Try.prog 41) 1 [(0, x26)] (fun x66 h67 =>
 oAppend (sliceOf Try.prog 41) v7 x66 (fun x68 h69 =>
 f59_T14 q [v0, v1, v2, v6, x68, v8, v9] h69) h67) h65) (f59_T14 q [v0, v1, v2, v6, v7, v8, v9] h65)) h63) h61) h59) h57) h55) h53) h51) h49) h47) h45) h43) h41) h39) h37) h35) h33) h31) h29) h27) h25) h23) h21) h19) h17) h15) h13) (q (.exit 2) [v0, v1, v2, v6, v7, v8, v9] h13)) h11) h9) h7) h5) h
 | _ => False
set_option maxRecDepth 20000 in
theorem f59_T13_ok (q : LPost) : RfN f59_L (f59_T13 q) (wpLs pcN f59_l12 (proj f59_L q)) :=
 seg_rule' 3 (fun env h => by kernel_rfl) (f59_T14_ok q) (Rf.proj q)
def f59_T12 (q : LPost) : List Value → Heap → Prop := LoopS (fun q => f59_T13 q) (inBL 2 (thenL (f59_T7 q) (inBL 1 (thenL (f59_T7 q) (q)))))
set_option maxRecDepth 20000 in
theorem f59_T12_ok (q : LPost) : RfN f59_L (f59_T12 q) (wpLs pcN f59_l11 (inB 2 (thenQ (wpLs pcN f59_l10 (inB 1 (thenQ (wpLs pcN f59_l6 (proj f59_L q)) (proj f59_L q)))) (inB 1 (thenQ (wpLs pcN f59_l6 (proj f59_L q)) (proj f59_L q)))))) :=
 loop_rule' (b := hdB f59_l11) (B := fun q => f59_T13 q) (c := inBL 2 (thenL (f59_T7 q) (inBL 1 (thenL (f59_T7 q) (q))))) (by kernel_rfl) (fun _ _ x => x) (fun q => (f59_T13_ok q)) (Rf.inB (Rf.then (end_rule' (by kernel_rfl) (Rf.inB (Rf.then (f59_T7_ok q) (Rf.proj q))) (fun _ _ x => x)) (Rf.inB (Rf.then (f59_T7_ok q) (Rf.proj q)))))
set_option maxRecDepth 20000 in
theorem f59_B11_ok (q : LPost) : RfN f59_L (f59_T12 q) (wpLs pcN f59_l9 (inB 1 (thenQ (wpLs pcN f59_l6 (proj f59_L q)) (proj f59_L q)))) :=
 block_rule (id := 2) (b := hdB f59_l9) (rest := f59_l10) (by kernel_rfl) (f59_T12_ok q)
def f59_T9 (q : LPost) : List Value → Heap → Prop := fun vs h => match vs with
 | [v0, v1, v2, v6, v7, v8, _] =>
 f59_T12 q [v0, v1, v2, v6, v7, v8, (.int .i64 0)] h
 | _ => False
set_option maxRecDepth 20000 in
theorem f59_T9_ok (q : LPost) : RfN f59_L (f59_T9 q) (wpLs pcN f59_l8 (inB 1 (thenQ (wpLs pcN f59_l6 (proj f59_L q)) (proj f59_L q)))) :=
 seg_rule' 1 (fun env h => by kernel_rfl) (f59_B11_ok q) (Rf.inB (Rf.then (f59_T7_ok q) (Rf.proj q)))
set_option maxRecDepth 20000 in
theorem f59_B8_ok (q : LPost) : RfN f59_L (f59_T9 q) (wpLs pcN f59_l5 (proj f59_L q)) :=
 block_rule (id := 1) (b := hdB f59_l5) (rest := f59_l6) (by kernel_rfl) (f59_T9_ok q)
def f59_T5 (q : LPost) : List Value → Heap → Prop := fun vs h => match vs with
 | [v0, v1, v2, v6, v7, v8, v9] =>
 oLen (Try.prog.underlying 41) v7 (fun x70 h71 =>
 oBin (Try.prog.underlying 3) .lss v8 x70 (fun x72 h73 =>
 oCond x72 (f59_T9 q [v0, v1, v2, v6, v7, v8, v9] h73) (q (.exit 0) [v0, v1, v2, v6, v7, v8, v9] h73)) h71) h
 | _ => False
set_option maxRecDepth 20000 in
theorem f59_T5_ok (q : LPost) : RfN f59_L (f59_T5 q) (wpLs pcN f59_l4 (proj f59_L q)) :=
 seg_rule' 2 (fun env h => by kernel_rfl) (f59_B8_ok q) (Rf.proj q)
def f59_T4 (q : LPost) : List Value → Heap → Prop := LoopS (fun q => f59_T5 q) (inBL 0 (thenL (f59_T2 q) (q)))
set_option maxRecDepth 20000 in
theorem f59_T4_ok (q : LPost) : RfN f59_L (f59_T4 q) (wpLs pcN f59_l3 (inB 0 (thenQ (wpLs pcN f59_l1 (proj f59_L q)) (proj f59_L q)))) :=
 loop_rule' (b := hdB f59_l3) (B := fun q => f59_T5 q) (c := inBL 0 (thenL (f59_T2 q) (q))) (by kernel_rfl) (fun _ _ x => x) (fun q => (f59_T5_ok q)) (Rf.inB (Rf.then (f59_T2_ok q) (Rf.proj q)))
set_option maxRecDepth 20000 in
theorem f59_B3_ok (q : LPost) : RfN f59_L (f59_T4 q) (wpLs pcN f59_l0 (proj f59_L q)) :=
 block_rule (id := 0) (b := hdB f59_l0) (rest := f59_l1) (by kernel_rfl) (f59_T4_ok q)
def f59_T0 (q : LPost) : List Value → Heap → Prop := fun vs h => match vs with
 | [v0, v1, v2, _, _, _, v9] =>
 oBuildSlice (sliceOf Try.prog 41) 1 [(0, v1)] (fun x74 h75 =>
 f59_T4 q [v0, v1, v2, (.slice none 0 0), x74, (.int .i64 0), v9] h75) h
 | _ => False
set_option maxRecDepth 20000 in
theorem f59_T0_ok (q : LPost) : RfN f59_L (f59_T0 q) (wpLs pcN f59_l (proj f59_L q)) :=
 seg_rule' 3 (fun env h => by kernel_rfl) (f59_B3_ok q) (Rf.proj q)
theorem f59_ret {v0 v1 v2 v6 v7 v8 v9 : Value} {h : Heap} {K : Kont} : retL Try.prog f59_L Try.f59.results.toList K .ret [v0, v1, v2, v6, v7, v8, v9] h = (K v6 h) := by kernel_rfl
theorem f59_end {v0 v1 v2 v6 v7 v8 v9 : Value} {h : Heap} {K : Kont} : retL Try.prog f59_L Try.f59.results.toList K .normal [v0, v1, v2, v6, v7, v8, v9] h = (K v6 h) := by kernel_rfl
set_option maxRecDepth 20000 in
theorem f59_fn {a0 a1 a2 : Value} {h : Heap} {K : Kont}
 (hw : f59_T0 (retL Try.prog f59_L Try.f59.results.toList K) [a0, a1, a2, undef, undef, undef, undef] h) : FnH Try.prog 59 #[a0, a1, a2] h K :=
 fn_by (L := f59_L) (T := fun q => f59_T0 q) (args := [a0, a1, a2]) pcN mixed Try.func59 (c := f59_c) (by kernel_rfl) (by kernel_rfl) (by kernel_rfl) (by kernel_rfl) (fun q => (f59_T0_ok q)) hw
/-! ### 73: missive/missiveref28.Named -/
noncomputable def f73_c : Code := Try.f73.body.getD .skip
def f73_L : List Nat := [0, 2, 3]
noncomputable def f73_l : List Code := flat f73_c
noncomputable def f73_l0 : List Code := f73_l.drop 4
noncomputable def f73_l1 : List Code := f73_l0.drop 1
noncomputable def f73_l2 : List Code := f73_l1.drop 2
def f73_T2 (q : LPost) : List Value → Heap → Prop := fun vs h => match vs with
 | [v0, _, v3] =>
 q .ret [v0, (.bool true), v3] h
 | _ => False
set_option maxRecDepth 20000 in
theorem f73_T2_ok (q : LPost) : RfN f73_L (f73_T2 q) (wpLs pcN f73_l1 (proj f73_L q)) :=
 seg_rule' 2 (fun env h => by kernel_rfl) (end_rule' (by kernel_rfl) (Rf.proj q) (fun _ _ x => x)) (Rf.proj q)
noncomputable def f73_l3 : List Code := flat (hdB f73_l0)
noncomputable def f73_l4 : List Code := flat (hdB f73_l3)
noncomputable def f73_l5 : List Code := f73_l4.drop 4
def f73_T5 (q : LPost) : List Value → Heap → Prop := fun vs h => match vs with
 | [v0, v2, v3] =>
 oLen (Try.prog.underlying 9) v0 (fun x0 h1 =>
 oBin (Try.prog.underlying 3) .lss v3 x0 (fun x2 h3 =>
 oCond x2 (oIndexStr (rowedOf Try.prog 9) v0 v3 (fun x4 h5 =>
 oBin (Try.prog.underlying 5) .geq x4 (.int .u8 97) (fun x6 h7 =>
 gop x6 true (fun K h => K x4 h) (fun x8 h9 =>
 gop x6 true (oBin (Try.prog.underlying 5) .leq x8 (.int .u8 122)) (fun x10 h11 =>
 oPick x6 x10 (.bool false) (fun x12 h13 =>
 gop x12 false (fun K h => K x4 h) (fun x14 h15 =>
 gop x12 false (oBin (Try.prog.underlying 5) .geq x14 (.int .u8 48)) (fun x16 h17 =>
 gop x12 false (fun K h => K x16 h) (fun x18 h19 =>
 gop x18 true (fun K h => K x4 h) (fun x20 h21 =>
 gop x18 true (oBin (Try.prog.underlying 5) .leq x20 (.int .u8 57)) (fun x22 h23 =>
 gop x12 false (oPick x18 x22 (.bool false)) (fun x24 h25 =>
 oPick x12 (.bool true) x24 (fun x26 h27 =>
 gop x26 false (fun K h => K x4 h) (fun x28 h29 =>
 gop x26 false (oBin (Try.prog.underlying 5) .eql x28 (.int .u8 45)) (fun x30 h31 =>
 oPick x26 (.bool true) x30 (fun x32 h33 =>
 gop x32 false (fun K h => K x4 h) (fun x34 h35 =>
 gop x32 false (oBin (Try.prog.underlying 5) .eql x34 (.int .u8 46)) (fun x36 h37 =>
 oPick x32 (.bool true) x36 (fun x38 h39 =>
 oUn .not x38 (fun x40 h41 =>
 oCond x40 (q .ret [v0, (.bool false), v3] h41) (oBin (Try.prog.underlying 3) .add v3 (.int .i64 1) (fun x42 h43 =>
 q .normal [v0, v2, x42] h43) h41)) h39) h37) h35) h33) h31) h29) h27) h25) h23) h21) h19) h17) h15) h13) h11) h9) h7) h5) h3) (q (.exit 0) [v0, v2, v3] h3)) h1) h
 | _ => False
set_option maxRecDepth 20000 in
theorem f73_T5_ok (q : LPost) : RfN f73_L (f73_T5 q) (wpLs pcN f73_l4 (proj f73_L q)) :=
 seg_rule' 4 (fun env h => by kernel_rfl) (end_rule' (by kernel_rfl) (Rf.proj q) (fun _ _ x => x)) (Rf.proj q)
def f73_T4 (q : LPost) : List Value → Heap → Prop := LoopS (fun q => f73_T5 q) (inBL 0 (thenL (f73_T2 q) (q)))
set_option maxRecDepth 20000 in
theorem f73_T4_ok (q : LPost) : RfN f73_L (f73_T4 q) (wpLs pcN f73_l3 (inB 0 (thenQ (wpLs pcN f73_l1 (proj f73_L q)) (proj f73_L q)))) :=
 loop_rule' (b := hdB f73_l3) (B := fun q => f73_T5 q) (c := inBL 0 (thenL (f73_T2 q) (q))) (by kernel_rfl) (fun _ _ x => x) (fun q => (f73_T5_ok q)) (Rf.inB (Rf.then (f73_T2_ok q) (Rf.proj q)))
set_option maxRecDepth 20000 in
theorem f73_B3_ok (q : LPost) : RfN f73_L (f73_T4 q) (wpLs pcN f73_l0 (proj f73_L q)) :=
 block_rule (id := 0) (b := hdB f73_l0) (rest := f73_l1) (by kernel_rfl) (f73_T4_ok q)
def f73_T0 (q : LPost) : List Value → Heap → Prop := fun vs h => match vs with
 | [v0, _, v3] =>
 oLen (Try.prog.underlying 9) v0 (fun x44 h45 =>
 oBin (Try.prog.underlying 3) .lss x44 (.int .i64 1) (fun x46 h47 =>
 gop x46 false (fun K h => K v0 h) (fun x48 h49 =>
 gop x46 false (oLen (Try.prog.underlying 9) x48) (fun x50 h51 =>
 gop x46 false (oBin (Try.prog.underlying 3) .gtr x50 (.int .i64 64)) (fun x52 h53 =>
 oPick x46 (.bool true) x52 (fun x54 h55 =>
 gop x54 false (fun K h => K v0 h) (fun x56 h57 =>
 gop x54 false (oIndexStr (rowedOf Try.prog 9) x56 (.int .i64 0)) (fun x58 h59 =>
 gop x54 false (oBin (Try.prog.underlying 5) .eql x58 (.int .u8 46)) (fun x60 h61 =>
 oPick x54 (.bool true) x60 (fun x62 h63 =>
 gop x62 false (fun K h => K v0 h) (fun x64 h65 =>
 gop x62 false (fun K h => K v0 h) (fun x66 h67 =>
 gop x62 false (oLen (Try.prog.underlying 9) x66) (fun x68 h69 =>
 gop x62 false (oBin (Try.prog.underlying 3) .sub x68 (.int .i64 1)) (fun x70 h71 =>
 gop x62 false (oIndexStr (rowedOf Try.prog 9) x64 x70) (fun x72 h73 =>
 gop x62 false (oBin (Try.prog.underlying 5) .eql x72 (.int .u8 46)) (fun x74 h75 =>
 oPick x62 (.bool true) x74 (fun x76 h77 =>
 oCond x76 (q .ret [v0, (.bool false), v3] h77) (f73_T4 q [v0, (.bool false), (.int .i64 0)] h77)) h75) h73) h71) h69) h67) h65) h63) h61) h59) h57) h55) h53) h51) h49) h47) h45) h
 | _ => False
set_option maxRecDepth 20000 in
theorem f73_T0_ok (q : LPost) : RfN f73_L (f73_T0 q) (wpLs pcN f73_l (proj f73_L q)) :=
 seg_rule' 4 (fun env h => by kernel_rfl) (f73_B3_ok q) (Rf.proj q)
theorem f73_ret {v0 v2 v3 : Value} {h : Heap} {K : Kont} : retL Try.prog f73_L Try.f73.results.toList K .ret [v0, v2, v3] h = (K v2 h) := by kernel_rfl
theorem f73_end {v0 v2 v3 : Value} {h : Heap} {K : Kont} : retL Try.prog f73_L Try.f73.results.toList K .normal [v0, v2, v3] h = (K v2 h) := by kernel_rfl
set_option maxRecDepth 20000 in
theorem f73_fn {a0 : Value} {h : Heap} {K : Kont}
 (hw : f73_T0 (retL Try.prog f73_L Try.f73.results.toList K) [a0, undef, undef] h) : FnH Try.prog 73 #[a0] h K :=
 fn_by (L := f73_L) (T := fun q => f73_T0 q) (args := [a0]) pcN mixed Try.func73 (c := f73_c) (by kernel_rfl) (by kernel_rfl) (by kernel_rfl) (by kernel_rfl) (fun q => (f73_T0_ok q)) hw
end Go.Proofs.Ytfooakkfoemdkaa

/- The table for 'Of': its first append makes a new block. -/
namespace Go.Proofs.Ytfooakkfoemdkaa
open Go.Fw
noncomputable def pcF : Pure Try.prog := { Pure.none Try.prog with fresh := [50] }
end Go.Proofs.Ytfooakkfoemdkaa

/- Pieces of functions, printed by a program of ours (Gen), held by the kernel. -/
namespace Go.Proofs.Ytfooakkfoemdkaa
open Go.Fw
/-! ### 25: (*missive/missiveref28.Lineage).Of -/
noncomputable def f25_c : Code := Try.f25.body.getD .skip
def f25_L : List Nat := [0, 1, 4, 5, 6, 7]
noncomputable def f25_l : List Code := flat f25_c
noncomputable def f25_l0 : List Code := f25_l.drop 3
noncomputable def f25_l1 : List Code := f25_l0.drop 1
noncomputable def f25_l2 : List Code := f25_l1.drop 2
def f25_T2 (q : LPost) : List Value → Heap → Prop := fun vs h => match vs with
 | [v0, v1, _, v5, v6, v7] =>
 q .ret [v0, v1, v5, v5, v6, v7] h
 | _ => False
set_option maxRecDepth 20000 in
theorem f25_T2_ok (q : LPost) : RfN f25_L (f25_T2 q) (wpLs pcF f25_l1 (proj f25_L q)) :=
 seg_rule' 2 (fun env h => by kernel_rfl) (end_rule' (by kernel_rfl) (Rf.proj q) (fun _ _ x => x)) (Rf.proj q)
noncomputable def f25_l3 : List Code := flat (hdB f25_l0)
noncomputable def f25_l4 : List Code := flat (hdB f25_l3)
noncomputable def f25_l5 : List Code := f25_l4.drop 2
noncomputable def f25_l6 : List Code := f25_l5.drop 1
noncomputable def f25_l7 : List Code := f25_l6.drop 1
def f25_T7 (q : LPost) : List Value → Heap → Prop := fun vs h => match vs with
 | [v0, v1, v4, v5, v6, v7] =>
 oBin (Try.prog.underlying 3) .add v6 (.int .i64 1) (fun x0 h1 =>
 q .normal [v0, v1, v4, v5, x0, v7] h1) h
 | _ => False
set_option maxRecDepth 20000 in
theorem f25_T7_ok (q : LPost) : RfN f25_L (f25_T7 q) (wpLs pcF f25_l6 (proj f25_L q)) :=
 seg_rule' 1 (fun env h => by kernel_rfl) (end_rule' (by kernel_rfl) (Rf.proj q) (fun _ _ x => x)) (Rf.proj q)
noncomputable def f25_l8 : List Code := flat (hdB f25_l5)
noncomputable def f25_l9 : List Code := f25_l8.drop 3
noncomputable def f25_l10 : List Code := f25_l9.drop 1
noncomputable def f25_l11 : List Code := f25_l10.drop 1
def f25_T11 (q : LPost) : List Value → Heap → Prop := fun vs h => match vs with
 | [v0, v1, v4, v5, v6, v7] =>
 oSlice (Try.prog.underlying 26) (elemSize Try.prog 26) v5 none (some v7) (fun x2 h3 =>
 oNilCheck v0 (fun x4 h5 =>
 oFieldAddr (fieldOff Try.prog 55 2) x4 (fun x6 h7 =>
 oLoad (varOf Try.prog 53) x6 (fun x8 h9 =>
 oIndexAddr (rowedOf Try.prog 53) x8 v6 (fun x10 h11 =>
 oFieldAddr (fieldOff Try.prog 78 0) x10 (fun x12 h13 =>
 oLoad (varOf Try.prog 9) x12 (fun x14 h15 =>
 oSlice (Try.prog.underlying 26) (elemSize Try.prog 26) v5 (some v7) none (fun x16 h17 =>
 (oBuildSlice (sliceOf Try.prog 26) 0 [] (fun x18 h19 =>
 (oAppendF (sliceOf Try.prog 26) x18 x2 (fun x20 h21 =>
 oBuildSlice (sliceOf Try.prog 26) 1 [(0, x14)] (fun x22 h23 =>
 oAppend (sliceOf Try.prog 26) x20 x22 (fun x24 h25 =>
 oAppend (sliceOf Try.prog 26) x24 x16 (fun x26 h27 =>
 f25_T7 q [v0, v1, v4, x26, v6, v7] h27) h25) h23) h21) h19) ∧ (oBuildSlice (sliceOf Try.prog 26) 1 [(0, x14)] (fun x28 h29 =>
 oAppendF (sliceOf Try.prog 26) x18 x2 (fun x30 h31 =>
 oAppend (sliceOf Try.prog 26) x30 x28 (fun x32 h33 =>
 oAppend (sliceOf Try.prog 26) x32 x16 (fun x34 h35 =>
 f25_T7 q [v0, v1, v4, x34, v6, v7] h35) h33) h31) h29) h19)) h17) ∧ (oBuildSlice (sliceOf Try.prog 26) 1 [(0, x14)] (fun x36 h37 =>
 oBuildSlice (sliceOf Try.prog 26) 0 [] (fun x38 h39 =>
 oAppendF (sliceOf Try.prog 26) x38 x2 (fun x40 h41 =>
 oAppend (sliceOf Try.prog 26) x40 x36 (fun x42 h43 =>
 oAppend (sliceOf Try.prog 26) x42 x16 (fun x44 h45 =>
 f25_T7 q [v0, v1, v4, x44, v6, v7] h45) h43) h41) h39) h37) h17)) h15) h13) h11) h9) h7) h5) h3) h
 | _ => False
set_option maxRecDepth 20000 in
theorem f25_T11_ok (q : LPost) : RfN f25_L (f25_T11 q) (wpLs pcF f25_l10 (inB 1 (thenQ (wpLs pcF f25_l6 (proj f25_L q)) (proj f25_L q)))) :=
 seg_rule' 1 (fun env h => by kernel_rfl) (end_rule' (by kernel_rfl) (Rf.inB (Rf.then (f25_T7_ok q) (Rf.proj q))) (fun _ _ x => x)) (Rf.inB (Rf.then (f25_T7_ok q) (Rf.proj q)))
noncomputable def f25_l12 : List Code := flat (hdB f25_l9)
noncomputable def f25_l13 : List Code := flat (hdB f25_l12)
noncomputable def f25_l14 : List Code := f25_l13.drop 3
def f25_T14 (q : LPost) : List Value → Heap → Prop := fun vs h => match vs with
 | [v0, v1, v4, v5, v6, v7] =>
 oLen (Try.prog.underlying 26) v5 (fun x46 h47 =>
 oBin (Try.prog.underlying 3) .lss v7 x46 (fun x48 h49 =>
 gop x48 true (fun K h => K v5 h) (fun x50 h51 =>
 gop x48 true (fun K h => K v7 h) (fun x52 h53 =>
 gop x48 true (oIndexAddr (rowedOf Try.prog 26) x50 x52) (fun x54 h55 =>
 gop x48 true (oLoad (varOf Try.prog 9) x54) (fun x56 h57 =>
 gop x48 true (fun K h => K v0 h) (fun x58 h59 =>
 gop x48 true (oNilCheck x58) (fun x60 h61 =>
 gop x48 true (oFieldAddr (fieldOff Try.prog 55 2) x60) (fun x62 h63 =>
 gop x48 true (oLoad (varOf Try.prog 53) x62) (fun x64 h65 =>
 gop x48 true (fun K h => K v6 h) (fun x66 h67 =>
 gop x48 true (oIndexAddr (rowedOf Try.prog 53) x64 x66) (fun x68 h69 =>
 gop x48 true (oFieldAddr (fieldOff Try.prog 78 0) x68) (fun x70 h71 =>
 gop x48 true (oLoad (varOf Try.prog 9) x70) (fun x72 h73 =>
 gop x48 true (oBin (Try.prog.underlying 9) .lss x56 x72) (fun x74 h75 =>
 oPick x48 x74 (.bool false) (fun x76 h77 =>
 oCond x76 (oBin (Try.prog.underlying 3) .add v7 (.int .i64 1) (fun x78 h79 =>
 q .normal [v0, v1, v4, v5, v6, x78] h79) h77) (q (.exit 2) [v0, v1, v4, v5, v6, v7] h77)) h75) h73) h71) h69) h67) h65) h63) h61) h59) h57) h55) h53) h51) h49) h47) h
 | _ => False
set_option maxRecDepth 20000 in
theorem f25_T14_ok (q : LPost) : RfN f25_L (f25_T14 q) (wpLs pcF f25_l13 (proj f25_L q)) :=
 seg_rule' 3 (fun env h => by kernel_rfl) (end_rule' (by kernel_rfl) (Rf.proj q) (fun _ _ x => x)) (Rf.proj q)
def f25_T13 (q : LPost) : List Value → Heap → Prop := LoopS (fun q => f25_T14 q) (inBL 2 (thenL (f25_T11 q) (inBL 1 (thenL (f25_T7 q) (q)))))
set_option maxRecDepth 20000 in
theorem f25_T13_ok (q : LPost) : RfN f25_L (f25_T13 q) (wpLs pcF f25_l12 (inB 2 (thenQ (wpLs pcF f25_l10 (inB 1 (thenQ (wpLs pcF f25_l6 (proj f25_L q)) (proj f25_L q)))) (inB 1 (thenQ (wpLs pcF f25_l6 (proj f25_L q)) (proj f25_L q)))))) :=
 loop_rule' (b := hdB f25_l12) (B := fun q => f25_T14 q) (c := inBL 2 (thenL (f25_T11 q) (inBL 1 (thenL (f25_T7 q) (q))))) (by kernel_rfl) (fun _ _ x => x) (fun q => (f25_T14_ok q)) (Rf.inB (Rf.then (f25_T11_ok q) (Rf.inB (Rf.then (f25_T7_ok q) (Rf.proj q)))))
set_option maxRecDepth 20000 in
theorem f25_B12_ok (q : LPost) : RfN f25_L (f25_T13 q) (wpLs pcF f25_l9 (inB 1 (thenQ (wpLs pcF f25_l6 (proj f25_L q)) (proj f25_L q)))) :=
 block_rule (id := 2) (b := hdB f25_l9) (rest := f25_l10) (by kernel_rfl) (f25_T13_ok q)
def f25_T9 (q : LPost) : List Value → Heap → Prop := fun vs h => match vs with
 | [v0, v1, v4, v5, v6, v7] =>
 oNilCheck v0 (fun x80 h81 =>
 oFieldAddr (fieldOff Try.prog 55 2) x80 (fun x82 h83 =>
 oLoad (varOf Try.prog 53) x82 (fun x84 h85 =>
 oIndexAddr (rowedOf Try.prog 53) x84 v6 (fun x86 h87 =>
 oFieldAddr (fieldOff Try.prog 78 1) x86 (fun x88 h89 =>
 oLoad (varOf Try.prog 3) x88 (fun x90 h91 =>
 oCallF Try.prog 23 [v0, x90] (fun x92 h93 =>
 oBin (Try.prog.underlying 3) .neq x92 v1 (fun x94 h95 =>
 oCond x94 (f25_T7 q [v0, v1, v4, v5, v6, v7] h95) (f25_T13 q [v0, v1, v4, v5, v6, (.int .i64 0)] h95)) h93) h91) h89) h87) h85) h83) h81) h
 | _ => False
set_option maxRecDepth 20000 in
theorem f25_T9_ok (q : LPost) : RfN f25_L (f25_T9 q) (wpLs pcF f25_l8 (inB 1 (thenQ (wpLs pcF f25_l6 (proj f25_L q)) (proj f25_L q)))) :=
 seg_rule' 3 (fun env h => by kernel_rfl) (f25_B12_ok q) (Rf.inB (Rf.then (f25_T7_ok q) (Rf.proj q)))
set_option maxRecDepth 20000 in
theorem f25_B8_ok (q : LPost) : RfN f25_L (f25_T9 q) (wpLs pcF f25_l5 (proj f25_L q)) :=
 block_rule (id := 1) (b := hdB f25_l5) (rest := f25_l6) (by kernel_rfl) (f25_T9_ok q)
def f25_T5 (q : LPost) : List Value → Heap → Prop := fun vs h => match vs with
 | [v0, v1, v4, v5, v6, v7] =>
 oNilCheck v0 (fun x96 h97 =>
 oFieldAddr (fieldOff Try.prog 55 2) x96 (fun x98 h99 =>
 oLoad (varOf Try.prog 53) x98 (fun x100 h101 =>
 oLen (Try.prog.underlying 53) x100 (fun x102 h103 =>
 oBin (Try.prog.underlying 3) .lss v6 x102 (fun x104 h105 =>
 oCond x104 (f25_T9 q [v0, v1, v4, v5, v6, v7] h105) (q (.exit 0) [v0, v1, v4, v5, v6, v7] h105)) h103) h101) h99) h97) h
 | _ => False
set_option maxRecDepth 20000 in
theorem f25_T5_ok (q : LPost) : RfN f25_L (f25_T5 q) (wpLs pcF f25_l4 (proj f25_L q)) :=
 seg_rule' 2 (fun env h => by kernel_rfl) (f25_B8_ok q) (Rf.proj q)
def f25_T4 (q : LPost) : List Value → Heap → Prop := LoopS (fun q => f25_T5 q) (inBL 0 (thenL (f25_T2 q) (q)))
set_option maxRecDepth 20000 in
theorem f25_T4_ok (q : LPost) : RfN f25_L (f25_T4 q) (wpLs pcF f25_l3 (inB 0 (thenQ (wpLs pcF f25_l1 (proj f25_L q)) (proj f25_L q)))) :=
 loop_rule' (b := hdB f25_l3) (B := fun q => f25_T5 q) (c := inBL 0 (thenL (f25_T2 q) (q))) (by kernel_rfl) (fun _ _ x => x) (fun q => (f25_T5_ok q)) (Rf.inB (Rf.then (f25_T2_ok q) (Rf.proj q)))
set_option maxRecDepth 20000 in
theorem f25_B3_ok (q : LPost) : RfN f25_L (f25_T4 q) (wpLs pcF f25_l0 (proj f25_L q)) :=
 block_rule (id := 0) (b := hdB f25_l0) (rest := f25_l1) (by kernel_rfl) (f25_T4_ok q)
def f25_T0 (q : LPost) : List Value → Heap → Prop := fun vs h => match vs with
 | [v0, v1, _, _, _, v7] =>
 f25_T4 q [v0, v1, (.slice none 0 0), (.slice none 0 0), (.int .i64 0), v7] h
 | _ => False
set_option maxRecDepth 20000 in
theorem f25_T0_ok (q : LPost) : RfN f25_L (f25_T0 q) (wpLs pcF f25_l (proj f25_L q)) :=
 seg_rule' 3 (fun env h => by kernel_rfl) (f25_B3_ok q) (Rf.proj q)
theorem f25_ret {v0 v1 v4 v5 v6 v7 : Value} {h : Heap} {K : Kont} : retL Try.prog f25_L Try.f25.results.toList K .ret [v0, v1, v4, v5, v6, v7] h = (K v4 h) := by kernel_rfl
theorem f25_end {v0 v1 v4 v5 v6 v7 : Value} {h : Heap} {K : Kont} : retL Try.prog f25_L Try.f25.results.toList K .normal [v0, v1, v4, v5, v6, v7] h = (K v4 h) := by kernel_rfl
set_option maxRecDepth 20000 in
theorem f25_fn {a0 a1 : Value} {h : Heap} {K : Kont}
 (hw : f25_T0 (retL Try.prog f25_L Try.f25.results.toList K) [a0, a1, undef, undef, undef, undef] h) : FnH Try.prog 25 #[a0, a1] h K :=
 fn_by (L := f25_L) (T := fun q => f25_T0 q) (args := [a0, a1]) pcF mixed Try.func25 (c := f25_c) (by kernel_rfl) (by kernel_rfl) (by kernel_rfl) (by kernel_rfl) (fun q => (f25_T0_ok q)) hw
end Go.Proofs.Ytfooakkfoemdkaa

/- The reference: what it holds, and its functions that read. -/
namespace Go.Proofs.Ytfooakkfoemdkaa
open Go.Fw
def ownRow (M : Lin) (a : ByteArray) : List Value := [.string a, .int .i64 ((M.ow a).getD 0)]
def refR (p : Nat) (M : Lin) (ns : List ByteArray) : Res := exR fun x : Value × Value × Value × TypeId =>
  (cellR p #[x.1, x.2.1, x.2.2.1] x.2.2.2).star ((vecR x.1 38 5 (M.lists.map lstRow)).star ((vecR x.2.1 73 4 (M.splits.map splRow)).star (vecR x.2.2.1 78 2 (ns.map (ownRow M)))))
section
variable {p : Nat} {M : Lin} {ns : List ByteArray} {h : Heap} {F : List Res} {K : Kont} {n : Int} {s : ByteArray} {D : Nat}
theorem ref_open (hs : Sep h (refR p M ns :: F)) : ∃ va vp vn t, Sep h (cellR p #[va, vp, vn] t :: vecR va 38 5 (M.lists.map lstRow) :: vecR vp 73 4 (M.splits.map splRow) :: vecR vn 78 2 (ns.map (ownRow M)) :: F) := by
  obtain ⟨⟨va, vp, vn, t⟩, hs⟩ := hs.ex
  have h1 := hs.star
  have h2 := (h1.pick 1).star
  have h3 := (h2.pick 1).star
  exact ⟨va, vp, vn, t, h3.sel [3, 2, 0, 0]⟩
theorem ref_close {va vp vn : Value} {t : TypeId} (hs : Sep h (cellR p #[va, vp, vn] t :: vecR va 38 5 (M.lists.map lstRow) :: vecR vp 73 4 (M.splits.map splRow) :: vecR vn 78 2 (ns.map (ownRow M)) :: F)) : Sep h (refR p M ns :: F) :=
  Sep.unex (va, vp, vn, t) (((((hs.sel [2, 2, 0, 0]).unstar.sel [2, 0, 0]).unstar).sel [1, 0]).unstar)
structure RV (p : Nat) (M : Lin) (ns : List ByteArray) (h : Heap) (va vp vn : Value) : Prop where
  c0 : cellAt h p 0 = some va
  c1 : cellAt h p 1 = some vp
  c2 : cellAt h p 2 = some vn
  ra : RowsR (fun _ => True) h va 5 (M.lists.map lstRow)
  rp : RowsR (fun _ => True) h vp 4 (M.splits.map splRow)
  rn : RowsR (fun _ => True) h vn 2 (ns.map (ownRow M))
theorem ref_view (hr : (refR p M ns).has h) : ∃ va vp vn, RV p M ns h va vp vn := by
  obtain ⟨va, vp, vn, t, hs⟩ := ref_open (has_sep hr)
  exact ⟨va, vp, vn, (hs.at 0).cell 0, (hs.at 0).cell 1, (hs.at 0).cell 2, (hs.at 1).rows, (hs.at 2).rows, (hs.at 3).rows⟩
set_option maxRecDepth 8000 in
theorem ris_fn (hr : (refR p M ns).has h) (hk : K (.bool (known M n)) h) : FnH Try.prog 44 #[ptr p, .int .i64 n] h K := by
  refine f44_fn ?_
  obtain ⟨va, vp, vn, rv⟩ := ref_view hr
  have c0 := rv.c0
  have hlv : ∀ K, oLen (some (.slice 38)) va K h = K (.int .i64 M.lists.length) h := fun K => by rw [len_val rv.ra, List.length_map]
  unfold known at hk
  unfold ptr
  cases d0 : decide (1 ≤ n) with
  | true =>
    simp only [d0, Bool.true_and] at hk
    simp -implicitDefEqProofs only [f44_T0, go_sem, d0, Nat.zero_add, c0, hlv]
    rw [f44_ret]
    exact hk
  | false =>
    simp only [d0, Bool.false_and] at hk
    simp -implicitDefEqProofs only [f44_T0, go_sem, d0]
    rw [f44_ret]
    exact hk
set_option maxRecDepth 8000 in
set_option maxHeartbeats 1000000 in
theorem ralive_fn (hr : (refR p M ns).has h) (hl : M.lists.length ≤ 4294967296) (hk : K (.bool (known M n && (M.lists[(n - 1).toNat]?).any live)) h) : FnH Try.prog 57 #[ptr p, .int .i64 n] h K := by
  refine f57_fn ?_
  simp only [f57_T0, go_sem]
  refine ris_fn hr ?_
  cases dk : known M n with
  | false =>
    simp only [dk, Bool.false_and] at hk
    simp -implicitDefEqProofs only [go_sem]
    rw [f57_ret]
    exact hk
  | true =>
    obtain ⟨k, rfl, hlt⟩ := known_ex dk
    have e : ((k : Int) + 1 - 1).toNat = k := by omega
    have e1 : (k : Int) + 1 - 1 = k := by omega
    simp only [dk, Bool.true_and, e, List.getElem?_eq_getElem hlt, Option.any_some, live] at hk
    obtain ⟨va, vp, vn, rv⟩ := ref_view hr
    have c0 := rv.c0
    obtain ⟨b, o, hidx, hcell, _⟩ := elem_at (r := lstRow M.lists[k]) rv.ra (k := k) (by simpa using hlt) (by simp) (by omega)
    have ei : cellAt h b (o + 1) = some (.int .i64 M.lists[k].into) := hcell 1 (by omega)
    have er : cellAt h b (o + 4) = some (.string M.lists[k].remote) := hcell 4 (by omega)
    unfold ptr
    cases d0 : decide (M.lists[k].into = 0) with
    | true =>
      simp only [d0, Bool.true_and] at hk
      simp -implicitDefEqProofs (disch := omega) only [go_sem, Nat.zero_add, c0, bin_sub_in, e1, hidx, ei, er, d0]
      rw [f57_ret]
      exact hk
    | false =>
      simp only [d0, Bool.false_and] at hk
      simp -implicitDefEqProofs (disch := omega) only [go_sem, Nat.zero_add, c0, bin_sub_in, e1, hidx, ei, d0]
      rw [f57_ret]
      exact hk
set_option maxRecDepth 8000 in
theorem rcheck_fn (hr : (refR p M ns).has h) (hl : M.lists.length ≤ 4294967296) (hk : K (.int .i64 (ready M n)) h) : FnH Try.prog 53 #[ptr p, .int .i64 n] h K := by
  refine f53_fn ?_
  simp only [f53_T0, go_sem]
  refine ris_fn hr ?_
  unfold ready at hk
  cases dk : known M n with
  | false =>
    simp only [dk, Bool.false_eq_true, if_false] at hk
    simp -implicitDefEqProofs only [go_sem]
    rw [f53_ret]
    exact hk
  | true =>
    simp only [dk, if_true] at hk
    simp -implicitDefEqProofs only [go_sem]
    refine ralive_fn hr hl ?_
    rw [dk, Bool.true_and]
    cases da : (M.lists[(n - 1).toNat]?).any live with
    | false =>
      simp only [da, Bool.false_eq_true, if_false] at hk
      simp -implicitDefEqProofs only [go_sem]
      rw [f53_ret]
      exact hk
    | true =>
      simp only [da, if_true] at hk
      simp -implicitDefEqProofs only [go_sem]
      rw [f53_ret]
      exact hk
/-- Which names there are: those that have an owner. -/
def NsOk (M : Lin) (ns : List ByteArray) : Prop := ∀ a, a ∈ ns ↔ M.ow a ≠ none
set_option maxRecDepth 8000 in
theorem rfind_fn (hr : (refR p M ns).has h) (hn : NsOk M ns) (hl : ns.length ≤ 4294967296) (hk : K (.int .i64 ((M.ow s).getD 0)) h) : FnH Try.prog 42 #[ptr p, .string s] h K := by
  refine f42_fn ?_
  simp only [f42_T0]
  refine LoopS.st (σ := Nat) (fun k => [ptr p, .string s, .int .i64 0, .int .i64 k]) (fun k h' => h' = h ∧ k ≤ ns.length ∧ s ∉ ns.take k) (fun k => ns.length - k) 0 rfl ⟨rfl, Nat.zero_le _, by simp⟩ ?_
  rintro k h' ⟨rfl, hkl, hno⟩
  obtain ⟨va, vp, vn, rv⟩ := ref_view hr
  have c2 := rv.c2
  have hlv : ∀ K, oLen (some (.slice 78)) vn K h' = K (.int .i64 ns.length) h' := fun K => by rw [len_val rv.rn, List.length_map]
  unfold ptr
  by_cases hlt : k < ns.length
  · have hd : decide ((k : Int) < (ns.length : Int)) = true := by simp; omega
    obtain ⟨b, o, hidx, hcell, _⟩ := elem_at (r := ownRow M ns[k]) rv.rn (k := k) (by simpa using hlt) (by simp) (by omega)
    have e0 : cellAt h' b o = some (.string ns[k]) := hcell 0 (by omega)
    have e1 : cellAt h' b (o + 1) = some (.int .i64 ((M.ow ns[k]).getD 0)) := hcell 1 (by omega)
    cases de : decide (ns[k] = s) with
    | true =>
      rw [← of_decide_eq_true de] at hk
      simp -implicitDefEqProofs only [f42_T5, go_sem, Nat.zero_add, Nat.add_zero, c2, hlv, hd, hidx, e0, de, e1]
      rw [f42_ret]
      exact hk
    | false =>
      have hk1 : (k : Int) + 1 = ((k + 1 : Nat) : Int) := rfl
      simp -implicitDefEqProofs (disch := omega) only [f42_T5, go_sem, Nat.zero_add, Nat.add_zero, c2, hlv, hd, hidx, e0, de, bin_add_in, hk1]
      refine NextSt.mk (k + 1) rfl ⟨rfl, hlt, ?_⟩ (by omega)
      rw [List.take_succ_eq_append_getElem hlt, List.mem_append, List.mem_singleton]
      exact fun hh => hh.elim hno (fun e => of_decide_eq_false de e.symm)
  · have hd : decide ((k : Int) < (ns.length : Int)) = false := by simp; omega
    rw [List.take_of_length_le (by omega)] at hno
    have : M.ow s = none := by
      cases ho : M.ow s with
      | none => rfl
      | some i => exact absurd ((hn s).2 (by rw [ho]; simp)) hno
    rw [this] at hk
    simp -implicitDefEqProofs only [f42_T5, go_sem, Nat.zero_add, c2, hlv, hd, f42_T2]
    rw [f42_ret]
    exact hk
set_option maxRecDepth 8000 in
theorem rnow_fn {k m r : Nat} (hr : (refR p M ns).has h) (hg : Goes M.lists m k r) (hl : M.lists.length ≤ 4294967296) (hK : K (.int .i64 ((r : Int) + 1)) h) : FnH Try.prog 23 #[ptr p, .int .i64 ((k : Int) + 1)] h K := by
  refine f23_fn ?_
  simp only [f23_T0, go_sem]
  refine ris_fn hr ?_
  obtain ⟨va, vp, vn, rv⟩ := ref_view hr
  have c0 := rv.c0
  have hkn : known M ((k : Int) + 1) = true := by
    have := hg.lt
    simp only [known, Bool.and_eq_true, decide_eq_true_eq]
    omega
  simp -implicitDefEqProofs only [hkn, go_sem]
  refine LoopS.st (σ := NwI) (fun s => [ptr p, .int .i64 ((s.k : Int) + 1), .int .i64 0]) (fun s h' => h' = h ∧ Goes M.lists s.n s.k r) (fun s => s.n) ⟨k, m⟩ rfl ⟨rfl, hg⟩ ?_
  rintro ⟨k, n⟩ h' ⟨rfl, hg⟩
  simp only at hg ⊢
  have hk := hg.lt
  obtain ⟨b, o, hidx, hcell, _⟩ := elem_at (r := lstRow M.lists[k]) rv.ra (k := k) (by simpa using hk) (by simp) (by omega)
  have c1 : cellAt h' b (o + 1) = some (.int .i64 M.lists[k].into) := hcell 1 (by omega)
  have e : (k : Int) + 1 - 1 = k := by omega
  unfold ptr
  have hgx : M.lists[k]? = some M.lists[k] := List.getElem?_eq_getElem hk
  clear hcell
  generalize M.lists[k] = y at hgx c1
  cases hg with
  | root h1 h2 =>
    rw [hgx] at h1
    injection h1 with h1
    have d0 : decide (y.into = 0) = true := by rw [h1]; simp [h2]
    simp -implicitDefEqProofs (disch := omega) only [f23_T5, go_sem, bin_sub_in, e, hidx, c1, Nat.zero_add, c0, d0, f23_T2]
    rw [f23_ret]
    exact hK
  | @step n _ j _ x h1 h2 h3 =>
    rw [hgx] at h1
    injection h1 with h1
    rw [← h1] at h2
    have d0 : decide (y.into = 0) = false := by rw [h2]; simp; omega
    simp -implicitDefEqProofs (disch := omega) only [f23_T5, go_sem, bin_sub_in, e, hidx, c1, Nat.zero_add, c0, d0]
    refine NextSt.mk ⟨j, n⟩ ?_ ⟨rfl, h3⟩ (by simp only; omega)
    simp only [h2]
theorem rnow_fn0 (hr : (refR p M ns).has h) (hn : known M n = false) (hK : K (.int .i64 0) h) : FnH Try.prog 23 #[ptr p, .int .i64 n] h K := by
  refine f23_fn ?_
  simp only [f23_T0, go_sem]
  refine ris_fn hr ?_
  simp -implicitDefEqProofs only [hn, go_sem]
  rw [f23_ret]
  exact hK
/-- Now, as a function. -/
def nowI (M : Lin) (n : Int) : Int := if known M n = true then ((now M.lists (n - 1).toNat : Nat) : Int) + 1 else 0
theorem rnow_fnM (hr : (refR p M ns).has h) (hm : Ok M D) (hD : D ≤ 1000) (hK : K (.int .i64 (nowI M n)) h) : FnH Try.prog 23 #[ptr p, .int .i64 n] h K := by
  unfold nowI at hK
  cases hk : known M n with
  | false => rw [hk, if_neg (by simp)] at hK; exact rnow_fn0 hr hk hK
  | true =>
    rw [hk, if_pos rfl] at hK
    obtain ⟨k, rfl, hlt⟩ := known_ex hk
    obtain ⟨m, _, hg⟩ := hm.now hD hlt
    have e : ((k : Int) + 1 - 1).toNat = k := by omega
    rw [e] at hK
    exact rnow_fn hr hg (by have := hm.len; omega) hK
theorem now_fnM (hr : LV p M h) (hm : Ok M D) (hD : D ≤ 1000) (hK : K (.int .i64 (nowI M n)) h) : FnH Try.prog 22 #[ptr p, .int .i64 n] h K := by
  unfold nowI at hK
  cases hk : known M n with
  | false => rw [hk, if_neg (by simp)] at hK; exact now_fn0V hr hk hK
  | true =>
    rw [hk, if_pos rfl] at hK
    obtain ⟨k, rfl, hlt⟩ := known_ex hk
    obtain ⟨m, _, hg⟩ := hm.now hD hlt
    have e : ((k : Int) + 1 - 1).toNat = k := by omega
    rw [e] at hK
    exact now_fnV hr hg (by have := hm.len; omega) hK
theorem rowner_fn (hr : (refR p M ns).has h) (hm : Ok M D) (hD : D ≤ 1000) (hn : NsOk M ns) (hl : ns.length ≤ 4294967296) {x : Int} {b : Bool} (he : ownerM M s = (x, b)) (hk : K (.tuple #[.int .i64 x, .bool b]) h) : FnH Try.prog 21 #[ptr p, .string s] h K := by
  refine f21_fn ?_
  simp only [f21_T0, go_sem]
  refine rfind_fn hr hn hl ?_
  unfold ownerM at he
  cases ho : M.ow s with
  | none =>
    rw [ho] at he
    simp only [Prod.mk.injEq] at he
    obtain ⟨rfl, rfl⟩ := he
    refine rnow_fnM hr hm hD ?_
    have : nowI M ((none : Option Int).getD 0) = 0 := by simp [nowI, known]
    rw [this]
    have d : decide ((0 : Int) < 0) = false := by decide
    simp -implicitDefEqProofs only [go_sem, d]
    rw [f21_ret]
    exact hk
  | some i =>
    rw [ho] at he
    simp only [Prod.mk.injEq] at he
    obtain ⟨rfl, rfl⟩ := he
    obtain ⟨k, rfl, hlt⟩ := hm.own s i ho
    obtain ⟨m, _, hg⟩ := hm.now hD hlt
    simp only [Option.getD_some]
    have e : ((k : Int) + 1 - 1).toNat = k := by omega
    rw [e] at hk
    refine rnow_fn hr hg (by have := hm.len; omega) ?_
    have d : decide ((0 : Int) < ((now M.lists k : Nat) : Int) + 1) = true := by rw [decide_eq_true_eq]; omega
    simp -implicitDefEqProofs only [go_sem, d]
    rw [f21_ret]
    exact hk
set_option maxRecDepth 8000 in
theorem rresolve_fn (hr : (refR p M ns).has h) (hm : Ok M D) (hD : D ≤ 1000) (hn : NsOk M ns) (hl : ns.length ≤ 4294967296) {x e : Int} {t : ByteArray} (he : resolveM M s = (x, t, e)) (hk : K (.tuple #[.int .i64 x, .string t, .int .i64 e]) h) : FnH Try.prog 20 #[ptr p, .string s] h K := by
  refine f20_fn ?_
  simp only [f20_T0, go_sem]
  unfold resolveM at he
  cases ho : M.ow s with
  | none =>
    rw [ho] at he
    simp only [Prod.mk.injEq] at he
    obtain ⟨rfl, rfl, rfl⟩ := he
    refine rowner_fn (x := 0) (b := false) hr hm hD hn hl (by unfold ownerM; rw [ho]) ?_
    simp -implicitDefEqProofs only [go_sem]
    rw [f20_ret]
    exact hk
  | some i =>
    rw [ho] at he
    obtain ⟨k, rfl, hlt⟩ := hm.own s i ho
    obtain ⟨m, _, hg⟩ := hm.now hD hlt
    obtain ⟨y, hy, _⟩ := hg.end_
    have e1 : ((k : Int) + 1 - 1).toNat = k := by omega
    simp only [e1, hy, Prod.mk.injEq] at he
    obtain ⟨he1, rfl, rfl⟩ := he
    refine rowner_fn (x := ((now M.lists k : Nat) : Int) + 1) (b := true) hr hm hD hn hl (by unfold ownerM; rw [ho]; simp only [e1]) ?_
    generalize now M.lists k = r at *
    obtain ⟨hrl, hy⟩ := List.getElem?_eq_some_iff.1 hy
    obtain ⟨va, vp, vn, rv⟩ := ref_view hr
    have c0 := rv.c0
    have hml := hm.len
    obtain ⟨b, o, hidx, hcell, _⟩ := elem_at (r := lstRow M.lists[r]) rv.ra (k := r) (by simpa using hrl) (by simp) (by omega)
    have er : cellAt h b (o + 4) = some (.string M.lists[r].remote) := hcell 4 (by omega)
    rw [hy] at er
    have e2 : (r : Int) + 1 - 1 = r := by omega
    unfold ptr
    cases d0 : decide (y.remote = ⟨#[]⟩) with
    | true =>
      have h0 := of_decide_eq_true d0
      rw [if_pos h0] at he1
      rw [← he1, h0] at hk
      simp -implicitDefEqProofs (disch := omega) only [go_sem, Nat.zero_add, c0, bin_sub_in, e2, hidx, er, d0]
      rw [f20_ret]
      exact hk
    | false =>
      rw [if_neg (of_decide_eq_false d0)] at he1
      rw [← he1] at hk
      simp -implicitDefEqProofs (disch := omega) only [go_sem, Nat.zero_add, c0, bin_sub_in, e2, hidx, er, d0]
      rw [f20_ret]
      exact hk
end
end Go.Proofs.Ytfooakkfoemdkaa

/- The reference: Named, fresh, create, set, and the calls. -/
namespace Go.Proofs.Ytfooakkfoemdkaa
open Go.Fw
def IdOk (M : Lin) : Prop := ∀ (k : Nat) (x : Lst), M.lists[k]? = some x → x.id = (k : Int) + 1
section
variable {p : Nat} {M : Lin} {ns : List ByteArray} {h : Heap} {F : List Res} {K : Kont} {n : Int} {s : ByteArray} {D : Nat} {q : LPost} {v2 : Value}
set_option maxRecDepth 8000 in
set_option maxHeartbeats 1000000 in
theorem rnamed_round {k : Nat} (hk : k < s.size) (hs : s.size ≤ 64) (hno : okc (byteAt s k) = false → q .ret [.string s, .bool false, .int .i64 k] h) (hyes : okc (byteAt s k) = true → q .normal [.string s, v2, .int .i64 ((k + 1 : Nat) : Int)] h) :
    f73_T5 q [.string s, v2, .int .i64 k] h := by
  have hdk : decide ((k : Int) < (s.size : Int)) = true := by simp; omega
  have hk1 : (k : Int) + 1 = ((k + 1 : Nat) : Int) := rfl
  have hidx : ∀ K, oIndexStr .string (.string s) (.int .i64 (k : Int)) K h = K (.int .u8 (byteAt s k)) h := fun K => idx_byte hk
  simp -implicitDefEqProofs only [f73_T5, go_sem, hdk, hidx]
  generalize byteAt s k = c at *
  have hok : okc c = ((decide ((97 : Int) ≤ (c : Int)) && decide ((c : Int) ≤ 122)) || (decide ((48 : Int) ≤ (c : Int)) && decide ((c : Int) ≤ 57)) || decide ((c : Int) = 45) || decide ((c : Int) = 46)) := by
    unfold okc
    rw [Bool.eq_iff_iff]
    simp
    omega
  rw [hok] at hno hyes
  cases e1 : decide ((97 : Int) ≤ (c : Int)) <;> cases e2 : decide ((c : Int) ≤ 122) <;> cases e3 : decide ((48 : Int) ≤ (c : Int)) <;> cases e4 : decide ((c : Int) ≤ 57) <;> cases e5 : decide ((c : Int) = 45) <;> cases e6 : decide ((c : Int) = 46) <;>
    simp only [e1, e2, e3, e4, e5, e6, Bool.and_true, Bool.and_false, Bool.or_true, Bool.or_false, Bool.and_self, Bool.or_self, forall_const, false_implies, Bool.false_eq_true, Bool.true_eq_false] at hno hyes <;>
    simp -implicitDefEqProofs (disch := omega) only [go_sem, e1, e2, e3, e4, e5, e6, bin_add_in, hk1] <;> assumption
set_option maxRecDepth 8000 in
theorem rnamed_fn (hk : K (.bool (namedB s)) h) : FnH Try.prog 73 #[.string s] h K := by
  refine f73_fn ?_
  have h0 : s = ⟨#[]⟩ ∨ 0 < s.size := by
    rcases Nat.eq_zero_or_pos s.size with e | e
    · left
      obtain ⟨d⟩ := s
      have : d = #[] := Array.eq_empty_of_size_eq_zero e
      rw [this]
    · exact .inr e
  rcases h0 with rfl | h0
  · have e : namedB ⟨#[]⟩ = false := by simp [namedB]
    rw [e] at hk
    have d : decide (((#[] : Array UInt8).size : Int) < 1) = true := by decide
    simp -implicitDefEqProofs only [f73_T0, go_sem, d]
    rw [f73_ret]
    exact hk
  · have d0 : decide (s = ⟨#[]⟩) = false := by
      rw [decide_eq_false_iff_not]
      intro e; rw [e] at h0; exact absurd h0 (by decide)
    have d00 : decide ((s.size : Int) < 1) = false := by simp; omega
    have hi0 : ∀ K, oIndexStr .string (.string s) (.int .i64 0) K h = K (.int .u8 (byteAt s 0)) h := fun K => idx_byte (k := 0) h0
    have hi1 : ∀ K, oIndexStr .string (.string s) (.int .i64 ((s.size : Int) - 1)) K h = K (.int .u8 (byteAt s (s.size - 1))) h := fun K => by
      rw [show ((s.size : Int) - 1) = ((s.size - 1 : Nat) : Int) from by omega]
      exact idx_byte (by omega)
    have e : namedB s = (decide (s.size ≤ 64) && !decide (byteAt s 0 = 46) && !decide (byteAt s (s.size - 1) = 46) && (List.range s.size).all fun k => okc (byteAt s k)) := by
      unfold namedB
      rw [d0]; simp
    rw [e] at hk
    cases d1 : decide ((64 : Int) < (s.size : Int)) with
    | true =>
      have e1 : decide (s.size ≤ 64) = false := by have := of_decide_eq_true d1; simp; omega
      simp only [e1, Bool.false_and] at hk
      simp -implicitDefEqProofs only [f73_T0, go_sem, d00, d1]
      rw [f73_ret]
      exact hk
    | false =>
      have hs64 : s.size ≤ 64 := by have := of_decide_eq_false d1; omega
      have e1 : decide (s.size ≤ 64) = true := by simp [hs64]
      cases d2 : decide ((byteAt s 0 : Int) = 46) with
      | true =>
        have e2 : decide (byteAt s 0 = 46) = true := by have := of_decide_eq_true d2; simp; omega
        simp only [e1, e2, Bool.not_true, Bool.and_false, Bool.false_and] at hk
        simp -implicitDefEqProofs only [f73_T0, go_sem, d00, d1, hi0, d2]
        rw [f73_ret]
        exact hk
      | false =>
        have e2 : decide (byteAt s 0 = 46) = false := by have := of_decide_eq_false d2; simp; omega
        cases d3 : decide ((byteAt s (s.size - 1) : Int) = 46) with
        | true =>
          have e3 : decide (byteAt s (s.size - 1) = 46) = true := by have := of_decide_eq_true d3; simp; omega
          simp only [e1, e2, e3, Bool.not_true, Bool.not_false, Bool.and_false, Bool.false_and] at hk
          simp -implicitDefEqProofs (disch := omega) only [f73_T0, go_sem, d00, d1, hi0, d2, bin_sub_in, hi1, d3]
          rw [f73_ret]
          exact hk
        | false =>
          have e3 : decide (byteAt s (s.size - 1) = 46) = false := by have := of_decide_eq_false d3; simp; omega
          simp only [e1, e2, e3, Bool.not_false, Bool.true_and] at hk
          simp -implicitDefEqProofs (disch := omega) only [f73_T0, go_sem, d00, d1, hi0, d2, bin_sub_in, hi1, d3]
          refine LoopS.st (σ := Nat) (fun k => [.string s, .bool false, .int .i64 k]) (fun k h' => h' = h ∧ k ≤ s.size ∧ ∀ j, j < k → okc (byteAt s j) = true) (fun k => s.size - k) 0 rfl ⟨rfl, Nat.zero_le _, fun j hj => absurd hj (Nat.not_lt_zero _)⟩ ?_
          rintro k h' ⟨rfl, hkl, hall⟩
          by_cases hlt : k < s.size
          · refine rnamed_round hlt hs64 (fun hb => ?_) (fun hb => ?_)
            · have e : ((List.range s.size).all fun k => okc (byteAt s k)) = false := by
                rw [List.all_eq_false]
                exact ⟨k, List.mem_range.2 hlt, by simp [hb]⟩
              rw [e] at hk
              show retL Try.prog f73_L Try.f73.results.toList K .ret _ h'
              rw [f73_ret]
              exact hk
            · rw [thenL_normal]
              refine NextSt.mk (k + 1) rfl (show h' = h' ∧ k + 1 ≤ s.size ∧ ∀ j, j < k + 1 → okc (byteAt s j) = true from ⟨rfl, hlt, fun j hj => ?_⟩) (show s.size - (k + 1) < s.size - k by omega)
              by_cases hjk : j = k
              · rw [hjk]; exact hb
              · exact hall j (by omega)
          · have hdk : decide ((k : Int) < (s.size : Int)) = false := by simp; omega
            have e : ((List.range s.size).all fun k => okc (byteAt s k)) = true := by
              rw [List.all_eq_true]
              intro j hj
              exact hall j (by have := List.mem_range.1 hj; omega)
            rw [e] at hk
            simp -implicitDefEqProofs only [f73_T5, go_sem, hdk, f73_T2]
            rw [f73_ret]
            exact hk
theorem rfresh_fn (hr : (refR p M ns).has h) (hm : Ok M D) (hn : NsOk M ns) (hl : ns.length ≤ 4294967296) (hk : K (.int .i64 (freeI M s)) h) : FnH Try.prog 54 #[ptr p, .string s] h K := by
  refine f54_fn ?_
  simp only [f54_T0, go_sem]
  refine rnamed_fn ?_
  unfold freeI at hk
  cases d0 : namedB s with
  | false =>
    simp only [d0, Bool.false_eq_true, if_false] at hk
    simp -implicitDefEqProofs only [go_sem]
    rw [f54_ret]
    exact hk
  | true =>
    simp only [d0, if_true] at hk
    simp -implicitDefEqProofs only [go_sem]
    refine rfind_fn hr hn hl ?_
    cases ho : M.ow s with
    | none =>
      rw [ho] at hk
      have d : decide ((0 : Int) < 0) = false := by decide
      simp only [Option.isSome, Bool.false_eq_true, if_false] at hk
      simp -implicitDefEqProofs only [go_sem, Option.getD_none, d]
      rw [f54_ret]
      exact hk
    | some i =>
      rw [ho] at hk
      obtain ⟨k, rfl, _⟩ := hm.own s i ho
      have d : decide ((0 : Int) < (k : Int) + 1) = true := by rw [decide_eq_true_eq]; omega
      simp only [Option.isSome, if_true] at hk
      simp -implicitDefEqProofs only [go_sem, Option.getD_some, d]
      rw [f54_ret]
      exact hk
/-- The names' rows stay when another name gets an owner. -/
theorem ownRow_keep {M' : Lin} (hn : NsOk M ns) (ho : M.ow s = none) {i : Int} (h' : M'.ow = fun x => if x = s then some i else M.ow x) : ns.map (ownRow M) ++ [[.string s, .int .i64 i]] = (ns ++ [s]).map (ownRow M') := by
  rw [List.map_append]
  congr 1
  · apply List.map_congr_left
    intro a ha
    have hne : a ≠ s := by
      rintro rfl
      exact (hn a).1 ha ho
    simp [ownRow, h', hne]
  · simp [ownRow, h']
theorem slice_one {v : Value} {e : TypeId} {sz : Nat} {rows : List (List Value)} (hr : (vecR v e sz rows).has h) : oneC v = true := by
  obtain ⟨sa, cp, e⟩ := hr.rows.val
  rw [e]; rfl
set_option maxRecDepth 8000 in
set_option maxHeartbeats 1000000 in
theorem rcreate_fn {par : Int} (hs : Sep h (refR p M ns :: F)) (hm : Ok M D) (hn : NsOk M ns) (hl : ns.length ≤ 1000)
    (hk : ∀ h', Sep h' (refR p (addM M s par).1 (if (addM M s par).2.2 = 0 then ns ++ [s] else ns) :: F) → K (.tuple #[.int .i64 (addM M s par).2.1, .int .i64 (addM M s par).2.2]) h') :
    FnH Try.prog 56 #[ptr p, .string s, .int .i64 par] h K := by
  have hml := hm.len
  refine f56_fn ?_
  simp only [f56_T0, go_sem]
  refine rfresh_fn (hs.at 0) hm hn (by omega) ?_
  unfold addM at hk
  obtain ⟨va, vp, vn, t, hs1⟩ := ref_open hs
  have c0 : cellAt h p 0 = some va := (hs1.at 0).cell 0
  have hlv : ∀ K, oLen (some (.slice 38)) va K h = K (.int .i64 M.lists.length) h := fun K => by rw [len_val (hs1.at 1).rows, List.length_map]
  cases d0 : decide (freeI M s = 0) with
  | false =>
    have hne := of_decide_eq_false d0
    rw [if_pos hne] at hk
    simp only [hne, if_false] at hk
    unfold ptr
    simp -implicitDefEqProofs only [go_sem, d0, f56_T1]
    rw [f56_ret]
    exact hk h hs
  | true =>
    have hfe := of_decide_eq_true d0
    rw [if_neg (by simpa using hfe)] at hk
    cases d1 : decide ((50 : Int) ≤ (M.lists.length : Int)) with
    | true =>
      have d6 : decide ((6 : Int) = 0) = false := by decide
      have h50 : 50 ≤ M.lists.length := by have := of_decide_eq_true d1; omega
      rw [if_pos h50] at hk
      simp only [show ¬ (6 : Int) = 0 from by decide, if_false] at hk
      unfold ptr
      simp -implicitDefEqProofs only [go_sem, d0, Nat.zero_add, c0, hlv, d1, f56_T1, d6]
      rw [f56_ret]
      exact hk h hs
    | false =>
      have hlt : M.lists.length < 50 := by have := of_decide_eq_false d1; omega
      rw [if_neg (by omega)] at hk
      simp only [if_true] at hk
      unfold ptr
      simp -implicitDefEqProofs (disch := omega) only [go_sem, d0, Nat.zero_add, c0, hlv, d1, f56_T1, hfe, bin_add_in]
      refine s_new0 hs1 fun h2 v2 hs2 => ?_
      have c0' : cellAt h2 p 0 = some va := (hs2.at 1).cell 0
      simp -implicitDefEqProofs only [go_sem, Nat.zero_add, c0']
      refine s_append (S := fun _ => True) hs2 (news := M.lists.map lstRow) rfl (by omega) (by omega) (hs2.at 2).rows (by simp [lstRow, go_sem]) (by simp only [List.length_nil, List.length_map]; omega) fun v3 h3 hs3 => ?_
      simp -implicitDefEqProofs only [go_sem]
      rw [build_of (cs := ⟨lstRow ⟨(M.lists.length : Int) + 1, 0, par, s, ⟨#[]⟩⟩⟩) rfl]
      simp -implicitDefEqProofs only [go_sem]
      refine s_append_one hs3 (row := lstRow ⟨(M.lists.length : Int) + 1, 0, par, s, ⟨#[]⟩⟩) rfl (by omega) (by omega) (by omega) rfl rfl (by simp [lstRow, go_sem]) (by simp only [List.nil_append, List.length_map]; omega) fun v4 h4 hs4 => ?_
      simp -implicitDefEqProofs only [go_sem, Nat.zero_add]
      refine s_fld (hs4.pick 1) (by simp) (slice_one (hs4.at 0)) fun h5 hs5 => ?_
      simp -implicitDefEqProofs only [go_sem, Nat.zero_add]
      refine s_new0 hs5 fun h6 v6 hs6 => ?_
      have c2 : cellAt h6 p 2 = some vn := (hs6.at 1).cell 2
      simp -implicitDefEqProofs only [go_sem, Nat.zero_add, c2]
      refine s_append (S := fun _ => True) hs6 (news := ns.map (ownRow M)) rfl (by omega) (by omega) (hs6.at 5).rows (by simp [ownRow, go_sem]) (by simp only [List.length_nil, List.length_map]; omega) fun v7 h7 hs7 => ?_
      simp -implicitDefEqProofs only [go_sem]
      rw [build_of (cs := #[.string s, .int .i64 ((M.lists.length : Int) + 1)]) rfl]
      simp -implicitDefEqProofs only [go_sem]
      refine s_append_one hs7 (row := [.string s, .int .i64 ((M.lists.length : Int) + 1)]) rfl (by omega) (by omega) (by omega) rfl rfl (by simp [go_sem]) (by simp only [List.nil_append, List.length_map]; omega) fun v8 h8 hs8 => ?_
      simp -implicitDefEqProofs only [go_sem, Nat.zero_add]
      refine s_fld (hs8.pick 1) (by simp) (slice_one (hs8.at 0)) fun h9 hs9 => ?_
      rw [f56_ret]
      have er : [] ++ M.lists.map lstRow ++ [lstRow ⟨(M.lists.length : Int) + 1, 0, par, s, ⟨#[]⟩⟩] = (addL M s par).lists.map lstRow := by simp [addL]
      have en : [] ++ ns.map (ownRow M) ++ [[.string s, .int .i64 ((M.lists.length : Int) + 1)]] = (ns ++ [s]).map (ownRow (addL M s par)) := by
        rw [List.nil_append]
        exact ownRow_keep hn (free_none hfe) rfl
      rw [er, en] at hs9
      exact hk h9 (ref_close (va := v4) (vp := vp) (vn := v8) (t := t) (((hs9.del 5).del 3).sel [0, 1, 1, 0]))
end
end Go.Proofs.Ytfooakkfoemdkaa

/- A store of a whole element into an owned slice. -/
namespace Go.Fw
section
variable {h h' : Heap} {K : Kont} {v x : Value} {rows : List (List Value)} {sz k : Nat} {e : TypeId} {F : List Res} {o : Option Nat} {kk : IntKind}
theorem wrCells_mid : ∀ (vs pre c post : List Value), c.length = vs.length → wrCells ⟨pre ++ c ++ post⟩ pre.length vs = ⟨pre ++ vs ++ post⟩
  | [], pre, c, post, hl => by
    have : c = [] := List.eq_nil_of_length_eq_zero hl
    subst this; rfl
  | v :: r, pre, c, post, hl => by
    match c, hl with
    | x :: c', hl =>
      simp only [wrCells]
      have h1 : (⟨pre ++ x :: c' ++ post⟩ : Array Value).setIfInBounds pre.length v = ⟨(pre ++ [v]) ++ c' ++ post⟩ := by
        apply Array.ext'
        simp
      rw [h1, show pre.length + 1 = (pre ++ [v]).length from by simp, wrCells_mid r (pre ++ [v]) c' post (by simpa using hl)]
      simp
theorem flatten_split (rows : List (List Value)) (hk : k < rows.length) : rows.flatten = (rows.take k).flatten ++ rows[k] ++ (rows.drop (k + 1)).flatten := by
  have : rows = rows.take k ++ rows[k] :: rows.drop (k + 1) := by rw [← List.drop_eq_getElem_cons hk, List.take_append_drop]
  have h2 := congrArg List.flatten this
  rw [List.flatten_append, List.flatten_cons, ← List.append_assoc] at h2
  exact h2
theorem flatten_setRow (rows : List (List Value)) (hk : k < rows.length) (row : List Value) : (rows.set k row).flatten = (rows.take k).flatten ++ row ++ (rows.drop (k + 1)).flatten := by
  rw [List.set_eq_take_append_cons_drop, if_pos hk]
  simp
theorem Vec.setRow (hv : Vec h v e sz rows o) (hk : k < rows.length) {row : List Value} (hrow : row.length = sz) (h1 : ∀ y ∈ row, oneC y = true) :
    ∃ b cap c, o = some b ∧ v = .slice (some ⟨b, 0, none⟩) rows.length cap ∧ h[b]? = some (.cells c e (0, 0)) ∧ k * sz + sz ≤ c.size ∧ Vec (h.setIfInBounds b (.cells (wrCells c (k * sz) row) e (0, 0))) v e sz (rows.set k row) o := by
  obtain ⟨g1, g2, g3⟩ := hv
  rcases g3 with ⟨_, rfl, _⟩ | ⟨b, cap, c, rest, ho, rfl, hc, hg, hs, hl⟩
  · cases hk
  · have hpre : (rows.take k).flatten.length = k * sz := by
      rw [flatten_length _ (fun r hr => g1 r (List.mem_of_mem_take hr)), List.length_take, Nat.min_eq_left (by omega)]
    have hlen : k * sz + sz ≤ rows.flatten.length := by
      rw [flatten_length rows g1]
      have : (k + 1) * sz ≤ rows.length * sz := Nat.mul_le_mul_right _ hk
      rw [Nat.succ_mul] at this
      omega
    have hcs : k * sz + sz ≤ c.size := by
      rw [← Array.length_toList, hl, List.length_append]
      omega
    have hw : (wrCells c (k * sz) row).toList = (rows.set k row).flatten ++ rest := by
      have hc' : c = ⟨(rows.take k).flatten ++ rows[k] ++ ((rows.drop (k + 1)).flatten ++ rest)⟩ := by
        apply Array.ext'
        rw [hl, flatten_split rows hk]; simp
      rw [hc', ← hpre, wrCells_mid _ _ _ _ (by rw [hrow]; exact g1 _ (List.getElem_mem hk)), flatten_setRow rows hk]
      simp
    have hws : (wrCells c (k * sz) row).size = cap * sz := by
      rw [← Array.length_toList, hw, List.length_append]
      have h2 := congrArg List.length hl
      rw [Array.length_toList, hs, List.length_append] at h2
      rw [h2]
      congr 1
      rw [flatten_length rows g1, flatten_length (rows.set k row) (fun r hr => ?_), List.length_set]
      rcases List.mem_or_eq_of_mem_set hr with hr | rfl
      · exact g1 r hr
      · exact hrow
    refine ⟨b, cap, c, ho, rfl, hg, hcs, fun r hr => ?_, fun r hr y hy => ?_, .inr ⟨b, cap, wrCells c (k * sz) row, rest, ho, by rw [List.length_set], by simpa using hc, get_set_eq rfl (lt_of_get hg), hws, hw⟩⟩
    · rcases List.mem_or_eq_of_mem_set hr with hr | rfl
      · exact g1 r hr
      · exact hrow
    · rcases List.mem_or_eq_of_mem_set hr with hr | rfl
      · exact g2 r hr y hy
      · exact h1 y hy
theorem s_row (hs : Sep h (vecR v e sz rows :: F)) (hk : k < rows.length) {row : List Value} (hrow : row.length = sz) (h0 : 0 < sz) (h1 : ∀ y ∈ row, oneC y = true) (hK : ∀ h', Sep h' (vecR v e sz (rows.set k row) :: F) → K undef h') :
    oIndexAddr (.slice sz) v (.int kk k) (fun a h => oStore (.agg sz) a (.agg ⟨row⟩) K h) h := by
  obtain ⟨o, hv, hstep⟩ := hs.vec
  obtain ⟨b, cap, c, ho, rfl, hg, hcs, hv'⟩ := hv.setRow hk hrow h1
  rw [index_slice (by omega) (by omega)]
  simp only [Int.toNat_natCast, Nat.zero_add]
  have hst : storeH h ⟨b, k * sz, none⟩ row = some (h.setIfInBounds b (.cells (wrCells c (k * sz) row) e (0, 0))) := by
    have hle : Nat.ble (k * sz + row.length) c.size = true := by rw [Nat.ble_eq, hrow]; exact hcs
    have hall : row.all oneC = true := List.all_eq_true.2 h1
    simp only [storeH, hg, hle, hall, Option.isNone_none, Bool.and_self, if_true]
  have hgood : (Var.agg sz).good = true := by simp [Var.good]
  simp only [oStore, Value.cells, hst, Var.good, Var.size, List.size_toArray, hrow, true_and]
  exact hK _ (hstep _ _ _ _ _ _ hv' ((Turn.set ..).mono (fun y hy => by rw [ho]; exact congrArg some hy.symm)) (fun _ hb => .inl hb))
end
end Go.Fw

/- The reference: set and the calls that change it. -/
namespace Go.Proofs.Ytfooakkfoemdkaa
open Go.Fw
section
variable {p : Nat} {M : Lin} {ns : List ByteArray} {h : Heap} {F : List Res} {K : Kont} {n : Int} {s : ByteArray} {D : Nat}
theorem modify_eq_set {L : List Lst} {k : Nat} {f : Lst → Lst} (hk : k < L.length) : L.modify k f = L.set k (f L[k]) := by
  apply List.ext_getElem?
  intro i
  rw [List.getElem?_set, List.getElem?_modify]
  by_cases hi : k = i
  · subst hi
    simp [hk]
  · simp [hi]
set_option maxRecDepth 8000 in
set_option maxHeartbeats 1000000 in
theorem rset_fn {x : Lst} {k : Nat} (hs : Sep h (refR p M ns :: F)) (hml : M.lists.length ≤ 50) (hx : x.id = (k : Int) + 1) (hkl : k < M.lists.length)
    (hk : ∀ h', Sep h' (refR p { M with lists := M.lists.set k x } ns :: F) → K (.tuple #[]) h') : FnH Try.prog 55 #[ptr p, .agg ⟨lstRow x⟩] h K := by
  refine f55_fn ?_
  simp only [f55_T0]
  obtain ⟨va, vp, vn, t, hs1⟩ := ref_open hs
  refine s_box hs1 fun h1 b hs2 => ?_
  simp -implicitDefEqProofs only [go_sem]
  refine s_new0 hs2 fun h2 v2 hs3 => ?_
  have c0 : cellAt h2 p 0 = some va := (hs3.at 2).cell 0
  unfold ptr
  simp -implicitDefEqProofs only [go_sem, Nat.zero_add, c0]
  refine s_append (S := fun _ => True) hs3 (news := M.lists.map lstRow) rfl (by omega) (by omega) (hs3.at 3).rows (by simp [lstRow, go_sem]) (by simp only [List.length_nil, List.length_map]; omega) fun v4 h4 hs4 => ?_
  simp -implicitDefEqProofs only [go_sem, Nat.zero_add]
  refine s_fld (hs4.pick 2) (by simp) (slice_one (hs4.at 0)) fun h5 hs5 => ?_
  have c0' : cellAt h5 p 0 = some v4 := (hs5.at 0).cell 0
  have e0 : cellAt h5 b 0 = some (.int .i64 x.id) := (hs5.at 2).cell 0
  have el : ∀ K, oLoad (.agg 5) (.pointer (some ⟨b, 0, none⟩)) K h5 = K (.agg ⟨lstRow x⟩) h5 := fun K => load_cellR (hs5.at 2) rfl
  have ek : x.id - 1 = k := by omega
  simp -implicitDefEqProofs (disch := omega) only [go_sem, Nat.zero_add, c0', e0, bin_sub_in, ek, el]
  refine s_row (hs5.pick 1) (k := k) (row := lstRow x) (by simpa using hkl) rfl (by omega) (by simp [lstRow, go_sem]) fun h6 hs6 => ?_
  show retL Try.prog f55_L Try.f55.results.toList K .normal _ h6
  rw [f55_end]
  have er : ([] ++ M.lists.map lstRow).set k (lstRow x) = (M.lists.set k x).map lstRow := by
    rw [List.nil_append, List.map_set]
  rw [er] at hs6
  refine hk h6 (ref_close (M := { M with lists := M.lists.set k x }) (va := v4) (vp := vp) (vn := vn) (t := t) ?_)
  exact ((hs6.del 3).del 2).sel [1, 0, 0, 0]
set_option maxRecDepth 8000 in
set_option maxHeartbeats 1000000 in
theorem rrename_fn (hs : Sep h (refR p M ns :: F)) (hm : Ok M D) (hid : IdOk M) (hn : NsOk M ns) (hl : ns.length ≤ 1000)
    (hk : ∀ h', Sep h' (refR p (renameM M n s).1 (if (renameM M n s).2 = 0 then ns ++ [s] else ns) :: F) → K (.int .i64 (renameM M n s).2) h') :
    FnH Try.prog 36 #[ptr p, .int .i64 n, .string s] h K := by
  have hml := hm.len
  refine f36_fn ?_
  simp only [f36_T0, go_sem]
  refine rcheck_fn (hs.at 0) (by omega) ?_
  unfold renameM at hk
  cases d0 : decide (ready M n = 0) with
  | false =>
    have hne := of_decide_eq_false d0
    rw [if_pos hne] at hk
    simp only [hne, if_false] at hk
    simp -implicitDefEqProofs only [go_sem, d0, f36_T1]
    rw [f36_ret]
    exact hk h hs
  | true =>
    have hr0 := of_decide_eq_true d0
    rw [if_neg (by simpa using hr0)] at hk
    simp -implicitDefEqProofs only [go_sem, d0]
    refine rfresh_fn (hs.at 0) hm hn (by omega) ?_
    cases d1 : decide (freeI M s = 0) with
    | false =>
      have hne := of_decide_eq_false d1
      rw [if_pos hne] at hk
      simp only [hne, if_false] at hk
      simp -implicitDefEqProofs only [go_sem, d1, f36_T1]
      rw [f36_ret]
      exact hk h hs
    | true =>
      have hfe := of_decide_eq_true d1
      rw [if_neg (by simpa using hfe)] at hk
      simp only [if_true] at hk
      obtain ⟨k, rfl, hlt, _⟩ := ready_ex hr0
      have e2 : ((k : Int) + 1 - 1).toNat = k := by omega
      rw [e2, modify_eq_set hlt] at hk
      have hidk := hid k M.lists[k] (List.getElem?_eq_getElem hlt)
      obtain ⟨va, vp, vn, rv⟩ := ref_view (hs.at 0)
      have c0 := rv.c0
      have e : (k : Int) + 1 - 1 = k := by omega
      obtain ⟨b, o, hidx, _, hload⟩ := elem_at (r := lstRow M.lists[k]) rv.ra (k := k) (by simpa using hlt) (by simp) (by omega)
      have z38 : zeroOf Try.prog 38 = some (.agg #[.int .i64 0, .int .i64 0, .int .i64 0, .string (ByteArray.mk #[]), .string (ByteArray.mk #[])]) := by kernel_rfl
      generalize M.lists[k] = y at *
      unfold ptr
      simp -implicitDefEqProofs (disch := omega) only [go_sem, d1, f36_T1, Nat.zero_add, c0, bin_sub_in, e, hidx, hload, z38]
      refine s_alloc hs fun h1 b1 hs1 => ?_
      refine s_store hs1 rfl rfl (by simp [lstRow, go_sem]) fun h2 hs2 => ?_
      simp -implicitDefEqProofs only [go_sem]
      refine s_fld hs2 (by simp [lstRow]) rfl fun h3 hs3 => ?_
      have hl3 : ∀ K, oLoad (.agg 5) (.pointer (some ⟨b1, 0, none⟩)) K h3 = K (.agg ⟨lstRow { y with name := s }⟩) h3 := fun K => load_cellR (hs3.at 0) rfl
      simp -implicitDefEqProofs only [go_sem, hl3]
      refine rset_fn (x := { y with name := s }) (k := k) hs3.tail hml hidk hlt fun h4 hs4 => ?_
      simp -implicitDefEqProofs only [go_sem]
      obtain ⟨va2, vp2, vn2, t2, hs5⟩ := ref_open hs4
      refine s_new0 hs5 fun h6 v6 hs6 => ?_
      have c2 : cellAt h6 p 2 = some vn2 := (hs6.at 1).cell 2
      simp -implicitDefEqProofs only [go_sem, Nat.zero_add, c2]
      refine s_append (S := fun _ => True) hs6 (news := ns.map (ownRow M)) rfl (by omega) (by omega) (hs6.at 4).rows (by simp [ownRow, go_sem]) (by simp only [List.length_nil, List.length_map]; omega) fun v7 h7 hs7 => ?_
      simp -implicitDefEqProofs only [go_sem]
      rw [build_of (cs := #[.string s, .int .i64 ((k : Int) + 1)]) rfl]
      simp -implicitDefEqProofs only [go_sem]
      refine s_append_one hs7 (row := [.string s, .int .i64 ((k : Int) + 1)]) rfl (by omega) (by omega) (by omega) rfl rfl (by simp [go_sem]) (by simp only [List.nil_append, List.length_map]; omega) fun v8 h8 hs8 => ?_
      simp -implicitDefEqProofs only [go_sem, Nat.zero_add]
      refine s_fld (hs8.pick 1) (by simp) (slice_one (hs8.at 0)) fun h9 hs9 => ?_
      rw [f36_ret]
      have en : [] ++ ns.map (ownRow M) ++ [[.string s, .int .i64 ((k : Int) + 1)]] = (ns ++ [s]).map (ownRow { M with lists := M.lists.set k { y with name := s }, ow := fun x => if x = s then some ((k : Int) + 1) else M.ow x }) := by
        rw [List.nil_append]
        exact ownRow_keep hn (free_none hfe) rfl
      rw [en] at hs9
      exact hk h9 (ref_close (va := va2) (vp := vp2) (vn := v8) (t := t2) ((hs9.del 4).sel [0, 1, 1, 0]))
set_option maxRecDepth 8000 in
set_option maxHeartbeats 1000000 in
theorem rmove_fn (hs : Sep h (refR p M ns :: F)) (hm : Ok M D) (hid : IdOk M)
    (hk : ∀ h', Sep h' (refR p (moveM M n s).1 ns :: F) → K (.int .i64 (moveM M n s).2) h') :
    FnH Try.prog 39 #[ptr p, .int .i64 n, .string s] h K := by
  have hml := hm.len
  refine f39_fn ?_
  simp only [f39_T0, go_sem]
  refine rcheck_fn (hs.at 0) (by omega) ?_
  unfold moveM at hk
  cases d0 : decide (ready M n = 0) with
  | false =>
    have hne := of_decide_eq_false d0
    rw [if_pos hne] at hk
    simp -implicitDefEqProofs only [go_sem, d0, f39_T1]
    rw [f39_ret]
    exact hk h hs
  | true =>
    have hr0 := of_decide_eq_true d0
    rw [if_neg (by simpa using hr0)] at hk
    cases d1 : decide (s = ⟨#[]⟩) with
    | true =>
      rw [if_pos (of_decide_eq_true d1)] at hk
      have d6 : decide ((1 : Int) = 0) = false := by decide
      simp -implicitDefEqProofs only [go_sem, d0, d1, f39_T1, d6]
      rw [f39_ret]
      exact hk h hs
    | false =>
      rw [if_neg (of_decide_eq_false d1)] at hk
      obtain ⟨k, rfl, hlt, _⟩ := ready_ex hr0
      have e2 : ((k : Int) + 1 - 1).toNat = k := by omega
      unfold Lin.setL at hk
      rw [e2, modify_eq_set hlt] at hk
      have hidk := hid k M.lists[k] (List.getElem?_eq_getElem hlt)
      obtain ⟨va, vp, vn, rv⟩ := ref_view (hs.at 0)
      have c0 := rv.c0
      have e : (k : Int) + 1 - 1 = k := by omega
      obtain ⟨b, o, hidx, _, hload⟩ := elem_at (r := lstRow M.lists[k]) rv.ra (k := k) (by simpa using hlt) (by simp) (by omega)
      have z38 : zeroOf Try.prog 38 = some (.agg #[.int .i64 0, .int .i64 0, .int .i64 0, .string (ByteArray.mk #[]), .string (ByteArray.mk #[])]) := by kernel_rfl
      generalize M.lists[k] = y at *
      unfold ptr
      simp -implicitDefEqProofs (disch := omega) only [go_sem, d0, d1, hr0, f39_T1, Nat.zero_add, c0, bin_sub_in, e, hidx, hload, z38]
      refine s_alloc hs fun h1 b1 hs1 => ?_
      refine s_store hs1 rfl rfl (by simp [lstRow, go_sem]) fun h2 hs2 => ?_
      simp -implicitDefEqProofs only [go_sem]
      refine s_fld hs2 (by simp [lstRow]) rfl fun h3 hs3 => ?_
      have hl3 : ∀ K, oLoad (.agg 5) (.pointer (some ⟨b1, 0, none⟩)) K h3 = K (.agg ⟨lstRow { y with remote := s }⟩) h3 := fun K => load_cellR (hs3.at 0) rfl
      simp -implicitDefEqProofs only [go_sem, hl3]
      refine rset_fn (x := { y with remote := s }) (k := k) hs3.tail hml hidk hlt fun h4 hs4 => ?_
      rw [f39_ret]
      exact hk h4 hs4
set_option maxRecDepth 8000 in
set_option maxHeartbeats 1000000 in
theorem rmerge_fn {a b : Int} (hs : Sep h (refR p M ns :: F)) (hm : Ok M D) (hD : D ≤ 1000) (hid : IdOk M)
    (hk : ∀ h', Sep h' (refR p (mergeM M a b).1 ns :: F) → K (.int .i64 (mergeM M a b).2) h') :
    FnH Try.prog 38 #[ptr p, .int .i64 a, .int .i64 b] h K := by
  have hml := hm.len
  refine f38_fn ?_
  simp only [f38_T0, go_sem]
  refine ris_fn (hs.at 0) ?_
  unfold mergeM at hk
  have hready : ready M a = if known M a = true then (if (M.lists[(a - 1).toNat]?).any live = true then 0 else 7) else 4 := rfl
  cases dka : known M a with
  | false =>
    have hra : ready M a = 4 := by rw [hready, dka]; rfl
    have hk4 : K (.int .i64 4) h := by
      rw [hra] at hk
      split at hk
      · exact hk h hs
      · rw [if_pos (by decide)] at hk; exact hk h hs
    simp -implicitDefEqProofs only [go_sem]
    rw [f38_ret]
    exact hk4
  | true =>
    simp -implicitDefEqProofs only [go_sem]
    refine ris_fn (hs.at 0) ?_
    cases dkb : known M b with
    | false =>
      rw [dkb, if_pos rfl] at hk
      simp -implicitDefEqProofs only [go_sem]
      rw [f38_ret]
      exact hk h hs
    | true =>
      rw [dkb, if_neg (by simp)] at hk
      obtain ⟨j, rfl, hj⟩ := known_ex dkb
      obtain ⟨nn, _, hg⟩ := hm.now hD hj
      have e2 : ((j : Int) + 1 - 1).toNat = j := by omega
      simp only [e2] at hk
      simp -implicitDefEqProofs only [go_sem]
      refine rnow_fn (hs.at 0) hg (by omega) ?_
      generalize now M.lists j = g at *
      obtain ⟨y, hy, hy0⟩ := hg.end_
      obtain ⟨hgl, hy⟩ := List.getElem?_eq_some_iff.1 hy
      refine ralive_fn (hs.at 0) (by omega) ?_
      rw [dka, Bool.true_and]
      cases dl : (M.lists[(a - 1).toNat]?).any live with
      | false =>
        have hra : ready M a = 7 := by rw [hready, dka, dl]; rfl
        rw [hra, if_pos (by decide)] at hk
        simp -implicitDefEqProofs only [go_sem]
        rw [f38_ret]
        exact hk h hs
      | true =>
        have hra : ready M a = 0 := by rw [hready, dka, dl]; rfl
        rw [hra, if_neg (by decide)] at hk
        obtain ⟨va, vp, vn, rv⟩ := ref_view (hs.at 0)
        have c0 := rv.c0
        obtain ⟨b1, o1, hidx, hcell, _⟩ := elem_at (r := lstRow M.lists[g]) rv.ra (k := g) (by simpa using hgl) (by simp) (by omega)
        have er : cellAt h b1 (o1 + 4) = some (.string M.lists[g].remote) := hcell 4 (by omega)
        rw [List.getElem?_eq_getElem hgl, hy, Option.any_some] at hk
        rw [hy] at er
        have e1 : (g : Int) + 1 - 1 = g := by omega
        unfold ptr
        cases dm : decide (y.remote = ⟨#[]⟩) with
        | false =>
          rw [dm, if_pos (by simp)] at hk
          simp -implicitDefEqProofs (disch := omega) only [go_sem, Nat.zero_add, c0, bin_sub_in, e1, hidx, er, dm]
          rw [f38_ret]
          exact hk h hs
        | true =>
          rw [dm, if_neg (by simp)] at hk
          obtain ⟨k, rfl, hlt, _⟩ := ready_ex hra
          cases dq : decide ((g : Int) + 1 = (k : Int) + 1) with
          | true =>
            rw [if_pos (of_decide_eq_true dq)] at hk
            simp -implicitDefEqProofs (disch := omega) only [go_sem, Nat.zero_add, c0, bin_sub_in, e1, hidx, er, dm, dq]
            rw [f38_ret]
            exact hk h hs
          | false =>
            rw [if_neg (of_decide_eq_false dq)] at hk
            have e3 : ((k : Int) + 1 - 1).toNat = k := by omega
            have e4 : (k : Int) + 1 - 1 = k := by omega
            unfold Lin.setL at hk
            rw [e3, modify_eq_set hlt] at hk
            have hidk := hid k M.lists[k] (List.getElem?_eq_getElem hlt)
            obtain ⟨b2, o2, hidx2, _, hload2⟩ := elem_at (r := lstRow M.lists[k]) rv.ra (k := k) (by simpa using hlt) (by simp) (by omega)
            have z38 : zeroOf Try.prog 38 = some (.agg #[.int .i64 0, .int .i64 0, .int .i64 0, .string (ByteArray.mk #[]), .string (ByteArray.mk #[])]) := by kernel_rfl
            generalize hyk : M.lists[k] = z at *
            simp -implicitDefEqProofs (disch := omega) only [go_sem, Nat.zero_add, c0, bin_sub_in, e1, hidx, er, dm, dq, e4, hidx2, hload2, z38]
            refine s_alloc hs fun h1 b3 hs1 => ?_
            refine s_store hs1 rfl rfl (by simp [lstRow, go_sem]) fun h2 hs2 => ?_
            simp -implicitDefEqProofs only [go_sem]
            refine s_fld hs2 (by simp [lstRow]) rfl fun h3 hs3 => ?_
            have hl3 : ∀ K, oLoad (.agg 5) (.pointer (some ⟨b3, 0, none⟩)) K h3 = K (.agg ⟨lstRow { z with into := (g : Int) + 1 }⟩) h3 := fun K => load_cellR (hs3.at 0) rfl
            simp -implicitDefEqProofs only [go_sem, hl3]
            refine rset_fn (x := { z with into := (g : Int) + 1 }) (k := k) hs3.tail hml hidk hlt fun h4 hs4 => ?_
            rw [f38_ret]
            exact hk h4 hs4
set_option maxRecDepth 8000 in
set_option maxHeartbeats 1000000 in
theorem rsplit_fn {pred : ByteArray} {inp : Int} (hs : Sep h (refR p M ns :: F)) (hm : Ok M D) (hD : D ≤ 1000) (hn : NsOk M ns) (hl : ns.length ≤ 1000)
    (hk : ∀ h', Sep h' (refR p (splitM M n s pred inp).1 (if (splitM M n s pred inp).2.2 = 0 then ns ++ [s] else ns) :: F) → K (.tuple #[.int .i64 (splitM M n s pred inp).2.1, .int .i64 (splitM M n s pred inp).2.2]) h') :
    FnH Try.prog 37 #[ptr p, .int .i64 n, .string s, .string pred, .int .i64 inp] h K := by
  have hml := hm.len
  have hsl := hm.spl
  refine f37_fn ?_
  simp only [f37_T0, go_sem]
  refine rcheck_fn (hs.at 0) (by omega) ?_
  unfold splitM at hk
  cases dr : decide (ready M n = 0) with
  | false =>
    have hne := of_decide_eq_false dr
    rw [if_pos hne] at hk
    simp only [hne, if_false] at hk
    simp -implicitDefEqProofs only [go_sem, dr]
    rw [f37_ret]
    exact hk h hs
  | true =>
    rw [if_neg (by simpa using of_decide_eq_true dr)] at hk
    simp -implicitDefEqProofs only [go_sem, dr]
    refine rcreate_fn hs hm hn hl fun h1 hs1 => ?_
    have hsp : (addM M s n).1.splits = M.splits := by
      unfold addM; split
      · rfl
      · split <;> rfl
    generalize addM M s n = r at *
    obtain ⟨M', i, e⟩ := r
    simp only at hk hs1 hsp ⊢
    cases de : decide (e = 0) with
    | false =>
      have hne := of_decide_eq_false de
      rw [if_pos hne] at hk
      simp only [hne, if_false] at hk hs1
      simp -implicitDefEqProofs only [go_sem, de]
      rw [f37_ret]
      exact hk h1 hs1
    | true =>
      have h0 := of_decide_eq_true de
      rw [if_neg (by simpa using h0)] at hk
      simp only [h0, if_true] at hk hs1
      obtain ⟨va, vp, vn, t, hs2⟩ := ref_open hs1
      unfold ptr
      simp -implicitDefEqProofs only [go_sem, de]
      refine s_new0 hs2 fun h2 v2 hs3 => ?_
      have c1 : cellAt h2 p 1 = some vp := (hs3.at 1).cell 1
      simp -implicitDefEqProofs only [go_sem, Nat.zero_add, c1]
      refine s_append (S := fun _ => True) hs3 (news := M'.splits.map splRow) rfl (by omega) (by omega) (hs3.at 3).rows (by simp [splRow, go_sem]) (by simp only [List.length_nil, List.length_map, hsp]; omega) fun v3 h3 hs4 => ?_
      simp -implicitDefEqProofs only [go_sem]
      rw [build_of (cs := ⟨splRow ⟨n, i, inp, pred⟩⟩) rfl]
      simp -implicitDefEqProofs only [go_sem]
      refine s_append_one hs4 (row := splRow ⟨n, i, inp, pred⟩) rfl (by omega) (by omega) (by omega) rfl rfl (by simp [splRow, go_sem]) (by simp only [List.nil_append, List.length_map, hsp]; omega) fun v4 h4 hs5 => ?_
      simp -implicitDefEqProofs only [go_sem, Nat.zero_add]
      refine s_fld (hs5.pick 1) (by simp) (slice_one (hs5.at 0)) fun h5 hs6 => ?_
      rw [f37_ret]
      have er : [] ++ M'.splits.map splRow ++ [splRow ⟨n, i, inp, pred⟩] = (M'.splits ++ [(⟨n, i, inp, pred⟩ : Spl)]).map splRow := by simp
      rw [er] at hs6
      exact hk h5 (ref_close (M := { M' with splits := M'.splits ++ [⟨n, i, inp, pred⟩] }) (va := va) (vp := v4) (vn := vn) (t := t) ((hs6.del 3).sel [0, 1, 0, 0]))
theorem rcreate0_fn (hs : Sep h (refR p M ns :: F)) (hm : Ok M D) (hn : NsOk M ns) (hl : ns.length ≤ 1000)
    (hk : ∀ h', Sep h' (refR p (addM M s 0).1 (if (addM M s 0).2.2 = 0 then ns ++ [s] else ns) :: F) → K (.tuple #[.int .i64 (addM M s 0).2.1, .int .i64 (addM M s 0).2.2]) h') :
    FnH Try.prog 40 #[ptr p, .string s] h K := by
  refine f40_fn ?_
  simp only [f40_T0, go_sem]
  refine rcreate_fn hs hm hn hl fun h1 hs1 => ?_
  simp only [go_sem]
  rw [f40_ret]
  exact hk h1 hs1
theorem rnew_fn (hs : Sep h F) (hk : ∀ h' p, Sep h' (refR p newL [] :: F) → K (ptr p) h') : FnH Try.prog 14 #[] h K := by
  refine f14_fn ?_
  simp only [f14_T0, go_sem]
  refine s_box hs fun h2 b hs2 => ?_
  rw [f14_ret]
  exact hk h2 b (ref_close (va := .slice none 0 0) (vp := .slice none 0 0) (vn := .slice none 0 0) (t := 55) (((hs2.nilVec (e := 38) (sz := 5)).nilVec (e := 73) (sz := 4)).nilVec (e := 78) (sz := 2) |>.sel [3, 2, 1, 0]))
set_option maxRecDepth 8000 in
set_option maxHeartbeats 1000000 in
theorem model_fn {d : Deed} (hs : Sep h (refR p M ns :: F)) (hm : Ok M D) (hD : D ≤ 1000) (hid : IdOk M) (hn : NsOk M ns) (hl : ns.length ≤ 1000)
    (hk : ∀ h', Sep h' (refR p (doM M d).1 (namesM M d ns) :: F) → K (.tuple #[.int .i64 (doM M d).2.1, .int .i64 (doM M d).2.2]) h') :
    FnH Try.prog 16 #[ptr p, .agg ⟨deedRow d⟩] h K := by
  refine f16_fn ?_
  simp only [f16_T0]
  refine s_box hs fun h1 b hs1 => ?_
  have hs1' : Sep h1 (refR p M ns :: F) := hs1.tail
  have d0 : cellAt h1 b 0 = some (.int .i64 d.do_) := (hs1.at 0).cell 0
  have d1 : cellAt h1 b 1 = some (.int .i64 d.a) := (hs1.at 0).cell 1
  have d2 : cellAt h1 b 2 = some (.int .i64 d.b) := (hs1.at 0).cell 2
  have d3 : cellAt h1 b 3 = some (.string d.name) := (hs1.at 0).cell 3
  clear hs1
  have hb := pickI_bounds d.do_ 6 (by omega)
  simp -implicitDefEqProofs only [go_sem, Nat.zero_add, d0]
  refine pick_fn _ 6 (by omega) (by omega) _ _ ?_
  unfold namesM doM at hk
  cases e2 : decide (pickI d.do_ 6 = 2) with
  | true =>
    have h2 := of_decide_eq_true e2
    simp only [h2, if_true, show (2 : Int) < 4 from by decide, and_true] at hk
    simp -implicitDefEqProofs only [go_sem, Nat.zero_add, e2, d1, d3]
    refine rrename_fn hs1' hm hid hn hl fun h2 hs2 => ?_
    rw [f16_ret]
    exact hk h2 hs2
  | false =>
    have h2 := of_decide_eq_false e2
    simp only [h2, if_false] at hk
    cases e3 : decide (pickI d.do_ 6 = 3) with
    | true =>
      have h3 := of_decide_eq_true e3
      simp only [h3, if_true, show (3 : Int) < 4 from by decide, and_true] at hk
      simp -implicitDefEqProofs only [go_sem, Nat.zero_add, e2, e3, d1, d2, d3]
      refine rsplit_fn hs1' hm hD hn hl fun h2 hs2 => ?_
      simp only [go_sem]
      rw [f16_ret]
      exact hk h2 hs2
    | false =>
      have h3 := of_decide_eq_false e3
      simp only [h3, if_false] at hk
      cases e4 : decide (pickI d.do_ 6 = 4) with
      | true =>
        have h4 := of_decide_eq_true e4
        simp only [h4, if_true, show ¬ (4 : Int) < 4 from by decide, and_false, if_false] at hk
        simp -implicitDefEqProofs only [go_sem, Nat.zero_add, e2, e3, e4, d1, d2]
        refine rmerge_fn hs1' hm hD hid fun h2 hs2 => ?_
        rw [f16_ret]
        exact hk h2 hs2
      | false =>
        have h4 := of_decide_eq_false e4
        simp only [h4, if_false] at hk
        cases e5 : decide (pickI d.do_ 6 = 5) with
        | true =>
          have h5 := of_decide_eq_true e5
          simp only [h5, if_true, show ¬ (5 : Int) < 4 from by decide, and_false, if_false] at hk
          simp -implicitDefEqProofs only [go_sem, Nat.zero_add, e2, e3, e4, e5, d1, d3]
          refine rmove_fn hs1' hm hid fun h2 hs2 => ?_
          rw [f16_ret]
          exact hk h2 hs2
        | false =>
          have h5 := of_decide_eq_false e5
          simp only [h5, if_false, show pickI d.do_ 6 < 4 from by omega, and_true] at hk
          simp -implicitDefEqProofs only [go_sem, Nat.zero_add, e2, e3, e4, e5, d3]
          refine rcreate0_fn hs1' hm hn hl fun h2 hs2 => ?_
          simp only [go_sem]
          rw [f16_ret]
          exact hk h2 hs2
end
end Go.Proofs.Ytfooakkfoemdkaa

/- The reference: Reach. -/
namespace Go.Proofs.Ytfooakkfoemdkaa
open Go.Fw
section
variable {h : Heap} {K : Kont} {v : Value} {p : Nat} {M : Lin} {ns : List ByteArray} {F : List Res} {D : Nat} {V P : List Int} {vv : Value} {q : LPost}
set_option maxRecDepth 8000 in
theorem rhas_fn {l : List Int} {n : Int} (hv : RowsR (fun _ => True) h v 1 (l.map intRow)) (hl : l.length ≤ 4294967296) (hk : K (.bool (decide (n ∈ l))) h) : FnH Try.prog 47 #[v, .int .i64 n] h K := by
  refine f47_fn ?_
  simp only [f47_T0]
  refine LoopS.st (σ := Nat) (fun k => [v, .int .i64 n, .bool false, .int .i64 k]) (fun k h' => h' = h ∧ k ≤ l.length ∧ n ∉ l.take k) (fun k => l.length - k) 0 rfl ⟨rfl, Nat.zero_le _, by simp⟩ ?_
  rintro k h' ⟨rfl, hkl, hno⟩
  have hlv : ∀ K, oLen (some (.slice 3)) v K h' = K (.int .i64 l.length) h' := fun K => by rw [len_val hv, List.length_map]
  by_cases hlt : k < l.length
  · have hd : decide ((k : Int) < (l.length : Int)) = true := by simp; omega
    obtain ⟨b, o, hidx, hcell, _⟩ := elem_at (r := intRow l[k]) hv (k := k) (by simpa using hlt) (by simp) (by omega)
    have ec : cellAt h' b o = some (.int .i64 l[k]) := hcell 0 (by omega)
    cases de : decide (l[k] = n) with
    | true =>
      have : decide (n ∈ l) = true := by
        rw [decide_eq_true_eq, ← of_decide_eq_true de]
        exact List.getElem_mem hlt
      rw [this] at hk
      simp -implicitDefEqProofs only [f47_T5, go_sem, hlv, hd, hidx, ec, de]
      rw [f47_ret]
      exact hk
    | false =>
      have hk1 : (k : Int) + 1 = ((k + 1 : Nat) : Int) := rfl
      simp -implicitDefEqProofs (disch := omega) only [f47_T5, go_sem, hlv, hd, hidx, ec, de, bin_add_in, hk1]
      refine NextSt.mk (k + 1) rfl ⟨rfl, hlt, ?_⟩ (by omega)
      rw [List.take_succ_eq_append_getElem hlt, List.mem_append, List.mem_singleton]
      exact fun hh => hh.elim hno (fun e => of_decide_eq_false de e.symm)
  · have hd : decide ((k : Int) < (l.length : Int)) = false := by simp; omega
    rw [List.take_of_length_le (by omega)] at hno
    rw [decide_eq_false hno] at hk
    simp -implicitDefEqProofs only [f47_T5, go_sem, hlv, hd, f47_T2]
    rw [f47_ret]
    exact hk
/-- What the reference's loops read, in all heaps in which F lies. -/
structure RfV (F : List Res) (p : Nat) (M : Lin) (ns : List ByteArray) (V : List Int) (vv : Value) : Prop where
  hr : ∀ h, Sep h F → (refR p M ns).has h
  rv : ∀ h, Sep h F → RowsR (fun _ => True) h vv 1 (V.map intRow)
set_option maxRecDepth 8000 in
set_option maxHeartbeats 1000000 in
theorem rreach_round {a c : Int} {k i : Nat} {O : List Int} {v6 v7 : Value} (rf : RfV F p M ns V vv) (hm : Ok M D) (hD : D ≤ 1000) (hsp : SpOk M) (hk : k < M.splits.length) (hi : i < O.length) (hc : O[i] = c) (hOl : O.length ≤ 50) (hVl : V.length ≤ 4294967296)
    (hs : Sep h (vecR v7 3 1 (O.map intRow) :: F))
    (hno : ∀ h', Sep h' (vecR v7 3 1 (O.map intRow) :: F) → ¬ (M.splits[k].list = c ∧ partI M M.splits[k] ∉ V ∧ partI M M.splits[k] ∉ O) → q .normal [ptr p, .int .i64 a, vv, v6, v7, .int .i64 (i : Int), .int .i64 ((k + 1 : Nat) : Int)] h')
    (hyes : ∀ h' v7', Sep h' (vecR v7' 3 1 ((O ++ [partI M M.splits[k]]).map intRow) :: F) → M.splits[k].list = c → partI M M.splits[k] ∉ V → partI M M.splits[k] ∉ O → q .normal [ptr p, .int .i64 a, vv, v6, v7', .int .i64 (i : Int), .int .i64 ((k + 1 : Nat) : Int)] h') :
    f59_T13 q [ptr p, .int .i64 a, vv, v6, v7, .int .i64 (i : Int), .int .i64 (k : Int)] h := by
  have hml := hm.len
  have hspl := hm.spl
  have hF := hs.tail
  obtain ⟨va, vp, vn, rv⟩ := ref_view (rf.hr h hF)
  have c1 := rv.c1
  have hlv : ∀ K, oLen (some (.slice 73)) vp K h = K (.int .i64 M.splits.length) h := fun K => by rw [len_val rv.rp, List.length_map]
  have hdk : decide ((k : Int) < (M.splits.length : Int)) = true := by simp; omega
  have hk1 : (k : Int) + 1 = ((k + 1 : Nat) : Int) := rfl
  obtain ⟨j, hj, hjl⟩ := hsp M.splits[k] (List.getElem_mem hk)
  obtain ⟨nn, hnn, hg⟩ := hm.now hD hjl
  have hpart : partI M M.splits[k] = ((now M.lists j : Nat) : Int) + 1 := by
    unfold partI
    have e : (M.splits[k].new - 1).toNat = j := by omega
    rw [e]
  rw [hpart] at hno hyes
  obtain ⟨b, o, hidx, hcell, _⟩ := elem_at (r := splRow M.splits[k]) rv.rp (k := k) (by simpa using hk) (by simp) (by omega)
  have e0 : cellAt h b o = some (.int .i64 M.splits[k].list) := hcell 0 (by omega)
  have e1 : cellAt h b (o + 1) = some (.int .i64 M.splits[k].new) := hcell 1 (by omega)
  obtain ⟨b2, o2, hidx2, hcell2, _⟩ := elem_at (r := intRow O[i]) (hs.at 0).rows (k := i) (by simpa using hi) (by simp) (by omega)
  have e2 : cellAt h b2 o2 = some (.int .i64 c) := by rw [← hc]; exact hcell2 0 (by omega)
  rw [hj] at e1
  unfold ptr
  simp -implicitDefEqProofs only [f59_T13, go_sem, Nat.zero_add, c1, hlv, hdk, hidx, e1]
  refine rnow_fn (rf.hr h hF) hg (by omega) ?_
  generalize ((now M.lists j : Nat) : Int) + 1 = d at *
  unfold ptr at *
  cases dl : decide (M.splits[k].list = c) with
  | false =>
    simp -implicitDefEqProofs (disch := omega) only [go_sem, Nat.zero_add, Nat.add_zero, c1, hidx, e0, hidx2, e2, dl, f59_T14, bin_add_in, hk1]
    exact hno h hs (fun hh => of_decide_eq_false dl hh.1)
  | true =>
    simp -implicitDefEqProofs (disch := omega) only [go_sem, Nat.zero_add, Nat.add_zero, c1, hidx, e0, hidx2, e2, dl]
    refine rhas_fn (hs.at 0).rows (by omega) ?_
    cases dO : decide (d ∈ O) with
    | true =>
      simp -implicitDefEqProofs (disch := omega) only [go_sem, dl, f59_T14, bin_add_in, hk1]
      exact hno h hs (fun hh => hh.2.2 (of_decide_eq_true dO))
    | false =>
      simp -implicitDefEqProofs only [go_sem, dl]
      refine rhas_fn (rf.rv h hF) hVl ?_
      cases dV : decide (d ∈ V) with
      | true =>
        simp -implicitDefEqProofs (disch := omega) only [go_sem, dl, f59_T14, bin_add_in, hk1]
        exact hno h hs (fun hh => hh.2.1 (of_decide_eq_true dV))
      | false =>
        simp -implicitDefEqProofs only [go_sem, dl]
        refine s_append_one hs (row := intRow d) rfl (by omega) (by omega) (by omega) rfl rfl (by simp [intRow, go_sem]) (by simp only [List.length_map]; omega) fun v' h5 hs5 => ?_
        simp -implicitDefEqProofs (disch := omega) only [f59_T14, go_sem, bin_add_in, hk1]
        refine hyes h5 v' ?_ (of_decide_eq_true dl) (of_decide_eq_false dV) (of_decide_eq_false dO)
        rw [List.map_append, List.map_cons, List.map_nil]
        exact hs5
theorem Found.popF {a c : Int} {Fd W : List Int} (h : Found M V P a Fd (c :: W)) : FoundI M V P a c 0 Fd W := by
  refine ⟨h.mem, h.sub c (by simp), fun x hx => h.sub x (by simp [hx]), h.reach, h.nodup, h.known, fun x hx hne => ?_, by simp⟩
  rcases h.done x hx with h1 | h1
  · rw [List.mem_cons] at h1
    exact .inl (h1.resolve_left hne)
  · exact .inr h1
theorem Found.all_ {a : Int} {Fd : List Int} (h : Found M V P a Fd []) (x : Int) : x ∈ Fd ↔ Reach M V a x := by
  refine ⟨h.reach x, fun hr => ?_⟩
  induction hr with
  | refl => exact h.mem
  | tail _ hs hl hn ih =>
    rcases h.done _ ih with h1 | ⟨_, h1⟩
    · cases h1
    · exact h1 _ hs hl hn
structure ReO where
  i : Nat
  O : List Int
  v7 : Value
  v9 : Value
set_option maxRecDepth 8000 in
set_option maxHeartbeats 1000000 in
theorem rreach_fn {a : Int} (rf : RfV F p M ns V vv) (hm : Ok M D) (hD : D ≤ 1000) (hsp : SpOk M) (hVl : V.length ≤ 4294967296) (ha : known M a = true) (hs : Sep h F)
    (hk : ∀ h' v (R : List Int), Sep h' (vecR v 3 1 (R.map intRow) :: F) → (∀ x, x ∈ R ↔ Reach M V a x) → R.length ≤ 50 → K v h') : FnH Try.prog 59 #[ptr p, .int .i64 a, vv] h K := by
  have hml := hm.len
  refine f59_fn ?_
  simp only [f59_T0, go_sem]
  refine s_new1 hs (row := intRow a) rfl rfl (by simp [intRow, go_sem]) (by omega) fun h1 v1 hs1 => ?_
  refine LoopS.st (σ := ReO) (fun s => [ptr p, .int .i64 a, vv, .slice none 0 0, s.v7, .int .i64 s.i, s.v9]) (fun s h' => Sep h' (vecR s.v7 3 1 (s.O.map intRow) :: F) ∧ s.i ≤ s.O.length ∧ ∃ Fd, Found M V [] a Fd (s.O.drop s.i) ∧ Fd.Perm s.O)
    (fun s => M.lists.length - s.i) ⟨0, [a], v1, undef⟩ rfl ⟨hs1, by simp, [a], Found.start ha, List.Perm.refl _⟩ ?_
  rintro ⟨i, O, v7, v9⟩ h' ⟨hs', hi, Fd, hf, hp⟩
  simp only at hs' hi hf hp ⊢
  have hOl : O.length ≤ M.lists.length := by rw [← hp.length_eq]; exact hf.len
  have hlv : ∀ K, oLen (some (.slice 3)) v7 K h' = K (.int .i64 O.length) h' := fun K => by rw [len_val (hs'.at 0).rows, List.length_map]
  by_cases hil : i < O.length
  · have hd : decide ((i : Int) < (O.length : Int)) = true := by simp; omega
    simp -implicitDefEqProofs only [f59_T5, go_sem, hlv, hd, f59_T9]
    rw [List.drop_eq_getElem_cons hil] at hf
    refine LoopS.st (σ := ReO) (fun s => [ptr p, .int .i64 a, vv, .slice none 0 0, s.v7, .int .i64 (i : Int), .int .i64 s.i])
      (fun s h' => Sep h' (vecR s.v7 3 1 (s.O.map intRow) :: F) ∧ s.i ≤ M.splits.length ∧ i < s.O.length ∧ s.O[i]? = some O[i] ∧ ∃ Fd, FoundI M V [] a O[i] s.i Fd (s.O.drop (i + 1)) ∧ Fd.Perm s.O)
      (fun s => M.splits.length - s.i) ⟨0, O, v7, undef⟩ rfl ⟨hs', Nat.zero_le _, hil, List.getElem?_eq_getElem hil, Fd, hf.popF, hp⟩ ?_
    rintro ⟨k, O2, v72, _⟩ h2 ⟨hs2, hk2, hi2, hO2, Fd2, hf2, hp2⟩
    simp only at hs2 hk2 hi2 hO2 hf2 hp2 ⊢
    have hO2l : O2.length ≤ M.lists.length := by rw [← hp2.length_eq]; exact hf2.len
    by_cases hkl : k < M.splits.length
    · have hget : O2[i] = O[i] := by rw [List.getElem?_eq_getElem hi2] at hO2; exact Option.some.inj hO2
      refine rreach_round rf hm hD hsp hkl hi2 hget (by omega) hVl hs2 (fun h3 hs3 hno => ?_) (fun h3 v73 hs3 hl hn hO => ?_)
      · rw [thenL_normal]
        exact NextSt.mk ⟨k + 1, O2, v72, undef⟩ rfl ⟨hs3, hkl, hi2, hO2, Fd2, hf2.skip hkl (fun hh => hno ⟨hh.1, hh.2.1, fun hm => hh.2.2 (hp2.mem_iff.2 hm)⟩), hp2⟩ (by simp only; omega)
      · rw [thenL_normal]
        have hpush := hf2.push hm hD hsp hkl hl hn (fun hm => hO (hp2.mem_iff.1 hm))
        refine NextSt.mk ⟨k + 1, O2 ++ [partI M M.splits[k]], v73, undef⟩ rfl ⟨hs3, hkl, by simp; omega, ?_, partI M M.splits[k] :: Fd2, ?_, ?_⟩ (by simp only; omega)
        · simp only; rw [List.getElem?_append_left hi2]; exact hO2
        · simp only; rw [List.drop_append_of_le_length (by omega)]; exact hpush
        · simp only
          exact (List.Perm.cons _ hp2).trans (List.perm_append_comm (l₁ := [partI M M.splits[k]]))
    · obtain ⟨va, vp, vn, rv⟩ := ref_view (rf.hr h2 hs2.tail)
      have c1 := rv.c1
      have hlv2 : ∀ K, oLen (some (.slice 73)) vp K h2 = K (.int .i64 M.splits.length) h2 := fun K => by rw [len_val rv.rp, List.length_map]
      have hd2 : decide ((k : Int) < (M.splits.length : Int)) = false := by simp; omega
      have : k = M.splits.length := by omega
      subst this
      have hi1 : (i : Int) + 1 = ((i + 1 : Nat) : Int) := rfl
      unfold ptr
      simp -implicitDefEqProofs (disch := omega) only [f59_T13, go_sem, Nat.zero_add, c1, hlv2, hd2, f59_T7, bin_add_in, hi1]
      refine NextSt.mk ⟨i + 1, O2, v72, _⟩ rfl ⟨hs2, hi2, Fd2, hf2.all (by simp), hp2⟩ (by simp only; omega)
  · have hd : decide ((i : Int) < (O.length : Int)) = false := by simp; omega
    rw [List.drop_eq_nil_of_le (by omega)] at hf
    simp -implicitDefEqProofs only [f59_T5, go_sem, hlv, hd, f59_T2]
    rw [f59_ret]
    exact hk h' v7 O hs' (fun x => by rw [← hp.mem_iff]; exact hf.all_ x) (by omega)
end
end Go.Proofs.Ytfooakkfoemdkaa

/- The reference: next and Route. -/
namespace Go.Proofs.Ytfooakkfoemdkaa
open Go.Fw
open Classical in
noncomputable def nextA (M : Lin) (V P : List Int) (c : Int) : List Spl → Int
  | [] => 0
  | s :: l => if (s.list = c ∧ partI M s ∉ V) ∧ Meets M V P (partI M s) then partI M s else nextA M V P c l
def nextB (M : Lin) (V : List Int) (H : List Bool) (c : Int) : List Spl → Nat → Int
  | [], _ => 0
  | s :: l, k => if (s.list = c ∧ partI M s ∉ V) ∧ H[k]? = some true then partI M s else nextB M V H c l (k + 1)
section
variable {M : Lin} {V P : List Int} {H : List Bool} {c : Int} {s : Spl} {l : List Spl} {i : Nat} {held : Int}
theorem nextA_yes (h1 : s.list = c ∧ partI M s ∉ V) (h2 : Meets M V P (partI M s)) : nextA M V P c (s :: l) = partI M s := if_pos ⟨h1, h2⟩
theorem nextA_no (h : ¬ ((s.list = c ∧ partI M s ∉ V) ∧ Meets M V P (partI M s))) : nextA M V P c (s :: l) = nextA M V P c l := if_neg h
theorem nextB_yes (h1 : s.list = c ∧ partI M s ∉ V) (h2 : H[i]? = some true) : nextB M V H c (s :: l) i = partI M s := if_pos ⟨h1, h2⟩
theorem nextB_no (h : ¬ ((s.list = c ∧ partI M s ∉ V) ∧ H[i]? = some true)) : nextB M V H c (s :: l) i = nextB M V H c l (i + 1) := if_neg h
theorem stepGo_meet (h1 : s.list = c ∧ partI M s ∉ V) (h2 : Meets M V P (partI M s)) : stepGo M V P H c (s :: l) i held = partI M s := by
  unfold stepGo; rw [if_pos h1, if_pos h2]
theorem stepGo_go (h1 : s.list = c ∧ partI M s ∉ V) (h2 : ¬ Meets M V P (partI M s)) : stepGo M V P H c (s :: l) i held = stepGo M V P H c l (i + 1) (if held = 0 ∧ H[i]? = some true then partI M s else held) := by
  conv => lhs; unfold stepGo
  rw [if_pos h1, if_neg h2]
theorem stepGo_skip (h1 : ¬ (s.list = c ∧ partI M s ∉ V)) : stepGo M V P H c (s :: l) i held = stepGo M V P H c l (i + 1) held := by
  conv => lhs; unfold stepGo
  rw [if_neg h1]
end
theorem stepGo_next {M : Lin} {V P : List Int} {H : List Bool} {c : Int} : ∀ (l : List Spl) (i : Nat) (held : Int),
    stepGo M V P H c l i held = if nextA M V P c l ≠ 0 then nextA M V P c l else if c ∈ P then 0 else if held ≠ 0 then held else nextB M V H c l i
  | [], i, held => by
    unfold stepGo nextA nextB
    by_cases h : held = 0 <;> simp [h]
  | s :: l, i, held => by
    have hp := partI_pos M s
    have ih := fun i held => stepGo_next (M := M) (V := V) (P := P) (H := H) (c := c) l i held
    by_cases h1 : s.list = c ∧ partI M s ∉ V
    · by_cases h2 : Meets M V P (partI M s)
      · rw [stepGo_meet h1 h2, nextA_yes h1 h2, if_pos hp]
      · rw [stepGo_go h1 h2, nextA_no (fun h => h2 h.2), ih]
        by_cases h3 : nextA M V P c l ≠ 0
        · rw [if_pos h3, if_pos h3]
        · rw [if_neg h3, if_neg h3]
          by_cases h4 : c ∈ P
          · rw [if_pos h4, if_pos h4]
          · rw [if_neg h4, if_neg h4]
            by_cases h5 : held = 0
            · by_cases h6 : H[i]? = some true
              · rw [if_pos (⟨h5, h6⟩ : held = 0 ∧ H[i]? = some true), if_pos hp, if_neg (by simp [h5]), nextB_yes h1 h6]
              · rw [if_neg (fun h : held = 0 ∧ H[i]? = some true => h6 h.2), if_neg (by simp [h5]), if_neg (by simp [h5]), nextB_no (fun h => h6 h.2)]
            · rw [if_neg (fun h : held = 0 ∧ H[i]? = some true => h5 h.1), if_pos h5, if_pos h5]
    · rw [stepGo_skip h1, nextA_no (fun h => h1 h.1), nextB_no (fun h => h1 h.1), ih]
theorem stepI_next (M : Lin) (V P : List Int) (H : List Bool) (c : Int) : stepI M V P H c = if nextA M V P c M.splits ≠ 0 then nextA M V P c M.splits else if c ∈ P then 0 else nextB M V H c M.splits 0 := by
  unfold stepI
  rw [stepGo_next]
  simp
section
variable {h : Heap} {K : Kont} {v : Value} {p : Nat} {M : Lin} {ns : List ByteArray} {F : List Res} {D : Nat} {V P : List Int} {H : List Bool} {vv pv hv : Value} {q : LPost}
/-- The result of 'next', from the splits that are left. -/
noncomputable def nextI (M : Lin) (V P : List Int) (H : List Bool) (c : Int) (reply : Bool) (l : List Spl) (k : Nat) : Int := if reply = true then nextA M V P c l else nextB M V H c l k
structure NxS where
  k : Nat
  v14 : Value
  v15 : Value
  v16 : Value
set_option maxRecDepth 8000 in
set_option maxHeartbeats 2000000 in
theorem rnext_fn {c : Int} {reply : Bool} (rf : RfV F p M ns V vv) (hP : ∀ h', Sep h' F → RowsR (fun _ => True) h' pv 1 (P.map intRow)) (hH : ∀ h', Sep h' F → RowsR (fun _ => True) h' hv 1 (H.map boolRow))
    (hm : Ok M D) (hD : D ≤ 1000) (hsp : SpOk M) (hVl : V.length ≤ 4294967296) (hPl : P.length ≤ 4294967296) (hs : Sep h F) (hk : ∀ h', Sep h' F → K (.int .i64 (nextI M V P H c reply M.splits 0)) h') :
    FnH Try.prog 46 #[ptr p, .int .i64 c, vv, pv, hv, .bool reply] h K := by
  have hml := hm.len
  have hspl := hm.spl
  refine f46_fn ?_
  simp only [f46_T0]
  refine LoopS.st (σ := NxS) (fun s => [ptr p, .int .i64 c, vv, pv, hv, .bool reply, .int .i64 0, .int .i64 s.k, s.v14, s.v15, s.v16])
    (fun s h' => Sep h' F ∧ s.k ≤ M.splits.length ∧ nextI M V P H c reply M.splits 0 = nextI M V P H c reply (M.splits.drop s.k) s.k) (fun s => M.splits.length - s.k) ⟨0, undef, undef, undef⟩ rfl ⟨hs, Nat.zero_le _, rfl⟩ ?_
  rintro ⟨k, v14, v15, v16⟩ h' ⟨hs', hkl, he⟩
  simp only at hs' hkl he ⊢
  obtain ⟨va, vp, vn, rv⟩ := ref_view (rf.hr h' hs')
  have c1 := rv.c1
  have hlv : ∀ K, oLen (some (.slice 73)) vp K h' = K (.int .i64 M.splits.length) h' := fun K => by rw [len_val rv.rp, List.length_map]
  have hpt : ptr p = .pointer (some ⟨p, 0, none⟩) := rfl
  by_cases hlt : k < M.splits.length
  · have hdk : decide ((k : Int) < (M.splits.length : Int)) = true := by simp; omega
    have hk1 : (k : Int) + 1 = ((k + 1 : Nat) : Int) := rfl
    obtain ⟨j, hj, hjl⟩ := hsp M.splits[k] (List.getElem_mem hlt)
    obtain ⟨nn, hnn, hg⟩ := hm.now hD hjl
    have hknown : known M (partI M M.splits[k]) = true := part_known hm hD hsp (List.getElem_mem hlt)
    have hpart : partI M M.splits[k] = ((now M.lists j : Nat) : Int) + 1 := by
      unfold partI
      have e : (M.splits[k].new - 1).toNat = j := by omega
      rw [e]
    obtain ⟨b, o, hidx, hcell, _⟩ := elem_at (r := splRow M.splits[k]) rv.rp (k := k) (by simpa using hlt) (by simp) (by omega)
    have e0 : cellAt h' b o = some (.int .i64 M.splits[k].list) := hcell 0 (by omega)
    have e1 : cellAt h' b (o + 1) = some (.int .i64 M.splits[k].new) := hcell 1 (by omega)
    rw [hj] at e1
    rw [List.drop_eq_getElem_cons hlt] at he
    simp -implicitDefEqProofs only [f46_T5, go_sem, hpt, Nat.zero_add, c1, hlv, hdk, f46_T9, hidx, e1]
    refine rnow_fn (rf.hr h' hs') hg (by omega) ?_
    rw [← hpart]
    generalize hd : partI M M.splits[k] = d at *
    have hnext : ∀ h2 w14 w15 w16, Sep h2 F → nextI M V P H c reply M.splits 0 = nextI M V P H c reply (M.splits.drop (k + 1)) (k + 1) →
        NextSt (fun s : NxS => [ptr p, .int .i64 c, vv, pv, hv, .bool reply, .int .i64 0, .int .i64 s.k, s.v14, s.v15, s.v16]) (fun s h' => Sep h' F ∧ s.k ≤ M.splits.length ∧ nextI M V P H c reply M.splits 0 = nextI M V P H c reply (M.splits.drop s.k) s.k) (fun s => M.splits.length - s.k) ⟨k, v14, v15, v16⟩
          [ptr p, .int .i64 c, vv, pv, hv, .bool reply, .int .i64 0, .int .i64 ((k + 1 : Nat) : Int), w14, w15, w16] h2 :=
      fun h2 w14 w15 w16 hs2 he2 => NextSt.mk ⟨k + 1, w14, w15, w16⟩ rfl ⟨hs2, hlt, he2⟩ (by simp only; omega)
    have hskip : (¬ (M.splits[k].list = c ∧ d ∉ V)) → nextI M V P H c reply M.splits 0 = nextI M V P H c reply (M.splits.drop (k + 1)) (k + 1) := fun hno => by
      rw [he]
      unfold nextI
      rw [nextA_no (fun h => hno (hd ▸ h.1)), nextB_no (fun h => hno (hd ▸ h.1))]
    unfold ptr at hnext ⊢
    cases dl : decide (M.splits[k].list = c) with
    | false =>
      simp -implicitDefEqProofs (disch := omega) only [go_sem, Nat.zero_add, Nat.add_zero, c1, hidx, e0, dl, f46_T7, bin_add_in, hk1]
      exact hnext h' _ _ _ hs' (hskip (fun hh => of_decide_eq_false dl hh.1))
    | true =>
      simp -implicitDefEqProofs (disch := omega) only [go_sem, Nat.zero_add, Nat.add_zero, c1, hidx, e0, dl]
      refine rhas_fn (rf.rv h' hs') hVl ?_
      cases dV : decide (d ∈ V) with
      | true =>
        simp -implicitDefEqProofs (disch := omega) only [go_sem, dl, dV, f46_T7, bin_add_in, hk1]
        exact hnext h' _ _ _ hs' (hskip (fun hh => hh.2 (of_decide_eq_true dV)))
      | false =>
        have h1 : M.splits[k].list = c ∧ partI M M.splits[k] ∉ V := ⟨of_decide_eq_true dl, by rw [hd]; exact of_decide_eq_false dV⟩
        cases reply with
        | false =>
          have hlh : ∀ K, oLen (some (.slice 4)) hv K h' = K (.int .i64 H.length) h' := fun K => by rw [len_val (hH h' hs'), List.length_map]
          cases dk : decide ((k : Int) < (H.length : Int)) with
          | false =>
            have hnone : H[k]? = none := List.getElem?_eq_none (by have := of_decide_eq_false dk; omega)
            simp -implicitDefEqProofs (disch := omega) only [go_sem, dl, dV, hlh, dk, f46_T7, bin_add_in, hk1]
            refine hnext h' _ _ _ hs' ?_
            rw [he]
            unfold nextI
            rw [nextB_no (fun h => by rw [hnone] at h; cases h.2)]
            rfl
          | true =>
            have hltH : k < H.length := by have := of_decide_eq_true dk; omega
            obtain ⟨b, o, hidx2, hcell2, _⟩ := elem_at (r := boolRow H[k]) (hH h' hs') (k := k) (by simpa using hltH) (by simp) (by omega)
            have eh : cellAt h' b o = some (.bool H[k]) := hcell2 0 (by omega)
            have hsome : H[k]? = some H[k] := List.getElem?_eq_getElem hltH
            cases db : H[k] with
            | false =>
              rw [db] at eh hsome
              simp -implicitDefEqProofs (disch := omega) only [go_sem, dl, dV, hlh, dk, hidx2, eh, f46_T7, bin_add_in, hk1]
              refine hnext h' _ _ _ hs' ?_
              rw [he]
              unfold nextI
              rw [nextB_no (fun h => by rw [hsome] at h; cases h.2)]
              rfl
            | true =>
              rw [db] at eh hsome
              simp -implicitDefEqProofs (disch := omega) only [go_sem, dl, dV, hlh, dk, hidx2, eh]
              have hres : nextI M V P H c false M.splits 0 = d := by
                rw [he]
                unfold nextI
                rw [nextB_yes h1 hsome, hd]
                rfl
              rw [hres] at hk
              show retL Try.prog f46_L Try.f46.results.toList K .ret _ h'
              rw [f46_ret]
              exact hk h' hs'
        | true =>
          simp -implicitDefEqProofs (disch := omega) only [go_sem, dl, dV]
          refine rreach_fn rf hm hD hsp hVl hknown hs' fun h2 v R hs2 hR hRl => ?_
          refine LoopS.st (σ := Nat) (fun i => [.pointer (some ⟨p, 0, none⟩), .int .i64 c, vv, pv, hv, .bool true, .int .i64 0, .int .i64 (k : Int), .int .i64 d, v, .int .i64 i]) (fun i h' => Sep h' (vecR v 3 1 (R.map intRow) :: F) ∧ i ≤ R.length ∧ ∀ x ∈ R.take i, x ∉ P) (fun i => R.length - i) 0 rfl ⟨hs2, Nat.zero_le _, by simp⟩ ?_
          rintro i h3 ⟨hs3, hi, hno⟩
          have hlr : ∀ K, oLen (some (.slice 3)) v K h3 = K (.int .i64 R.length) h3 := fun K => by rw [len_val (hs3.at 0).rows, List.length_map]
          by_cases hil : i < R.length
          · have hd2 : decide ((i : Int) < (R.length : Int)) = true := by simp; omega
            obtain ⟨b3, o3, hidx3, hcell3, _⟩ := elem_at (r := intRow R[i]) (hs3.at 0).rows (k := i) (by simpa using hil) (by simp) (by omega)
            have er : cellAt h3 b3 o3 = some (.int .i64 R[i]) := hcell3 0 (by omega)
            simp -implicitDefEqProofs (disch := omega) only [f46_T13, go_sem, hlr, hd2, hidx3, er]
            refine rhas_fn (hP h3 hs3.tail) hPl ?_
            cases dP : decide (R[i] ∈ P) with
            | true =>
              simp -implicitDefEqProofs only [go_sem, dP]
              have hres : nextI M V P H c true M.splits 0 = d := by
                rw [he]
                unfold nextI
                rw [nextA_yes h1 ⟨R[i], by rw [hd]; exact (hR _).1 (List.getElem_mem hil), of_decide_eq_true dP⟩, hd]
                rfl
              rw [hres] at hk
              show retL Try.prog f46_L Try.f46.results.toList K .ret _ h3
              rw [f46_ret]
              exact hk h3 hs3.tail
            | false =>
              have hi1 : (i : Int) + 1 = ((i + 1 : Nat) : Int) := rfl
              simp -implicitDefEqProofs (disch := omega) only [go_sem, dP, bin_add_in, hi1]
              refine NextSt.mk (i + 1) rfl ⟨hs3, hil, fun x hx => ?_⟩ (by omega)
              rw [List.take_succ_eq_append_getElem hil, List.mem_append, List.mem_singleton] at hx
              rcases hx with hx | rfl
              · exact hno x hx
              · exact of_decide_eq_false dP
          · have hd2 : decide ((i : Int) < (R.length : Int)) = false := by simp; omega
            rw [List.take_of_length_le (by omega)] at hno
            simp -implicitDefEqProofs (disch := omega) only [f46_T13, go_sem, hlr, hd2, f46_T7, bin_add_in, hk1]
            refine hnext h3 _ _ _ hs3.tail ?_
            rw [he]
            unfold nextI
            rw [nextA_no (fun h => ?_)]
            · rfl
            · obtain ⟨x, hx, hxP⟩ := h.2
              rw [hd] at hx
              exact hno x ((hR x).2 hx) hxP
  · have hdk : decide ((k : Int) < (M.splits.length : Int)) = false := by simp; omega
    rw [List.drop_eq_nil_of_le (by omega)] at he
    have h0 : nextI M V P H c reply M.splits 0 = 0 := by
      rw [he]; unfold nextI; split <;> rfl
    rw [h0] at hk
    simp -implicitDefEqProofs only [f46_T5, go_sem, hpt, Nat.zero_add, c1, hlv, hdk, f46_T2]
    rw [f46_ret]
    exact hk h' hs'
end
end Go.Proofs.Ytfooakkfoemdkaa

/- The reference: Route. -/
namespace Go.Proofs.Ytfooakkfoemdkaa
open Go.Fw
section
variable {h : Heap} {K : Kont} {v : Value} {p : Nat} {M : Lin} {ns : List ByteArray} {F : List Res} {D : Nat} {V P : List Int} {H : List Bool} {vv pv hv : Value} {q : LPost}
theorem nextI_mem {c : Int} {V P : List Int} {H : List Bool} (h : stepI M V P H c ≠ 0) : known M (stepI M V P H c) = true → stepI M V P H c ∉ V := by
  intro _
  obtain ⟨s, hs, he, hn⟩ := stepI_mem h
  rw [he]; exact hn
structure RrS where
  V : List Int
  c : Int
  v10 : Value
  v11 : Value
set_option maxRecDepth 8000 in
set_option maxHeartbeats 2000000 in
theorem rroute_fn {n : Int} (hs : Sep h (refR p M ns :: F)) (hm : Ok M D) (hD : D ≤ 1000) (hsp : SpOk M) (hP : ∀ h', Sep h' F → RowsR (fun _ => True) h' pv 1 (P.map intRow)) (hH : ∀ h', Sep h' F → RowsR (fun _ => True) h' hv 1 (H.map boolRow)) (hPl : P.length ≤ 4294967296)
    (h0 : known M n = false → ∀ h', Sep h' (refR p M ns :: F) → K (.int .i64 0) h') (h1 : known M n = true → ∀ r, RouteTo M P H [((now M.lists (n - 1).toNat : Nat) : Int) + 1] (((now M.lists (n - 1).toNat : Nat) : Int) + 1) r → ∀ h', Sep h' (refR p M ns :: F) → K (.int .i64 r) h') :
    FnH Try.prog 27 #[ptr p, .int .i64 n, pv, hv] h K := by
  have hml := hm.len
  refine f27_fn ?_
  simp only [f27_T0, go_sem]
  refine rnow_fnM (hs.at 0) hm hD ?_
  simp -implicitDefEqProofs only [go_sem]
  refine s_new1 hs (row := intRow (nowI M n)) rfl rfl (by simp [intRow, go_sem]) (by omega) fun h2 v2 hs2 => ?_
  unfold nowI at hs2 ⊢
  cases hk : known M n with
  | false =>
    rw [hk] at hs2
    simp only [Bool.false_eq_true, if_false] at hs2 ⊢
    refine LoopS.st (σ := Unit) (fun _ => [ptr p, .int .i64 n, pv, hv, .int .i64 0, .int .i64 0, v2, undef]) (fun _ h' => Sep h' (refR p M ns :: F)) (fun _ => 0) () rfl hs2.tail ?_
    rintro _ h' hs'
    have d : decide ((0 : Int) < 0) = false := by decide
    simp -implicitDefEqProofs only [f27_T5, go_sem, d, f27_T2]
    rw [f27_ret]
    exact h0 hk h' hs'
  | true =>
    obtain ⟨k, rfl, hlt⟩ := known_ex hk
    have hnk := now_known hm hD hlt
    have h1 := h1 hk
    have e : ((k : Int) + 1 - 1).toNat = k := by omega
    rw [hk] at hs2
    simp only [if_true, e] at h1 hs2 ⊢
    generalize ((now M.lists k : Nat) : Int) + 1 = c0 at *
    refine LoopS.st (σ := RrS) (fun s => [ptr p, .int .i64 ((k : Int) + 1), pv, hv, .int .i64 0, .int .i64 s.c, s.v10, s.v11])
      (fun s h' => Sep h' (vecR s.v10 3 1 (s.V.map intRow) :: refR p M ns :: F) ∧ s.V.Nodup ∧ (∀ x ∈ s.V, known M x = true) ∧ known M s.c = true ∧ ∀ x, RouteTo M P H s.V s.c x → RouteTo M P H [c0] c0 x)
      (fun s => M.lists.length - s.V.length) ⟨[c0], c0, v2, undef⟩ rfl ⟨hs2, by simp, by simpa using hnk, hnk, fun x hx => hx⟩ ?_
    rintro ⟨V, c, v10, v11⟩ h3 ⟨hs3, hnd, hkn, hkc, hR⟩
    simp only at hs3 hnd hkn hkc hR ⊢
    have hVl := known_range (n := M.lists.length) hnd fun x hx => known_iff.1 (hkn x hx)
    have hc0 : 1 ≤ c := (known_iff.1 hkc).1
    have d : decide ((0 : Int) < c) = true := by rw [decide_eq_true_eq]; omega
    have rf : RfV (vecR v10 3 1 (V.map intRow) :: refR p M ns :: F) p M ns V v10 := ⟨fun h hs => hs.at 1, fun h hs => (hs.at 0).rows⟩
    have hP' : ∀ h', Sep h' (vecR v10 3 1 (V.map intRow) :: refR p M ns :: F) → RowsR (fun _ => True) h' pv 1 (P.map intRow) := fun h' hs => hP h' hs.tail.tail
    have hH' : ∀ h', Sep h' (vecR v10 3 1 (V.map intRow) :: refR p M ns :: F) → RowsR (fun _ => True) h' hv 1 (H.map boolRow) := fun h' hs => hH h' hs.tail.tail
    have hstep := stepI_next M V P H c
    have hstop : stepI M V P H c = 0 → ∀ h4, Sep h4 (vecR v10 3 1 (V.map intRow) :: refR p M ns :: F) → K (.int .i64 c) h4 := fun hz h4 hs4 => h1 c (hR c (.stop hz)) h4 hs4.tail
    have hgo : ∀ h4 n, Sep h4 (vecR v10 3 1 (V.map intRow) :: refR p M ns :: F) → stepI M V P H c = n → n ≠ 0 →
        f27_T9 (thenL (NextSt (fun s : RrS => [ptr p, .int .i64 ((k : Int) + 1), pv, hv, .int .i64 0, .int .i64 s.c, s.v10, s.v11])
          (fun s h' => Sep h' (vecR s.v10 3 1 (s.V.map intRow) :: refR p M ns :: F) ∧ s.V.Nodup ∧ (∀ x ∈ s.V, known M x = true) ∧ known M s.c = true ∧ ∀ x, RouteTo M P H s.V s.c x → RouteTo M P H [c0] c0 x)
          (fun s => M.lists.length - s.V.length) ⟨V, c, v10, v11⟩) (inBL 0 (thenL (f27_T2 (retL Try.prog f27_L Try.f27.results.toList K)) (retL Try.prog f27_L Try.f27.results.toList K))))
          [ptr p, .int .i64 ((k : Int) + 1), pv, hv, .int .i64 0, .int .i64 c, v10, .int .i64 n] h4 := by
      intro h4 n hs4 hn hne
      have dn : decide (n = 0) = false := by simpa using hne
      simp -implicitDefEqProofs only [f27_T9, go_sem, dn]
      obtain ⟨s, hsm, hps, hpv⟩ := stepI_mem (by rw [hn]; exact hne)
      rw [hn] at hps
      refine s_append_one hs4 (row := intRow n) rfl (by omega) (by omega) (by omega) rfl rfl (by simp [intRow, go_sem]) (by simp only [List.length_map]; omega) fun v5 h5 hs5 => ?_
      have hnk2 : known M n = true := by rw [hps]; exact part_known hm hD hsp hsm
      have hnd' : (V ++ [n]).Nodup := by
        rw [List.nodup_append]
        refine ⟨hnd, by simp, fun a ha b hb e => ?_⟩
        rw [List.mem_singleton] at hb
        rw [e, hb, hps] at ha
        exact hpv ha
      have hkn' : ∀ x ∈ V ++ [n], known M x = true := fun x hx => by
        rcases List.mem_append.1 hx with hx | hx
        · exact hkn x hx
        · rw [List.mem_singleton] at hx; rw [hx]; exact hnk2
      have hle := known_range (n := M.lists.length) hnd' fun x hx => known_iff.1 (hkn' x hx)
      simp -implicitDefEqProofs only [go_sem]
      refine NextSt.mk ⟨V ++ [n], n, v5, .int .i64 n⟩ rfl ⟨by simpa [intRow] using hs5, hnd', hkn', hnk2, fun x hx => hR x (.go hn hne hx)⟩ ?_
      simp only [List.length_append, List.length_singleton] at hle ⊢
      omega
    simp -implicitDefEqProofs only [f27_T5, go_sem, d, f27_T8]
    refine rnext_fn rf hP' hH' hm hD hsp (by omega) hPl hs3 fun h4 hs4 => ?_
    have hA : nextI M V P H c true M.splits 0 = nextA M V P c M.splits := by unfold nextI; rfl
    rw [hA]
    cases dA : decide (nextA M V P c M.splits = 0) with
    | false =>
      have hne := of_decide_eq_false dA
      rw [if_pos hne] at hstep
      simp -implicitDefEqProofs only [go_sem, dA]
      exact hgo h4 _ hs4 hstep hne
    | true =>
      have hz := of_decide_eq_true dA
      rw [if_neg (by simpa using hz)] at hstep
      simp -implicitDefEqProofs only [go_sem, dA]
      refine rhas_fn (hP' h4 hs4) hPl ?_
      cases dP : decide (c ∈ P) with
      | true =>
        rw [if_pos (of_decide_eq_true dP)] at hstep
        simp -implicitDefEqProofs only [go_sem, dA, dP, f27_T9]
        show retL Try.prog f27_L Try.f27.results.toList K .ret _ h4
        rw [f27_ret]
        exact hstop hstep h4 hs4
      | false =>
        rw [if_neg (of_decide_eq_false dP)] at hstep
        simp -implicitDefEqProofs only [go_sem, dA, dP]
        refine rnext_fn rf hP' hH' hm hD hsp (by omega) hPl hs4 fun h5 hs5 => ?_
        have hB : nextI M V P H c false M.splits 0 = nextB M V H c M.splits 0 := by unfold nextI; rfl
        rw [hB]
        cases dB : decide (nextB M V H c M.splits 0 = 0) with
        | false => exact hgo h5 _ hs5 hstep (of_decide_eq_false dB)
        | true =>
          simp -implicitDefEqProofs only [go_sem, dB, f27_T9]
          show retL Try.prog f27_L Try.f27.results.toList K .ret _ h5
          rw [f27_ret]
          exact hstop (hstep.trans (of_decide_eq_true dB)) h5 hs5
end
end Go.Proofs.Ytfooakkfoemdkaa

/- Comparing lists, splits and names; Splits; what the statement may take in any order. -/
namespace Go.Proofs.Ytfooakkfoemdkaa
open Go.Fw
theorem lst_eq (x y : Lst) : cellsEq ⟨lstRow x⟩ ⟨lstRow y⟩ [(0, .int .i64), (1, .int .i64), (2, .int .i64), (3, .string), (4, .string)] = some (decide (x = y)) := by
  obtain ⟨a1, a2, a3, a4, a5⟩ := x
  obtain ⟨b1, b2, b3, b4, b5⟩ := y
  simp only [cellsEq, lstRow, cellEq, List.getElem?_toArray, List.getElem?_cons_zero, List.getElem?_cons_succ, if_true, Lst.mk.injEq, Bool.and_true]
  congr 1
  rw [Bool.eq_iff_iff]
  simp
theorem spl_eq (x y : Spl) : cellsEq ⟨splRow x⟩ ⟨splRow y⟩ [(0, .int .i64), (1, .int .i64), (2, .int .i64), (3, .string)] = some (decide (x = y)) := by
  obtain ⟨a1, a2, a3, a4⟩ := x
  obtain ⟨b1, b2, b3, b4⟩ := y
  simp only [cellsEq, splRow, cellEq, List.getElem?_toArray, List.getElem?_cons_zero, List.getElem?_cons_succ, if_true, Spl.mk.injEq, Bool.and_true]
  congr 1
  rw [Bool.eq_iff_iff]
  simp
section
variable {h : Heap} {K : Kont} {v v' : Value} {p : Nat} {M : Lin} {F : List Res} {D : Nat}
set_option maxRecDepth 8000 in
theorem lists_eq {l : List Lst} (hv : RowsR (fun _ => True) h v 5 (l.map lstRow)) (hv' : RowsR (fun _ => True) h v' 5 (l.map lstRow)) (hl : l.length ≤ 4294967296) (hk : K (.bool true) h) : FnH Try.prog 17 #[v, v'] h K := by
  refine f17_fn ?_
  have l1 : ∀ K, oLen (some (.slice 38)) v K h = K (.int .i64 l.length) h := fun K => by rw [len_val hv, List.length_map]
  have l2 : ∀ K, oLen (some (.slice 38)) v' K h = K (.int .i64 l.length) h := fun K => by rw [len_val hv', List.length_map]
  simp -implicitDefEqProofs only [f17_T0, go_sem, l1, l2, decide_true]
  refine LoopS.st (σ := Nat) (fun k => [v, v', .bool false, .int .i64 k]) (fun k h' => h' = h ∧ k ≤ l.length) (fun k => l.length - k) 0 rfl ⟨rfl, Nat.zero_le _⟩ ?_
  rintro k h' ⟨rfl, hkl⟩
  by_cases hlt : k < l.length
  · have hd : decide ((k : Int) < (l.length : Int)) = true := by simp; omega
    obtain ⟨b, o, hidx, _, hload⟩ := elem_at (r := lstRow l[k]) hv (k := k) (by simpa using hlt) (by simp) (by omega)
    obtain ⟨b2, o2, hidx2, _, hload2⟩ := elem_at (r := lstRow l[k]) hv' (k := k) (by simpa using hlt) (by simp) (by omega)
    have hk1 : (k : Int) + 1 = ((k + 1 : Nat) : Int) := rfl
    have heq := lst_eq l[k] l[k]
    rw [decide_eq_true rfl] at heq
    simp -implicitDefEqProofs (disch := omega) only [f17_T5, go_sem, l1, hd, hidx, hload, hidx2, hload2, struct_neq heq, bin_add_in, hk1]
    exact NextSt.mk (k + 1) rfl ⟨rfl, hlt⟩ (by omega)
  · have hd : decide ((k : Int) < (l.length : Int)) = false := by simp; omega
    simp -implicitDefEqProofs only [f17_T5, go_sem, l1, hd, f17_T2]
    rw [f17_ret]
    exact hk
set_option maxRecDepth 8000 in
theorem splits_eq {l : List Spl} (hv : RowsR (fun _ => True) h v 4 (l.map splRow)) (hv' : RowsR (fun _ => True) h v' 4 (l.map splRow)) (hl : l.length ≤ 4294967296) (hk : K (.bool true) h) : FnH Try.prog 18 #[v, v'] h K := by
  refine f18_fn ?_
  have l1 : ∀ K, oLen (some (.slice 73)) v K h = K (.int .i64 l.length) h := fun K => by rw [len_val hv, List.length_map]
  have l2 : ∀ K, oLen (some (.slice 73)) v' K h = K (.int .i64 l.length) h := fun K => by rw [len_val hv', List.length_map]
  simp -implicitDefEqProofs only [f18_T0, go_sem, l1, l2, decide_true]
  refine LoopS.st (σ := Nat) (fun k => [v, v', .bool false, .int .i64 k]) (fun k h' => h' = h ∧ k ≤ l.length) (fun k => l.length - k) 0 rfl ⟨rfl, Nat.zero_le _⟩ ?_
  rintro k h' ⟨rfl, hkl⟩
  by_cases hlt : k < l.length
  · have hd : decide ((k : Int) < (l.length : Int)) = true := by simp; omega
    obtain ⟨b, o, hidx, _, hload⟩ := elem_at (r := splRow l[k]) hv (k := k) (by simpa using hlt) (by simp) (by omega)
    obtain ⟨b2, o2, hidx2, _, hload2⟩ := elem_at (r := splRow l[k]) hv' (k := k) (by simpa using hlt) (by simp) (by omega)
    have hk1 : (k : Int) + 1 = ((k + 1 : Nat) : Int) := rfl
    have heq := spl_eq l[k] l[k]
    rw [decide_eq_true rfl] at heq
    simp -implicitDefEqProofs (disch := omega) only [f18_T5, go_sem, l1, hd, hidx, hload, hidx2, hload2, struct_neq heq, bin_add_in, hk1]
    exact NextSt.mk (k + 1) rfl ⟨rfl, hlt⟩ (by omega)
  · have hd : decide ((k : Int) < (l.length : Int)) = false := by simp; omega
    simp -implicitDefEqProofs only [f18_T5, go_sem, l1, hd, f18_T2]
    rw [f18_ret]
    exact hk
set_option maxRecDepth 8000 in
theorem strings_eq {l : List ByteArray} (hv : RowsR (fun _ => True) h v 1 (l.map strRow)) (hv' : RowsR (fun _ => True) h v' 1 (l.map strRow)) (hl : l.length ≤ 4294967296) (hk : K (.bool true) h) : FnH Try.prog 24 #[v, v'] h K := by
  refine f24_fn ?_
  have l1 : ∀ K, oLen (some (.slice 9)) v K h = K (.int .i64 l.length) h := fun K => by rw [len_val hv, List.length_map]
  have l2 : ∀ K, oLen (some (.slice 9)) v' K h = K (.int .i64 l.length) h := fun K => by rw [len_val hv', List.length_map]
  simp -implicitDefEqProofs only [f24_T0, go_sem, l1, l2, decide_true]
  refine LoopS.st (σ := Nat) (fun k => [v, v', .bool false, .int .i64 k]) (fun k h' => h' = h ∧ k ≤ l.length) (fun k => l.length - k) 0 rfl ⟨rfl, Nat.zero_le _⟩ ?_
  rintro k h' ⟨rfl, hkl⟩
  by_cases hlt : k < l.length
  · have hd : decide ((k : Int) < (l.length : Int)) = true := by simp; omega
    obtain ⟨b, o, hidx, hc, _⟩ := elem_at (r := strRow l[k]) hv (k := k) (by simpa using hlt) (by simp) (by omega)
    obtain ⟨b2, o2, hidx2, hc2, _⟩ := elem_at (r := strRow l[k]) hv' (k := k) (by simpa using hlt) (by simp) (by omega)
    have ec : cellAt h' b o = some (.string l[k]) := hc 0 (by omega)
    have ec2 : cellAt h' b2 o2 = some (.string l[k]) := hc2 0 (by omega)
    have hk1 : (k : Int) + 1 = ((k + 1 : Nat) : Int) := rfl
    simp -implicitDefEqProofs (disch := omega) only [f24_T5, go_sem, l1, hd, hidx, ec, hidx2, ec2, decide_true, bin_add_in, hk1]
    exact NextSt.mk (k + 1) rfl ⟨rfl, hlt⟩ (by omega)
  · have hd : decide ((k : Int) < (l.length : Int)) = false := by simp; omega
    simp -implicitDefEqProofs only [f24_T5, go_sem, l1, hd, f24_T2]
    rw [f24_ret]
    exact hk
theorem cloneS_new {al : List Spl} {S : Nat → Prop} (hr : RowsR S h v 4 (al.map splRow)) (hl : al.length ≤ 4294967296) : FnNew Try.prog 41 #[v] h (fun v' Rs => Rs = [vecR v' 73 4 (al.map splRow)]) := by
  refine FnNew.mk (f41_fn ?_)
  obtain ⟨sa, cap, rfl⟩ := hr.val
  simp only [f41_T0, go_sem]
  cases sa with
  | none =>
    simp only [Option.isNone, go_sem, f41_ret]
    have : al = [] := by
      obtain ⟨a', c', h1, h2, h3, h4⟩ := hr
      simp only [Value.slice.injEq] at h1
      obtain ⟨rfl, _, _⟩ := h1
      cases al with
      | nil => rfl
      | cons x r => obtain ⟨b, o, h5, _⟩ := h4 (by simp); cases h5
    subst this
    exact ⟨[vecR (.slice none 0 0) 73 4 (([] : List Spl).map splRow)], rfl, (frozen_self h).nilVec⟩
  | some ad =>
    simp only [Option.isNone, go_sem]
    rw [build_slice_0]
    have hs := (frozen_self h).newVec (rows := []) (e := 73) (sz := 4) (n := 0) rfl (by simp) (by simp)
    simp only [go_sem]
    refine s_append (S := S) hs (news := al.map splRow) rfl (by omega) (by omega) ?_ (by simp [splRow, go_sem]) (by simp only [List.length_nil, List.length_map]; omega) fun v' h' hs => ?_
    · exact hr.turn (by omega) (Turn.push ..)
    · rw [f41_ret]
      exact ⟨[vecR v' 73 4 (al.map splRow)], rfl, hs⟩
set_option maxRecDepth 8000 in
theorem splits_new (hr : (linR p M).has h) (hl : M.splits.length ≤ 4294967296) : FnNew Try.prog 19 #[ptr p] h (fun v' Rs => Rs = [vecR v' 73 4 (M.splits.map splRow)]) := by
  refine FnNew.mk (f19_fn ?_)
  obtain ⟨vl, vs, bo, _, c1, _, _, hv, _⟩ := lin_view hr
  unfold ptr
  simp only [f19_T0, go_sem, Nat.zero_add, c1]
  refine (cloneS_new hv hl).use (frozen_self h) fun h' v Rs hRs _ hs => ?_
  rw [f19_ret]
  exact ⟨Rs, hRs, hs⟩
end
def listsNew (args : List Value) (h : Heap) (R : Value → Heap → Prop) : Prop := ∃ (p : Nat) (M : Lin), args = [ptr p] ∧ (linR p M).has h ∧ M.lists.length ≤ 4294967296 ∧
  R = fun v h' => Turn h h' (fun _ => False) ∧ ∃ Rs, Rs = [lstsR v M.lists] ∧ ∃ S', (starL Rs).on h' S' ∧ ∀ b, S' b → h.size ≤ b
def splitsNew (args : List Value) (h : Heap) (R : Value → Heap → Prop) : Prop := ∃ (p : Nat) (M : Lin), args = [ptr p] ∧ (linR p M).has h ∧ M.splits.length ≤ 4294967296 ∧
  R = fun v h' => Turn h h' (fun _ => False) ∧ ∃ Rs, Rs = [vecR v 73 4 (M.splits.map splRow)] ∧ ∃ S', (starL Rs).on h' S' ∧ ∀ b, S' b → h.size ≤ b
noncomputable def pcT : Pure Try.prog where
  kind := fun f => cond (Nat.beq f 8) .new (cond (Nat.beq f 19) .new .wild)
  val := fun _ _ _ _ => False
  sound := fun _ _ _ _ h => h.elim
  pure_ok := fun _ _ _ _ _ h => h.elim
  read_ok := fun _ _ _ _ _ h => h.elim
  new := fun f args h R => (f = 8 ∧ listsNew args h R) ∨ (f = 19 ∧ splitsNew args h R)
  new_sound := by
    rintro f args h R (⟨rfl, p, M, rfl, hr, hl, rfl⟩ | ⟨rfl, p, M, rfl, hr, hl, rfl⟩)
    · exact lists_new hr hl
    · exact splits_new hr hl
  new_ext := by
    rintro f args h R (⟨rfl, p, M, rfl, hr, hl, rfl⟩ | ⟨rfl, p, M, rfl, hr, hl, rfl⟩) v h' ⟨ht, _⟩
    · exact turn_ext ht
    · exact turn_ext ht
section
variable {p : Nat} {M : Lin} {F : List Res} {K : Kont} {h : Heap}
theorem t_lists (hr : (linR p M).has h) (hl : M.lists.length ≤ 4294967296) (hs : Sep h F) (hk : ∀ h' v, Sep h' (lstsR v M.lists :: F) → K v h') : oNew pcT 8 [ptr p] K h := by
  refine ⟨_, .inl ⟨rfl, p, M, rfl, hr, hl, rfl⟩, ?_⟩
  rintro v h' ⟨ht, Rs, rfl, S', hS, hn⟩
  exact hk h' v ((hs.make ht hS hn).imp fun S hS => (starL_append [lstsR v M.lists] S).2 hS)
theorem t_splits (hr : (linR p M).has h) (hl : M.splits.length ≤ 4294967296) (hs : Sep h F) (hk : ∀ h' v, Sep h' (vecR v 73 4 (M.splits.map splRow) :: F) → K v h') : oNew pcT 19 [ptr p] K h := by
  refine ⟨_, .inr ⟨rfl, p, M, rfl, hr, hl, rfl⟩, ?_⟩
  rintro v h' ⟨ht, Rs, rfl, S', hS, hn⟩
  exact hk h' v ((hs.make ht hS hn).imp fun S hS => (starL_append [vecR v 73 4 (M.splits.map splRow)] S).2 hS)
end
end Go.Proofs.Ytfooakkfoemdkaa

/- Pieces of functions, printed by a program of ours (Gen), held by the kernel. -/
namespace Go.Proofs.Ytfooakkfoemdkaa
open Go.Fw
/-! ### 4: missive/missivelaw28.LineageTells -/
noncomputable def f4_c : Code := Try.f4.body.getD .skip
def f4_L : List Nat := [0, 1, 2, 3, 4, 10, 11, 12, 13, 14]
noncomputable def f4_l : List Code := flat f4_c
noncomputable def f4_l0 : List Code := f4_l.drop 7
noncomputable def f4_l1 : List Code := f4_l0.drop 1
noncomputable def f4_l2 : List Code := f4_l1.drop 8
def f4_T2 (q : LPost) : List Value → Heap → Prop := fun vs h => match vs with
 | [v0, v1, v2, v3, v4, _, v11, v12, v13, v14] =>
 oCallF Try.prog 9 [v12, v2] (fun x0 h1 =>
 oExtract x0 0 (fun x2 h3 =>
 oExtract x0 1 (fun x4 h5 =>
 oExtract x0 2 (fun x6 h7 =>
 oCallF Try.prog 20 [v13, v2] (fun x8 h9 =>
 oExtract x8 0 (fun x10 h11 =>
 oExtract x8 1 (fun x12 h13 =>
 oExtract x8 2 (fun x14 h15 =>
 oCallF Try.prog 10 [v12, v2] (fun x16 h17 =>
 oExtract x16 0 (fun x18 h19 =>
 oExtract x16 1 (fun x20 h21 =>
 oCallF Try.prog 21 [v13, v2] (fun x22 h23 =>
 oExtract x22 0 (fun x24 h25 =>
 oExtract x22 1 (fun x26 h27 =>
 oBin (Try.prog.underlying 3) .neq x2 x10 (fun x28 h29 =>
 gop x28 false (fun K h => K x4 h) (fun x30 h31 =>
 gop x28 false (fun K h => K x12 h) (fun x32 h33 =>
 gop x28 false (oBin (Try.prog.underlying 9) .neq x30 x32) (fun x34 h35 =>
 oPick x28 (.bool true) x34 (fun x36 h37 =>
 gop x36 false (fun K h => K x6 h) (fun x38 h39 =>
 gop x36 false (fun K h => K x14 h) (fun x40 h41 =>
 gop x36 false (oBin (Try.prog.underlying 31) .neq x38 x40) (fun x42 h43 =>
 oPick x36 (.bool true) x42 (fun x44 h45 =>
 gop x44 false (fun K h => K x18 h) (fun x46 h47 =>
 gop x44 false (fun K h => K x24 h) (fun x48 h49 =>
 gop x44 false (oBin (Try.prog.underlying 3) .neq x46 x48) (fun x50 h51 =>
 oPick x44 (.bool true) x50 (fun x52 h53 =>
 gop x52 false (fun K h => K x20 h) (fun x54 h55 =>
 gop x52 false (fun K h => K x26 h) (fun x56 h57 =>
 gop x52 false (oBin (Try.prog.underlying 4) .neq x54 x56) (fun x58 h59 =>
 oPick x52 (.bool true) x58 (fun x60 h61 =>
 gop x60 false (fun K h => K v12 h) (fun x62 h63 =>
 gop x60 false (fun K h => K v1 h) (fun x64 h65 =>
 gop x60 false (oCallF Try.prog 22 [x62, x64]) (fun x66 h67 =>
 gop x60 false (fun K h => K v13 h) (fun x68 h69 =>
 gop x60 false (fun K h => K v1 h) (fun x70 h71 =>
 gop x60 false (oCallF Try.prog 23 [x68, x70]) (fun x72 h73 =>
 gop x60 false (oBin (Try.prog.underlying 3) .neq x66 x72) (fun x74 h75 =>
 oPick x60 (.bool true) x74 (fun x76 h77 =>
 oCond x76 (q .ret [v0, v1, v2, v3, v4, (.bool false), v11, v12, v13, v14] h77) (gop v11 true (fun K h => K v12 h) (fun x78 h79 =>
 gop v11 true (fun K h => K v1 h) (fun x80 h81 =>
 gop v11 true (oCallF Try.prog 12 [x78, x80]) (fun x82 h83 =>
 gop v11 true (fun K h => K v13 h) (fun x84 h85 =>
 gop v11 true (fun K h => K v1 h) (fun x86 h87 =>
 gop v11 true (oCallF Try.prog 25 [x84, x86]) (fun x88 h89 =>
 gop v11 true (oCallF Try.prog 24 [x82, x88]) (fun x90 h91 =>
 oPick v11 x90 (.bool false) (fun x92 h93 =>
 gop x92 true (fun K h => K v12 h) (fun x94 h95 =>
 gop x92 true (fun K h => K v1 h) (fun x96 h97 =>
 gop x92 true (fun K h => K v3 h) (fun x98 h99 =>
 gop x92 true (fun K h => K v4 h) (fun x100 h101 =>
 gop x92 true (oCallF Try.prog 26 [x94, x96, x98, x100]) (fun x102 h103 =>
 gop x92 true (fun K h => K v13 h) (fun x104 h105 =>
 gop x92 true (fun K h => K v1 h) (fun x106 h107 =>
 gop x92 true (fun K h => K v3 h) (fun x108 h109 =>
 gop x92 true (fun K h => K v4 h) (fun x110 h111 =>
 gop x92 true (oCallF Try.prog 27 [x104, x106, x108, x110]) (fun x112 h113 =>
 gop x92 true (oBin (Try.prog.underlying 3) .eql x102 x112) (fun x114 h115 =>
 oPick x92 x114 (.bool false) (fun x116 h117 =>
 q .ret [v0, v1, v2, v3, v4, x116, v11, v12, v13, v14] h117) h115) h113) h111) h109) h107) h105) h103) h101) h99) h97) h95) h93) h91) h89) h87) h85) h83) h81) h79) h77)) h75) h73) h71) h69) h67) h65) h63) h61) h59) h57) h55) h53) h51) h49) h47) h45) h43) h41) h39) h37) h35) h33) h31) h29) h27) h25) h23) h21) h19) h17) h15) h13) h11) h9) h7) h5) h3) h1) h
 | _ => False
set_option maxRecDepth 20000 in
theorem f4_T2_ok (q : LPost) : RfN f4_L (f4_T2 q) (wpLs pcT f4_l1 (proj f4_L q)) :=
 seg_rule' 8 (fun env h => by kernel_rfl) (end_rule' (by kernel_rfl) (Rf.proj q) (fun _ _ x => x)) (Rf.proj q)
noncomputable def f4_l3 : List Code := flat (hdB f4_l0)
noncomputable def f4_l4 : List Code := flat (hdB f4_l3)
noncomputable def f4_l5 : List Code := f4_l4.drop 4
def f4_T5 (q : LPost) : List Value → Heap → Prop := fun vs h => match vs with
 | [v0, v1, v2, v3, v4, v10, v11, v12, v13, v14] =>
 oLen (Try.prog.underlying 22) v0 (fun x118 h119 =>
 oBin (Try.prog.underlying 3) .lss v14 x118 (fun x120 h121 =>
 oCond x120 (oIndexAddr (rowedOf Try.prog 22) v0 v14 (fun x122 h123 =>
 oLoad (varOf Try.prog 49) x122 (fun x124 h125 =>
 oCallF Try.prog 15 [v12, x124] (fun x126 h127 =>
 oExtract x126 0 (fun x128 h129 =>
 oExtract x126 1 (fun x130 h131 =>
 oIndexAddr (rowedOf Try.prog 22) v0 v14 (fun x132 h133 =>
 oLoad (varOf Try.prog 49) x132 (fun x134 h135 =>
 oCallF Try.prog 16 [v13, x134] (fun x136 h137 =>
 oExtract x136 0 (fun x138 h139 =>
 oExtract x136 1 (fun x140 h141 =>
 oBin (Try.prog.underlying 3) .neq x128 x138 (fun x142 h143 =>
 gop x142 false (fun K h => K x130 h) (fun x144 h145 =>
 gop x142 false (fun K h => K x140 h) (fun x146 h147 =>
 gop x142 false (oBin (Try.prog.underlying 31) .neq x144 x146) (fun x148 h149 =>
 oPick x142 (.bool true) x148 (fun x150 h151 =>
 gop x150 false (fun K h => K v12 h) (fun x152 h153 =>
 gop x150 false (fun K h => K v13 h) (fun x154 h155 =>
 gop x150 false (oNilCheck x154) (fun x156 h157 =>
 gop x150 false (oFieldAddr (fieldOff Try.prog 55 0) x156) (fun x158 h159 =>
 gop x150 false (oLoad (varOf Try.prog 29) x158) (fun x160 h161 =>
 gop x150 false (oNew pcT 8 [x152]) (fun x162 h163 =>
 gop x150 false (oCallF Try.prog 17 [x162, x160]) (fun x164 h165 =>
 gop x150 false (oUn .not x164) (fun x166 h167 =>
 oPick x150 (.bool true) x166 (fun x168 h169 =>
 gop x168 false (fun K h => K v12 h) (fun x170 h171 =>
 gop x168 false (fun K h => K v13 h) (fun x172 h173 =>
 gop x168 false (oNilCheck x172) (fun x174 h175 =>
 gop x168 false (oFieldAddr (fieldOff Try.prog 55 1) x174) (fun x176 h177 =>
 gop x168 false (oLoad (varOf Try.prog 52) x176) (fun x178 h179 =>
 gop x168 false (oNew pcT 19 [x170]) (fun x180 h181 =>
 gop x168 false (oCallF Try.prog 18 [x180, x178]) (fun x182 h183 =>
 gop x168 false (oUn .not x182) (fun x184 h185 =>
 oPick x168 (.bool true) x184 (fun x186 h187 =>
 oCond x186 (q .ret [v0, v1, v2, v3, v4, (.bool false), v11, v12, v13, v14] h187) (oBin (Try.prog.underlying 3) .add v14 (.int .i64 1) (fun x188 h189 =>
 q .normal [v0, v1, v2, v3, v4, v10, v11, v12, v13, x188] h189) h187)) h185) h183) h181) h179) h177) h175) h173) h171) h169) h167) h165) h163) h161) h159) h157) h155) h153) h151) h149) h147) h145) h143) h141) h139) h137) h135) h133) h131) h129) h127) h125) h123) h121) (q (.exit 0) [v0, v1, v2, v3, v4, v10, v11, v12, v13, v14] h121)) h119) h
 | _ => False
set_option maxRecDepth 20000 in
theorem f4_T5_ok (q : LPost) : RfN f4_L (f4_T5 q) (wpLs pcT f4_l4 (proj f4_L q)) :=
 seg_rule' 4 (fun env h => by kernel_rfl) (end_rule' (by kernel_rfl) (Rf.proj q) (fun _ _ x => x)) (Rf.proj q)
def f4_T4 (q : LPost) : List Value → Heap → Prop := LoopS (fun q => f4_T5 q) (inBL 0 (thenL (f4_T2 q) (q)))
set_option maxRecDepth 20000 in
theorem f4_T4_ok (q : LPost) : RfN f4_L (f4_T4 q) (wpLs pcT f4_l3 (inB 0 (thenQ (wpLs pcT f4_l1 (proj f4_L q)) (proj f4_L q)))) :=
 loop_rule' (b := hdB f4_l3) (B := fun q => f4_T5 q) (c := inBL 0 (thenL (f4_T2 q) (q))) (by kernel_rfl) (fun _ _ x => x) (fun q => (f4_T5_ok q)) (Rf.inB (Rf.then (f4_T2_ok q) (Rf.proj q)))
set_option maxRecDepth 20000 in
theorem f4_B3_ok (q : LPost) : RfN f4_L (f4_T4 q) (wpLs pcT f4_l0 (proj f4_L q)) :=
 block_rule (id := 0) (b := hdB f4_l0) (rest := f4_l1) (by kernel_rfl) (f4_T4_ok q)
def f4_T0 (q : LPost) : List Value → Heap → Prop := fun vs h => match vs with
 | [v0, v1, v2, v3, v4, _, _, v12, v13, v14] =>
 oCallF Try.prog 5 [] (fun x190 h191 =>
 oCallF Try.prog 6 [v0] (fun x192 h193 =>
 oUn .not x192 (fun x194 h195 =>
 gop x194 false (fun K h => K v3 h) (fun x196 h197 =>
 gop x194 false (oLen (Try.prog.underlying 41) x196) (fun x198 h199 =>
 gop x194 false (oBin (Try.prog.underlying 3) .gtr x198 (.int .i64 10)) (fun x200 h201 =>
 oPick x194 (.bool true) x200 (fun x202 h203 =>
 gop x202 false (fun K h => K v4 h) (fun x204 h205 =>
 gop x202 false (oLen (Try.prog.underlying 42) x204) (fun x206 h207 =>
 gop x202 false (oBin (Try.prog.underlying 3) .gtr x206 (.int .i64 70)) (fun x208 h209 =>
 oPick x202 (.bool true) x208 (fun x210 h211 =>
 gop x210 false (fun K h => K v2 h) (fun x212 h213 =>
 gop x210 false (oLen (Try.prog.underlying 9) x212) (fun x214 h215 =>
 gop x210 false (oBin (Try.prog.underlying 3) .gtr x214 (.int .i64 80)) (fun x216 h217 =>
 oPick x210 (.bool true) x216 (fun x218 h219 =>
 oCond x218 (q .ret [v0, v1, v2, v3, v4, x190, x190, v12, v13, v14] h219) (oCallF Try.prog 13 [] (fun x220 h221 =>
 oCallF Try.prog 14 [] (fun x222 h223 =>
 f4_T4 q [v0, v1, v2, v3, v4, (.bool false), x190, x220, x222, (.int .i64 0)] h223) h221) h219)) h217) h215) h213) h211) h209) h207) h205) h203) h201) h199) h197) h195) h193) h191) h
 | _ => False
set_option maxRecDepth 20000 in
theorem f4_T0_ok (q : LPost) : RfN f4_L (f4_T0 q) (wpLs pcT f4_l (proj f4_L q)) :=
 seg_rule' 7 (fun env h => by kernel_rfl) (f4_B3_ok q) (Rf.proj q)
theorem f4_ret {v0 v1 v2 v3 v4 v10 v11 v12 v13 v14 : Value} {h : Heap} {K : Kont} : retL Try.prog f4_L Try.f4.results.toList K .ret [v0, v1, v2, v3, v4, v10, v11, v12, v13, v14] h = (K v10 h) := by kernel_rfl
theorem f4_end {v0 v1 v2 v3 v4 v10 v11 v12 v13 v14 : Value} {h : Heap} {K : Kont} : retL Try.prog f4_L Try.f4.results.toList K .normal [v0, v1, v2, v3, v4, v10, v11, v12, v13, v14] h = (K v10 h) := by kernel_rfl
set_option maxRecDepth 20000 in
theorem f4_fn {a0 a1 a2 a3 a4 : Value} {h : Heap} {K : Kont}
 (hw : f4_T0 (retL Try.prog f4_L Try.f4.results.toList K) [a0, a1, a2, a3, a4, undef, undef, undef, undef, undef] h) : FnH Try.prog 4 #[a0, a1, a2, a3, a4] h K :=
 fn_by (L := f4_L) (T := fun q => f4_T0 q) (args := [a0, a1, a2, a3, a4]) pcT mixed Try.func4 (c := f4_c) (by kernel_rfl) (by kernel_rfl) (by kernel_rfl) (by kernel_rfl) (fun q => (f4_T0_ok q)) hw
end Go.Proofs.Ytfooakkfoemdkaa

/- Appends onto an empty slice without room. -/
namespace Go.Fw
section
variable {K : Kont} {h : Heap} {F : List Res}
theorem s_new0' {e : TypeId} {sz bytes : Nat} {z : Value} (hs : Sep h F) (hk : ∀ h' base, Sep h' (vecR (.slice base 0 0) e sz [] :: F) → K (.slice base 0 0) h') : oBuildSlice (some (e, sz, bytes, z)) 0 [] K h := by
  rw [build_slice_0]
  exact hk _ _ (hs.newVec (rows := []) (n := 0) rfl (by simp) (by simp))
theorem append_ext {b : Option (TypeId × Nat × Nat × Value)} {base ax : Option Addr} {n c : Nat} (hk : oAppend b (.slice base 0 0) (.slice ax n c) K h) : oAppendF b (.slice base 0 0) (.slice ax n c) K h := by
  unfold oAppendF
  unfold oAppend at hk ⊢
  cases b with
  | none => exact hk
  | some b =>
    obtain ⟨e, size, bytes, z⟩ := b
    simp only [lenV] at hk ⊢
    by_cases hn : 0 + n ≤ 0
    · rw [if_pos hn] at hk ⊢
      have : n = 0 := by omega
      subst this
      have hrd : rdCells h size 0 (.slice ax 0 c) = some #[] := by
        cases ax <;> simp [rdCells]
      simp only [hrd] at hk ⊢
      cases base with
      | none => exact ⟨hk, Ext.refl h⟩
      | some a => exact ⟨hk, Ext.refl h⟩
    · rw [if_neg hn] at hk ⊢
      refine ⟨hk.1, hk.2.1, ?_⟩
      have h2 := hk.2.2
      split at h2
      · exact fun nc hnc => ⟨h2 nc hnc, Ext.push _ _⟩
      · exact h2.elim
theorem s_appendF {e : TypeId} {sz bytes : Nat} {z x : Value} {base : Option Addr} {S : Nat → Prop} {news : List (List Value)} (hs : Sep h (vecR (.slice base 0 0) e sz [] :: F)) (hz : z.cells.size = sz) (hsz : 0 < sz) (hby : 0 < bytes) (hx : RowsR S h x sz news) (h1 : ∀ r ∈ news, ∀ y ∈ r, oneC y = true)
    (hbound : (2 * news.length + 200) * bytes ≤ 281474976710656) (hk : ∀ v' h', Sep h' (vecR v' e sz news :: F) → K v' h') : oAppendF (some (e, sz, bytes, z)) (.slice base 0 0) x K h := by
  obtain ⟨ax, cx, hxv⟩ := hx.val
  have := s_append (K := K) hs hz hsz hby hx h1 (by simpa using hbound) (fun v' h' hs' => hk v' h' (by simpa using hs'))
  rw [hxv] at this ⊢
  exact append_ext this
end
section
variable {h : Heap} {G : List Res} {v : Value} {sz : Nat} {rows : List (List Value)} {K : Kont}
/-- The first elements, in all heaps in which G lies. -/
theorem s_slice_to_all {t : TypeId} {hi : Nat} {k2 : IntKind} (hr : ∀ h', Sep h' G → RowsR (fun _ => True) h' v sz rows) (hs : Sep h G) (hhi : hi ≤ rows.length) (hK : ∀ v', (∀ h', Sep h' G → RowsR (fun _ => True) h' v' sz (rows.take hi)) → K v' h) :
    oSlice (some (.slice t)) (some sz) v none (some (.int k2 hi)) K h := by
  obtain ⟨a, cap, rfl⟩ := (hr h hs).val
  have hc : rows.length ≤ cap := by
    obtain ⟨a', cap', hv, hc, _⟩ := hr h hs
    simp only [Value.slice.injEq, true_and] at hv
    rw [hv.2]; exact hc
  simp only [oSlice, bndV, Int.toNat_natCast]
  refine ⟨by omega, by omega, by omega, hc, hK _ fun h' hs' => ?_⟩
  have h1 := rows_part (lo := 0) (hr h' hs') (Nat.zero_le hi) hhi
  simp only [List.drop_zero, Nat.sub_zero] at h1
  exact h1
theorem s_slice_from_all {t : TypeId} {lo : Nat} {k1 : IntKind} (hr : ∀ h', Sep h' G → RowsR (fun _ => True) h' v sz rows) (hs : Sep h G) (hlo : lo ≤ rows.length) (hK : ∀ v', (∀ h', Sep h' G → RowsR (fun _ => True) h' v' sz (rows.drop lo)) → K v' h) :
    oSlice (some (.slice t)) (some sz) v (some (.int k1 lo)) none K h := by
  obtain ⟨a, cap, rfl⟩ := (hr h hs).val
  have hc : rows.length ≤ cap := by
    obtain ⟨a', cap', hv, hc, _⟩ := hr h hs
    simp only [Value.slice.injEq, true_and] at hv
    rw [hv.2]; exact hc
  simp only [oSlice, bndV, Int.toNat_natCast]
  refine ⟨by omega, by omega, by omega, hc, hK _ fun h' hs' => ?_⟩
  have h1 := rows_part (lo := lo) (hr h' hs') hlo (Nat.le_refl _)
  have e : (rows.drop lo).take (rows.length - lo) = rows.drop lo := List.take_of_length_le (by simp)
  rw [e] at h1
  exact h1
end
end Go.Fw

/- The reference: Of, the names of a list in order. -/
namespace Go.Proofs.Ytfooakkfoemdkaa
open Go.Fw
theorem lessB_total {a b : ByteArray} (h : lessB a b = false) (hne : a ≠ b) : ltB b a := by
  have h1 : ¬ ltB a b := fun hh => by rw [lessB_iff.2 hh] at h; cases h
  exact ltB_of_le_ne (not_ltB.1 h1) (fun e => hne e.symm)
section
variable {h : Heap} {K : Kont} {p : Nat} {M : Lin} {ns : List ByteArray} {F : List Res} {D : Nat} {n : Int}
/-- The names in front, put in order. -/
structure OfI (M : Lin) (n : Int) (l al : List ByteArray) : Prop where
  sorted : al.Pairwise ltB
  mem : ∀ a, a ∈ al ↔ a ∈ l ∧ stands M n a
  len : al.length ≤ l.length
structure OfS where
  i : Nat
  al : List ByteArray
  v5 : Value
  v7 : Value
set_option maxRecDepth 8000 in
set_option maxHeartbeats 2000000 in
theorem of_fn (hs : Sep h (refR p M ns :: F)) (hm : Ok M D) (hD : D ≤ 1000) (hn : NsOk M ns) (hnd : ns.Nodup) (hnl : ns.length ≤ 1000)
    (hk : ∀ h' v (al : List ByteArray), Sep h' (vecR v 9 1 (al.map strRow) :: refR p M ns :: F) → al.Pairwise ltB → (∀ a, a ∈ al ↔ stands M n a) → K v h') : FnH Try.prog 25 #[ptr p, .int .i64 n] h K := by
  have hml := hm.len
  refine f25_fn ?_
  simp only [f25_T0]
  refine LoopS.st (σ := OfS) (fun s => [ptr p, .int .i64 n, .slice none 0 0, s.v5, .int .i64 s.i, s.v7]) (fun s h' => Sep h' (vecR s.v5 9 1 (s.al.map strRow) :: refR p M ns :: F) ∧ s.i ≤ ns.length ∧ OfI M n (ns.take s.i) s.al) (fun s => ns.length - s.i) ⟨0, [], .slice none 0 0, undef⟩ rfl
    ⟨hs.nilVec, Nat.zero_le _, by simp, by simp, by simp⟩ ?_
  rintro ⟨i, al, v5, v7⟩ h' ⟨hs', hi, hof⟩
  simp only at hs' hi hof ⊢
  obtain ⟨va, vp, vn, rv⟩ := ref_view (hs'.at 1)
  have c2 := rv.c2
  have hlv : ∀ K, oLen (some (.slice 78)) vn K h' = K (.int .i64 ns.length) h' := fun K => by rw [len_val rv.rn, List.length_map]
  unfold ptr
  by_cases hil : i < ns.length
  · have hd : decide ((i : Int) < (ns.length : Int)) = true := by simp; omega
    have hi1 : (i : Int) + 1 = ((i + 1 : Nat) : Int) := rfl
    obtain ⟨b, o, hidx, hcell, _⟩ := elem_at (r := ownRow M ns[i]) rv.rn (k := i) (by simpa using hil) (by simp) (by omega)
    have e0 : cellAt h' b o = some (.string ns[i]) := hcell 0 (by omega)
    have e1 : cellAt h' b (o + 1) = some (.int .i64 ((M.ow ns[i]).getD 0)) := hcell 1 (by omega)
    have htk : ns.take (i + 1) = ns.take i ++ [ns[i]] := List.take_succ_eq_append_getElem hil
    have hnotin : ns[i] ∉ ns.take i := fun hm => by
      have := memB_take hnd hil
      rw [memB_iff.2 hm] at this
      cases this
    obtain ⟨kk, how, hkl⟩ : ∃ kk : Nat, M.ow ns[i] = some ((kk : Int) + 1) ∧ kk < M.lists.length := by
      cases ho : M.ow ns[i] with
      | none => exact absurd ho ((hn _).1 (List.getElem_mem hil))
      | some j =>
        obtain ⟨kk, rfl, h2⟩ := hm.own _ j ho
        exact ⟨kk, rfl, h2⟩
    rw [how] at e1
    obtain ⟨m, _, hg⟩ := hm.now hD hkl
    have hst : stands M n ns[i] ↔ ((now M.lists kk : Nat) : Int) + 1 = n := by
      constructor
      · rintro ⟨k', h1, h2⟩
        rw [how] at h1
        injection h1 with h1
        have : kk = k' := by omega
        rw [this]; exact h2
      · intro h2; exact ⟨kk, how, h2⟩
    simp -implicitDefEqProofs only [f25_T5, go_sem, Nat.zero_add, c2, hlv, hd, f25_T9, hidx, e1, Option.getD_some]
    refine rnow_fn (hs'.at 1) hg (by omega) ?_
    cases dn : decide (((now M.lists kk : Nat) : Int) + 1 = n) with
    | false =>
      have hns := fun h => of_decide_eq_false dn (hst.1 h)
      simp -implicitDefEqProofs (disch := omega) only [go_sem, dn, f25_T7, bin_add_in, hi1]
      refine NextSt.mk ⟨i + 1, al, v5, v7⟩ rfl ⟨hs', hil, hof.sorted, fun a => ?_, ?_⟩ (by simp only; omega)
      · simp only
        rw [hof.mem, htk, List.mem_append, List.mem_singleton]
        constructor
        · exact fun h => ⟨.inl h.1, h.2⟩
        · rintro ⟨h1 | h1, h2⟩
          · exact ⟨h1, h2⟩
          · subst h1; exact absurd h2 hns
      · have := hof.len
        simp only [List.length_take] at this ⊢
        omega
    | true =>
      have hyes := hst.2 (of_decide_eq_true dn)
      simp -implicitDefEqProofs only [go_sem, dn]
      refine LoopS.st (σ := Nat) (fun k => [ptr p, .int .i64 n, .slice none 0 0, v5, .int .i64 (i : Int), .int .i64 k]) (fun k h2 => h2 = h' ∧ k ≤ al.length ∧ ∀ a ∈ al.take k, ltB a ns[i]) (fun k => al.length - k) 0 rfl ⟨rfl, Nat.zero_le _, by simp⟩ ?_
      rintro k h2 ⟨rfl, hkl2, hlt⟩
      have hlv2 : ∀ K, oLen (some (.slice 9)) v5 K h2 = K (.int .i64 al.length) h2 := fun K => by rw [len_val (hs'.at 0).rows, List.length_map]
      have hfin : (∀ a ∈ al.drop k, ltB ns[i] a) → f25_T11 (thenL (NextSt (fun s : OfS => [ptr p, .int .i64 n, .slice none 0 0, s.v5, .int .i64 s.i, s.v7]) (fun s h' => Sep h' (vecR s.v5 9 1 (s.al.map strRow) :: refR p M ns :: F) ∧ s.i ≤ ns.length ∧ OfI M n (ns.take s.i) s.al) (fun s => ns.length - s.i) ⟨i, al, v5, v7⟩)
          (inBL 0 (thenL (f25_T2 (retL Try.prog f25_L Try.f25.results.toList K)) (retL Try.prog f25_L Try.f25.results.toList K)))) [ptr p, .int .i64 n, .slice none 0 0, v5, .int .i64 (i : Int), .int .i64 k] h2 := by
        intro hgt
        have hof' : OfI M n (ns.take (i + 1)) (al.take k ++ [ns[i]] ++ al.drop k) := by
          have hsplit : al = al.take k ++ al.drop k := (List.take_append_drop k al).symm
          have hs0 := hof.sorted
          rw [hsplit, List.pairwise_append] at hs0
          refine ⟨?_, fun a => ?_, ?_⟩
          · rw [List.append_assoc, List.pairwise_append]
            refine ⟨hs0.1, ?_, fun a ha b hb => ?_⟩
            · rw [List.singleton_append, List.pairwise_cons]
              exact ⟨hgt, hs0.2.1⟩
            · rw [List.singleton_append, List.mem_cons] at hb
              rcases hb with rfl | hb
              · exact hlt a ha
              · exact hs0.2.2 a ha b hb
          · have hmem := hof.mem a
            rw [hsplit, List.mem_append] at hmem
            rw [htk]
            simp only [List.mem_append, List.mem_singleton]
            constructor
            · rintro ((h1 | h1) | h1)
              · exact ⟨.inl (hmem.1 (.inl h1)).1, (hmem.1 (.inl h1)).2⟩
              · subst h1; exact ⟨.inr rfl, hyes⟩
              · exact ⟨.inl (hmem.1 (.inr h1)).1, (hmem.1 (.inr h1)).2⟩
            · rintro ⟨h1 | h1, h2⟩
              · rcases hmem.2 ⟨h1, h2⟩ with h3 | h3
                · exact .inl (.inl h3)
                · exact .inr h3
              · exact .inl (.inr h1)
          · have hl := hof.len
            have hl2 := congrArg List.length hsplit
            rw [htk]
            simp only [List.length_append, List.length_take, List.length_drop, List.length_singleton] at hl hl2 ⊢
            omega
        have hal : al.length ≤ 1000 := by
          have := hof.len
          simp only [List.length_take] at this
          omega
        have hfin2 : ∀ h5 v6, Sep h5 (vecR v6 9 1 ((al.take k ++ [ns[i]] ++ al.drop k).map strRow) :: refR p M ns :: F) →
            NextSt (fun s : OfS => [.pointer (some ⟨p, 0, none⟩), .int .i64 n, .slice none 0 0, s.v5, .int .i64 s.i, s.v7]) (fun s h' => Sep h' (vecR s.v5 9 1 (s.al.map strRow) :: refR p M ns :: F) ∧ s.i ≤ ns.length ∧ OfI M n (ns.take s.i) s.al) (fun s => ns.length - s.i) ⟨i, al, v5, v7⟩
              [.pointer (some ⟨p, 0, none⟩), .int .i64 n, .slice none 0 0, v6, .int .i64 ((i + 1 : Nat) : Int), .int .i64 k] h5 := fun h5 v6 hs5 =>
          NextSt.mk ⟨i + 1, _, v6, .int .i64 k⟩ rfl ⟨hs5, hil, hof'⟩ (by simp only; omega)
        unfold ptr
        simp -implicitDefEqProofs only [f25_T11, go_sem]
        refine s_slice_to_all (fun h3 (hs3 : Sep h3 (vecR v5 9 1 (al.map strRow) :: refR p M ns :: F)) => (hs3.at 0).rows) hs' (by simpa using hkl2) fun va' hva' => ?_
        rw [← List.map_take] at hva'
        simp -implicitDefEqProofs only [go_sem, Nat.zero_add, Nat.add_zero, c2, hidx, e0]
        refine s_slice_from_all (fun h3 (hs3 : Sep h3 (vecR v5 9 1 (al.map strRow) :: refR p M ns :: F)) => (hs3.at 0).rows) hs' (by simpa using hkl2) fun vb' hvb' => ?_
        rw [← List.map_drop] at hvb'
        have hone : ∀ l : List ByteArray, ∀ r ∈ l.map strRow, ∀ y ∈ r, oneC y = true := fun l r hr y hy => by
          obtain ⟨a, _, rfl⟩ := List.mem_map.1 hr
          simp only [strRow, List.mem_singleton] at hy
          rw [hy]; rfl
        have hone1 := hone (al.take k)
        have hone2 := hone (al.drop k)
        have hb1 : (2 * ((al.take k).map strRow).length + 200) * 16 ≤ 281474976710656 := by simp only [List.length_map, List.length_take]; omega
        have hrows : (al.take k).map strRow ++ [strRow ns[i]] ++ (al.drop k).map strRow = (al.take k ++ [ns[i]] ++ al.drop k).map strRow := by simp
        have hlast : ∀ h5 v6, Sep h5 (vecR v6 9 1 ((al.take k).map strRow ++ [strRow ns[i]]) :: vecR v5 9 1 (al.map strRow) :: refR p M ns :: F) →
            oAppend (some (9, 1, 16, .string ⟨#[]⟩)) v6 vb' (fun x h => f25_T7 (thenL (NextSt (fun s : OfS => [ptr p, .int .i64 n, .slice none 0 0, s.v5, .int .i64 s.i, s.v7]) (fun s h' => Sep h' (vecR s.v5 9 1 (s.al.map strRow) :: refR p M ns :: F) ∧ s.i ≤ ns.length ∧ OfI M n (ns.take s.i) s.al) (fun s => ns.length - s.i) ⟨i, al, v5, v7⟩)
              (inBL 0 (thenL (f25_T2 (retL Try.prog f25_L Try.f25.results.toList K)) (retL Try.prog f25_L Try.f25.results.toList K)))) [.pointer (some ⟨p, 0, none⟩), .int .i64 n, .slice none 0 0, x, .int .i64 (i : Int), .int .i64 k] h) h5 := by
          intro h5 v6 hs5
          refine s_append (S := fun _ => True) hs5 (news := (al.drop k).map strRow) rfl (by omega) (by omega) (hvb' h5 hs5.tail) hone2 (by simp only [List.length_append, List.length_map, List.length_take, List.length_drop, List.length_singleton]; omega) fun v8 h8 hs8 => ?_
          rw [hrows] at hs8
          simp -implicitDefEqProofs (disch := omega) only [f25_T7, go_sem, bin_add_in, hi1]
          exact hfin2 h8 v8 (hs8.del 1)
        simp -implicitDefEqProofs only [go_sem]
        refine ⟨?_, ?_⟩
        · refine s_new0' hs' fun h3 base hs3 => ?_
          refine ⟨?_, ?_⟩
          · simp -implicitDefEqProofs only [go_sem]
            refine s_appendF hs3 rfl (by omega) (by omega) (hva' h3 hs3.tail) hone1 hb1 fun v4 h4 hs4 => ?_
            simp -implicitDefEqProofs only [go_sem]
            refine s_append_one hs4 (row := strRow ns[i]) rfl (by omega) (by omega) (by omega) rfl rfl (by simp [strRow, go_sem]) (by simp only [List.length_map, List.length_take]; omega) fun v6 h6 hs6 => ?_
            simp -implicitDefEqProofs only [go_sem]
            exact hlast h6 v6 hs6
          · simp -implicitDefEqProofs only [go_sem]
            refine s_new1 hs3 (row := strRow ns[i]) rfl rfl (by simp [strRow, go_sem]) (by omega) fun h4 v4 hs4 => ?_
            simp -implicitDefEqProofs only [go_sem]
            refine s_appendF (hs4.pick 1) rfl (by omega) (by omega) (hva' h4 hs4.tail.tail) hone1 hb1 fun v6 h6 hs6 => ?_
            simp -implicitDefEqProofs only [go_sem]
            refine s_append (S := fun _ => True) hs6 (news := [strRow ns[i]]) rfl (by omega) (by omega) (hs6.at 1).rows (by simp [strRow, go_sem]) (by simp only [List.length_map, List.length_take, List.length_singleton]; omega) fun v8 h8 hs8 => ?_
            simp -implicitDefEqProofs only [go_sem]
            exact hlast h8 v8 (hs8.del 1)
        · refine s_new1 hs' (row := strRow ns[i]) rfl rfl (by simp [strRow, go_sem]) (by omega) fun h3 v3 hs3 => ?_
          simp -implicitDefEqProofs only [go_sem]
          refine s_new0' hs3 fun h4 base hs4 => ?_
          simp -implicitDefEqProofs only [go_sem]
          refine s_appendF hs4 rfl (by omega) (by omega) (hva' h4 hs4.tail.tail) hone1 hb1 fun v6 h6 hs6 => ?_
          simp -implicitDefEqProofs only [go_sem]
          refine s_append (S := fun _ => True) hs6 (news := [strRow ns[i]]) rfl (by omega) (by omega) (hs6.at 1).rows (by simp [strRow, go_sem]) (by simp only [List.length_map, List.length_take, List.length_singleton]; omega) fun v8 h8 hs8 => ?_
          simp -implicitDefEqProofs only [go_sem]
          exact hlast h8 v8 (hs8.del 1)
      by_cases hk3 : k < al.length
      · have hd3 : decide ((k : Int) < (al.length : Int)) = true := by simp; omega
        obtain ⟨b3, o3, hidx3, hcell3, _⟩ := elem_at (r := strRow al[k]) (hs'.at 0).rows (k := k) (by simpa using hk3) (by simp) (by omega)
        have e3 : cellAt h2 b3 o3 = some (.string al[k]) := hcell3 0 (by omega)
        cases dl : lessB al[k] ns[i] with
        | true =>
          have hk1 : (k : Int) + 1 = ((k + 1 : Nat) : Int) := rfl
          have halb : al.length ≤ 1000 := by
            have := hof.len
            simp only [List.length_take] at this
            omega
          simp -implicitDefEqProofs (disch := omega) only [f25_T14, go_sem, ptr, hlv2, hd3, hidx3, e3, Nat.zero_add, Nat.add_zero, c2, hidx, e0, dl, bin_add_in, hk1]
          refine NextSt.mk (k + 1) rfl ⟨rfl, hk3, fun a ha => ?_⟩ (by omega)
          rw [List.take_succ_eq_append_getElem hk3, List.mem_append, List.mem_singleton] at ha
          rcases ha with ha | rfl
          · exact hlt a ha
          · exact lessB_iff.1 dl
        | false =>
          simp -implicitDefEqProofs only [f25_T14, go_sem, ptr, hlv2, hd3, hidx3, e3, Nat.zero_add, Nat.add_zero, c2, hidx, e0, dl]
          refine hfin fun a ha => ?_
          have hne : al[k] ≠ ns[i] := fun e => hnotin (e ▸ ((hof.mem al[k]).1 (List.getElem_mem hk3)).1)
          have h1 := lessB_total dl hne
          rw [List.drop_eq_getElem_cons hk3, List.mem_cons] at ha
          rcases ha with rfl | ha
          · exact h1
          · have hs0 := hof.sorted
            rw [← List.take_append_drop k al, List.pairwise_append] at hs0
            have h2 := hs0.2.1
            rw [List.drop_eq_getElem_cons hk3, List.pairwise_cons] at h2
            exact ltB_trans h1 (h2.1 a ha)
      · have hd3 : decide ((k : Int) < (al.length : Int)) = false := by simp; omega
        simp -implicitDefEqProofs only [f25_T14, go_sem, ptr, hlv2, hd3]
        refine hfin fun a ha => ?_
        rw [List.drop_eq_nil_of_le (by omega)] at ha
        cases ha
  · have hd : decide ((i : Int) < (ns.length : Int)) = false := by simp; omega
    rw [List.take_of_length_le (by omega)] at hof
    simp -implicitDefEqProofs only [f25_T5, go_sem, Nat.zero_add, c2, hlv, hd, f25_T2]
    rw [f25_ret]
    exact hk h' v5 al hs' hof.sorted (fun a => by
      rw [hof.mem]
      refine ⟨fun h => h.2, fun h => ⟨?_, h⟩⟩
      obtain ⟨k, h1, _⟩ := h
      rw [hn, h1]; simp)
end
end Go.Proofs.Ytfooakkfoemdkaa

/- The statement LineageTells. -/
namespace Go.Proofs.Ytfooakkfoemdkaa
open Go.Fw
section
variable {M : Lin} {s : ByteArray}
theorem IdOk.mod (h : IdOk M) {k : Nat} {f : Lst → Lst} (hf : ∀ x, (f x).id = x.id) : ∀ (i : Nat) (x : Lst), (M.lists.modify k f)[i]? = some x → x.id = (i : Int) + 1 := by
  intro i x hx
  rw [List.getElem?_modify] at hx
  cases hi : M.lists[i]? with
  | none => rw [hi] at hx; cases hx
  | some y =>
    rw [hi] at hx
    have hy := h i y hi
    by_cases e : k = i
    · simp only [e, if_true] at hx
      have : f y = x := by simpa using hx
      rw [← this, hf]; exact hy
    · simp only [e, if_false] at hx
      have : y = x := by simpa using hx
      rw [← this]; exact hy
theorem IdOk.addM (h : IdOk M) (par : Int) : IdOk (addM M s par).1 := by
  unfold Ytfooakkfoemdkaa.addM
  split
  · exact h
  · split
    · exact h
    · intro i x hx
      simp only [addL] at hx
      by_cases hi : i < M.lists.length
      · rw [List.getElem?_append_left hi] at hx; exact h i x hx
      · rw [List.getElem?_append_right (by omega)] at hx
        have : i - M.lists.length = 0 := by
          have := (List.getElem?_eq_some_iff.1 hx).1
          simp at this; omega
        rw [this, List.getElem?_cons_zero] at hx
        injection hx with hx
        rw [← hx]
        show (M.lists.length : Int) + 1 = (i : Int) + 1
        omega
theorem IdOk.step (h : IdOk M) (d : Deed) : IdOk (doM M d).1 := by
  unfold doM
  split
  · unfold renameM
    simp only
    split
    · exact h
    · split
      · exact h
      · exact h.mod fun _ => rfl
  · split
    · unfold splitM
      split
      · exact h
      · simp only
        split
        · exact h.addM d.a
        · exact h.addM (s := d.name) d.a
    · split
      · unfold mergeM
        simp only
        split
        · exact h
        · split
          · exact h
          · split
            · exact h
            · split
              · exact h
              · exact h.mod fun _ => rfl
      · split
        · unfold moveM
          simp only
          split
          · exact h
          · split
            · exact h
            · exact h.mod fun _ => rfl
        · exact h.addM 0
theorem idok_fill : ∀ (l : List Deed) (M : Lin) (ns : List ByteArray), IdOk M → IdOk (fillM M ns l).1
  | [], _, _, h => h
  | d :: l, M, ns, h => idok_fill l _ _ (h.step d)
end
section
variable {h : Heap} {K : Kont} {p r : Nat} {M : Lin} {F : List Res} {D : Nat} {ns : List ByteArray} {v0 v3 v4 v10 : Value} {name : ByteArray} {id : Int} {l : List Deed} {P : List Int} {H : List Bool} {q : LPost}
set_option maxRecDepth 8000 in
set_option maxHeartbeats 2000000 in
theorem tells_round {i : Nat} (hv : ∀ h', Sep h' F → RowsR (fun _ => True) h' v0 4 (l.map deedRow)) (hll : l.length ≤ 70) (hi : i < l.length) (hinv : Inv M D ns) (hD : D ≤ 900) (hid : IdOk M) (hs : Sep h (linR p M :: refR r M ns :: F))
    (hk : ∀ h', Sep h' (linR p (doM M l[i]).1 :: refR r (doM M l[i]).1 (namesM M l[i] ns) :: F) → q .normal [v0, .int .i64 id, .string name, v3, v4, v10, .bool true, ptr p, ptr r, .int .i64 ((i + 1 : Nat) : Int)] h') :
    f4_T5 q [v0, .int .i64 id, .string name, v3, v4, v10, .bool true, ptr p, ptr r, .int .i64 (i : Int)] h := by
  have hF : Sep h F := hs.tail.tail
  have hnl := hinv.nl
  have hlv : ∀ K, oLen (some (.slice 49)) v0 K h = K (.int .i64 l.length) h := fun K => by rw [len_val (hv h hF), List.length_map]
  have hd : decide ((i : Int) < (l.length : Int)) = true := by simp; omega
  obtain ⟨b, o, hall⟩ := elem_all (r := deedRow l[i]) hv hF (k := i) (by simpa using hi) (by simp) (by omega)
  obtain ⟨hidx, _, hload⟩ := hall h hF
  have hstep := hinv.step (by omega) l[i]
  simp -implicitDefEqProofs only [f4_T5, go_sem, hlv, hd, hidx, hload]
  refine do_fn hs hinv.ok (by omega) fun h2 hs2 => ?_
  have hres : ∃ a e, (doM M l[i]).2 = (a, e) := ⟨_, _, rfl⟩
  obtain ⟨a, e, hae⟩ := hres
  rw [hae]
  obtain ⟨hidx2, _, hload2⟩ := hall h2 hs2.tail.tail
  simp -implicitDefEqProofs only [go_sem, hidx2, hload2]
  refine model_fn hs2.swap hinv.ok (by omega) hid (fun a => hinv.dom a) (by omega) fun h3 hs3 => ?_
  rw [hae]
  generalize hX : (doM M l[i]).1 = X at *
  generalize hNs : namesM M l[i] ns = N at *
  have hXl := hstep.ok.len
  have hXs := hstep.ok.spl
  obtain ⟨va, vp, vn, t, hs4⟩ := ref_open hs3
  have c0 : cellAt h3 r 0 = some va := (hs4.at 0).cell 0
  simp -implicitDefEqProofs only [ptr, go_sem, decide_true, Nat.zero_add, c0]
  refine t_lists (hs4.at 4) (by omega) hs4 fun h5 v5 hs5 => ?_
  simp -implicitDefEqProofs only [go_sem]
  refine lists_eq (l := X.lists) (hs5.at 0).rows (hs5.at 2).rows (by omega) ?_
  have c1 : cellAt h5 r 1 = some vp := (hs5.at 1).cell 1
  simp -implicitDefEqProofs only [ptr, go_sem, Nat.zero_add, c1]
  refine t_splits (hs5.at 5) (by omega) hs5.tail fun h6 v6 hs6 => ?_
  simp -implicitDefEqProofs only [go_sem]
  refine splits_eq (l := X.splits) (hs6.at 0).rows (hs6.at 3).rows (by omega) ?_
  have hi1 : (i : Int) + 1 = ((i + 1 : Nat) : Int) := rfl
  simp -implicitDefEqProofs (disch := omega) only [go_sem, bin_add_in, hi1]
  exact hk h6 (ref_close (va := va) (vp := vp) (vn := vn) (t := t) hs6.tail).swap
set_option maxRecDepth 8000 in
set_option maxHeartbeats 2000000 in
theorem tells_end (hinv : Inv M D ns) (hD : D ≤ 900) (hP : ∀ h', Sep h' F → RowsR (fun _ => True) h' v3 1 (P.map intRow)) (hH : ∀ h', Sep h' F → RowsR (fun _ => True) h' v4 1 (H.map boolRow)) (hPl : P.length ≤ 10) (hs : Sep h (linR p M :: refR r M ns :: F)) (hk : ∀ h', Sep h' F → K (.bool true) h') {v14 : Value} :
    f4_T2 (retL Try.prog f4_L Try.f4.results.toList K) [v0, .int .i64 id, .string name, v3, v4, v10, .bool true, ptr p, ptr r, v14] h := by
  have hnl := hinv.nl
  have hml := hinv.ok.len
  have hnok : NsOk M ns := fun a => hinv.dom a
  obtain ⟨x, t, e, hre⟩ : ∃ x t e, resolveM M name = (x, t, e) := ⟨_, _, _, rfl⟩
  obtain ⟨y, b, how⟩ : ∃ y b, ownerM M name = (y, b) := ⟨_, _, rfl⟩
  simp -implicitDefEqProofs only [f4_T2, go_sem]
  refine resolve_fnE (hs.at 0) hinv.ok (by omega) hre ?_
  simp -implicitDefEqProofs only [go_sem]
  refine rresolve_fn (hs.at 1) hinv.ok (by omega) hnok (by omega) hre ?_
  simp -implicitDefEqProofs only [go_sem]
  refine owner_fnE (hs.at 0) hinv.ok (by omega) how ?_
  simp -implicitDefEqProofs only [go_sem]
  refine rowner_fn (hs.at 1) hinv.ok (by omega) hnok (by omega) how ?_
  simp -implicitDefEqProofs only [go_sem, decide_true, beq_self_eq_true]
  refine now_fnM (lv_of (hs.at 0)) hinv.ok (by omega) ?_
  simp -implicitDefEqProofs only [go_sem]
  refine rnow_fnM (hs.at 1) hinv.ok (by omega) ?_
  simp -implicitDefEqProofs only [go_sem, decide_true]
  refine (names_new (hs.at 0) hinv.ok (by omega)).use hs fun h2 v2 Rs hRs _ hs2 => ?_
  obtain ⟨al, rfl, hal, hmem, hlen⟩ := hRs
  simp -implicitDefEqProofs only [go_sem]
  refine of_fn (F := vecR v2 9 1 (al.map strRow) :: linR p M :: F) (hs2.pick 2) hinv.ok (by omega) hnok hinv.nd (by omega) fun h3 v3' al2 hs3 hal2 hmem2 => ?_
  have heq : al2 = al := sorted_unique hal2 hal fun a => by rw [hmem, hmem2]
  subst heq
  simp -implicitDefEqProofs only [go_sem]
  refine strings_eq (hs3.at 2).rows (hs3.at 0).rows (by omega) ?_
  simp -implicitDefEqProofs only [go_sem]
  have hs4 : Sep h3 (linR p M :: refR r M ns :: F) := (hs3.sel [3, 1]).del 2 |>.del 2
  have hend : ∀ h', Sep h' (linR p M :: refR r M ns :: F) → retL Try.prog f4_L Try.f4.results.toList K .ret [v0, .int .i64 id, .string name, v3, v4, .bool true, .bool true, .pointer (some ⟨p, 0, none⟩), .pointer (some ⟨r, 0, none⟩), v14] h' := fun h' hs' => by
    rw [f4_ret]; exact hk h' hs'.tail.tail
  refine route_fn (P := P) (H := H) (F := refR r M ns :: F) hs4 hinv.ok (by omega) hinv.sp (fun h' hs' => hP h' hs'.tail) (fun h' hs' => hH h' hs'.tail) (by omega) (fun h0 => ?_) (fun h0 x hx h5 hs5 => ?_)
  · simp -implicitDefEqProofs only [go_sem]
    refine rroute_fn (P := P) (H := H) (F := linR p M :: F) hs4.swap hinv.ok (by omega) hinv.sp (fun h' hs' => hP h' hs'.tail) (fun h' hs' => hH h' hs'.tail) (by omega) (fun _ h6 hs6 => ?_) (fun h1 => by rw [h0] at h1; cases h1)
    simp -implicitDefEqProofs only [go_sem, decide_true, ptr]
    exact hend h6 hs6.swap
  · simp -implicitDefEqProofs only [go_sem]
    refine rroute_fn (P := P) (H := H) (F := linR p M :: F) hs5.swap hinv.ok (by omega) hinv.sp (fun h' hs' => hP h' hs'.tail) (fun h' hs' => hH h' hs'.tail) (by omega) (fun h1 => by rw [h0] at h1; cases h1) (fun _ x2 hx2 h6 hs6 => ?_)
    have hxx : x2 = x := hx.unique hx2
    subst hxx
    simp -implicitDefEqProofs only [go_sem, decide_true, ptr]
    exact hend h6 hs6.swap
set_option maxRecDepth 8000 in
set_option maxHeartbeats 2000000 in
theorem tells_law (hs : Sep h F) (hv : ∀ h', Sep h' F → RowsR (fun _ => True) h' v0 4 (l.map deedRow)) (hl : l.length ≤ 9223372036854775807) (hP : ∀ h', Sep h' F → RowsR (fun _ => True) h' v3 1 (P.map intRow)) (hH : ∀ h', Sep h' F → RowsR (fun _ => True) h' v4 1 (H.map boolRow))
    (hk : ∀ h', Sep h' F → K (.bool true) h') : FnH Try.prog 4 #[v0, .int .i64 id, .string name, v3, v4] h K := by
  refine f4_fn ?_
  simp only [f4_T0, go_sem]
  refine small_fn hs fun h1 hs1 => ?_
  simp -implicitDefEqProofs only [go_sem]
  refine few_fn (hv h1 hs1) hl ?_
  have hret : ∀ v12 v13 v14 h', Sep h' F → retL Try.prog f4_L Try.f4.results.toList K .ret [v0, .int .i64 id, .string name, v3, v4, .bool true, .bool true, v12, v13, v14] h' := fun v12 v13 v14 h' hs' => by
    rw [f4_ret]; exact hk h' hs'
  have l3 : ∀ K, oLen (some (.slice 3)) v3 K h1 = K (.int .i64 P.length) h1 := fun K => by rw [len_val (hP h1 hs1), List.length_map]
  have l4 : ∀ K, oLen (some (.slice 4)) v4 K h1 = K (.int .i64 H.length) h1 := fun K => by rw [len_val (hH h1 hs1), List.length_map]
  cases hf : fewB l with
  | false =>
    simp -implicitDefEqProofs only [go_sem]
    exact hret _ _ _ _ hs1
  | true =>
    have hll : l.length ≤ 70 := by
      unfold fewB at hf
      rw [Bool.and_eq_true, decide_eq_true_eq] at hf
      exact hf.2
    cases dP : decide ((10 : Int) < (P.length : Int)) with
    | true =>
      simp -implicitDefEqProofs only [go_sem, l3, dP]
      exact hret _ _ _ _ hs1
    | false =>
      have hPl : P.length ≤ 10 := by have := of_decide_eq_false dP; omega
      cases dH : decide ((70 : Int) < (H.length : Int)) with
      | true =>
        simp -implicitDefEqProofs only [go_sem, l3, dP, l4, dH]
        exact hret _ _ _ _ hs1
      | false =>
        cases dn : decide ((80 : Int) < (name.size : Int)) with
        | true =>
          simp -implicitDefEqProofs only [go_sem, l3, dP, l4, dH, dn]
          exact hret _ _ _ _ hs1
        | false =>
          simp -implicitDefEqProofs only [go_sem, l3, dP, l4, dH, dn]
          refine new_fn hs1 fun h2 p hs2 => ?_
          simp -implicitDefEqProofs only [go_sem]
          refine rnew_fn hs2 fun h3 r hs3 => ?_
          refine LoopS.st (σ := Nat) (fun i => [v0, .int .i64 id, .string name, v3, v4, .bool false, .bool true, ptr p, ptr r, .int .i64 i]) (fun i h' => Sep h' (linR p (fillM newL [] (l.take i)).1 :: refR r (fillM newL [] (l.take i)).1 (fillM newL [] (l.take i)).2 :: F) ∧ i ≤ l.length) (fun i => l.length - i) 0 rfl ⟨hs3.swap, Nat.zero_le _⟩ ?_
          rintro i h' ⟨hs', hi⟩
          have hinv := fill_inv (l.take i) newL [] 0 Inv.new (by simp; omega)
          have hid := idok_fill (l.take i) newL [] (by intro k x hx; simp [newL] at hx)
          have hD : 0 + (l.take i).length ≤ 900 := by simp; omega
          by_cases hil : i < l.length
          · have htk : l.take (i + 1) = l.take i ++ [l[i]] := List.take_succ_eq_append_getElem hil
            refine tells_round hv hll hil hinv hD hid hs' fun h4 hs4 => ?_
            rw [thenL_normal]
            refine NextSt.mk (i + 1) rfl ⟨?_, hil⟩ (by omega)
            rw [htk, fillM_snoc]
            exact hs4
          · have hd : decide ((i : Int) < (l.length : Int)) = false := by simp; omega
            have hlv : ∀ K, oLen (some (.slice 49)) v0 K h' = K (.int .i64 l.length) h' := fun K => by rw [len_val (hv h' hs'.tail.tail), List.length_map]
            simp -implicitDefEqProofs only [f4_T5, go_sem, hlv, hd]
            exact tells_end hinv hD hP hH hPl hs' hk
end
end Go.Proofs.Ytfooakkfoemdkaa

/- LineageTells: the statement. -/
namespace Go.Proofs.Ytfooakkfoemdkaa.lineageTells
open Go.ChangeMaps Go.ChangeShapes Go.WideShapes Go.ChangeAt Go.RowKit Go.Fw Go.Proofs.Ytfooakkfoemdkaa
set_option linter.unusedVariables false
theorem own : ownKnob Try.prog.godebug = none := by kernel_rfl
theorem laidOut : laidOutB Try.prog = true := by kernel_rfl
theorem walk (W : World) (v0 : Value) (l0 : List Deed) (hd0 : RowsR (fun b => b < W.heap.size) W.heap v0 4 (l0.map deedRow)) (hl0 : l0.length ≤ maxLen) (a1 : Int) (a2 : ByteArray) (w2 : a2.size ≤ maxLen) (v3 : Value) (l3 : List Int) (hd3 : RowsR (fun b => b < W.heap.size) W.heap v3 1 (l3.map intRow)) (hl3 : l3.length ≤ maxLen) (v4 : Value) (l4 : List Bool) (hd4 : RowsR (fun b => b < W.heap.size) W.heap v4 1 (l4.map boolRow)) (hl4 : l4.length ≤ maxLen) :
    Calls Try.prog 4 #[v0, .int .i64 a1, .string a2, v3, v4] W fun e W' => e = .returned (.bool true) ∧ Below W.heap.size W W' :=
  fn_below fun hs => tells_law hs (fun h' hs => frozen_rows (hs.at 0) hd0) (by unfold maxLen at hl0; omega) (fun h' hs => frozen_rows (hs.at 0) hd3) (fun h' hs => frozen_rows (hs.at 0) hd4) fun h' hs => ⟨rfl, hs⟩
set_option maxRecDepth 100000 in
theorem lifted (os : Os) (started : os.Started) (H : Type) (enc : TypeId × Value → H) :
    ReturnsInHanded {} Try.checked os 4 .any (Rows.lineageTellsSpec.pre6 enc Try.prog Try.f4 Rows.lineageTellsRow.domain false) (Rows.lineageTellsSpec.post enc Try.prog Try.f4 false true false false) := by
  refine returnsInHanded_of_change (C := Try.checked) own started (by kernel_rfl) Try.func4
    (ChangeSpec.witness6 (enc := enc) (C := Try.checked) false ⟨#[], #[.slice none 0 0, .int .i64 0, .string ⟨#[]⟩, .slice none 0 0, .slice none 0 0], []⟩ 8 (by kernel_rfl) (by kernel_rfl) (by kernel_rfl) (by kernel_rfl)) ?_
  intro W base args ds gs before hval0 hW hcnd _
  have hval : ∀ (j : Nat) t v, Try.f4.params[j]? = some t → args[j]? = some v → Value.okWide Try.prog W .any base t v := hval0
  have hW' := hW
  obtain ⟨p, q, hA0, hV, rfl, hfz, hnd⟩ := hW
  have hA : DataW.TrodAll enc Try.prog W 0 (fun _ => true) true Try.f4.params.toList args.toList ds p := hA0
  rw [Try.params4] at hA hval
  obtain ⟨v0, vs0, d0, ds0, p0, q0, hargs, rfl, rfl, h0, r0⟩ := trodAll_cons hA
  obtain ⟨v1, vs1, d1, ds1, p1, q1, rfl, rfl, rfl, h1, r1⟩ := trodAll_cons r0
  obtain ⟨v2, vs2, d2, ds2, p2, q2, rfl, rfl, rfl, h2, r2⟩ := trodAll_cons r1
  obtain ⟨v3, vs3, d3, ds3, p3, q3, rfl, rfl, rfl, h3, r3⟩ := trodAll_cons r2
  obtain ⟨v4, vs4, d4, ds4, p4, q4, rfl, rfl, rfl, h4, r4⟩ := trodAll_cons r3
  obtain ⟨rfl, rfl, rfl⟩ := trodAll_nil r4
  obtain rfl : args = #[v0, v1, v2, v3, v4] := by cases args; simp_all
  obtain ⟨rfl, rfl⟩ := trodVars_none hV
  obtain ⟨ad0, len0, cap0, rfl⟩ := okWide_slice ru22 (hval 0 22 v0 rfl rfl)
  have k0 := h0
  have lt0 : ∀ x ∈ p0, x.block < W.heap.size := by obtain ⟨m, hm⟩ := k0; exact DataW.trod_lt m _ _ _ hm
  obtain ⟨fuel0, g0⟩ := h0
  obtain ⟨l0, v0', e0, hd0, hl0⟩ := rd_deeds _ _ _ _ _ _ g0
  simp only [Value.cells, List.cons.injEq, and_true] at e0
  subst e0
  obtain ⟨a1, rfl, rfl, rfl, w1⟩ := open_int ru3 (hval 1 3 v1 rfl rfl) h1
  obtain ⟨a2, rfl, rfl, rfl, w2⟩ := open_string ru9 (hval 2 9 v2 rfl rfl) h2
  obtain ⟨ad3, len3, cap3, rfl⟩ := okWide_slice ru41 (hval 3 41 v3 rfl rfl)
  have k3 := h3
  have lt3 : ∀ x ∈ p3, x.block < W.heap.size := by obtain ⟨m, hm⟩ := k3; exact DataW.trod_lt m _ _ _ hm
  obtain ⟨fuel3, g3⟩ := h3
  obtain ⟨l3, v3', e3, hd3, hl3⟩ := rd_ints _ _ _ _ _ _ g3
  simp only [Value.cells, List.cons.injEq, and_true] at e3
  subst e3
  obtain ⟨ad4, len4, cap4, rfl⟩ := okWide_slice ru42 (hval 4 42 v4 rfl rfl)
  have k4 := h4
  have lt4 : ∀ x ∈ p4, x.block < W.heap.size := by obtain ⟨m, hm⟩ := k4; exact DataW.trod_lt m _ _ _ hm
  obtain ⟨fuel4, g4⟩ := h4
  obtain ⟨l4, v4', e4, hd4, hl4⟩ := rd_bools _ _ _ _ _ _ g4
  simp only [Value.cells, List.cons.injEq, and_true] at e4
  subst e4
  clear hA0 hval0
  refine (walk W _ l0 hd0 hl0 a1 a2 w2 _ l3 hd3 hl3 _ l4 hd4 hl4).mono fun e W' ⟨he, bel⟩ => ?_
  subst he
  exact ⟨_, rfl, _, _, _, [], _, [], hW', trodAll_mk1 (shut_bool ru4 _), (trodAll_cons_mk (Below.trod laidOut (by kernel_rfl) (of_decide_eq_true (by kernel_rfl)) k0 bel lt0) (trodAll_cons_mk (shut_int ru3 w1) (trodAll_cons_mk (shut_string ru9 w2) (trodAll_cons_mk (Below.trod laidOut (by kernel_rfl) (of_decide_eq_true (by kernel_rfl)) k3 bel lt3) (trodAll_cons_mk (Below.trod laidOut (by kernel_rfl) (of_decide_eq_true (by kernel_rfl)) k4 bel lt4) trodAll_mk0))))), rfl, bel.frame _, fun h => by cases h⟩
theorem over : Rows.lineageTellsRow.holds Try.pinned (OpenSpec.ofChange Rows.lineageTellsSpec) :=
  OpenClaim.holds_of_wide 4 Try.f4 rfl rfl rfl rfl rfl rfl rfl ⟨rfl, rfl, rfl, rfl, rfl⟩ rfl rfl rfl rfl rfl (by kernel_rfl) Try.func4 (by kernel_rfl)
    (of_decide_eq_true (by kernel_rfl)) (by unfold Func.isWrapper; first | (rw [if_pos (by decide +kernel)]; kernel_rfl) | (rw [if_neg (by decide +kernel)]; exact ⟨rfl, rfl⟩))
    (fun os started H enc _ => lifted os started H enc)
theorem proved : Rows.LineageTellsSaid := over
end Go.Proofs.Ytfooakkfoemdkaa.lineageTells
namespace Go.Proofs.Ytfooakkfoemdkaa
/-- The statement LineageTells. -/
theorem lineageTells_holds : Rows.LineageTellsSaid := lineageTells.proved
#print axioms lineageTells_holds
end Go.Proofs.Ytfooakkfoemdkaa
