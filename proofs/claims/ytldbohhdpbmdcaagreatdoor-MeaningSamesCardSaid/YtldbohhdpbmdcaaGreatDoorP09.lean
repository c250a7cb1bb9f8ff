/- By an AI agent. Part of the proof: an abstract machine over the model, an evaluator over it, and contracts. Texts: MsBase, MsAll. -/
import Derived.Test.YtldbohhdpbmdcaaGreatDoorP04
import Derived.KernelRfl
import Derived.Test.YtldbohhdpbmdcaaGreatDoorChecked

namespace Go.Proofs.YtldbohhdpbmdcaaGreatDoor
open Go
open Go.Abs
noncomputable abbrev PP : Program := Tryz.prog
theorem follows : PP.follows .mixedOrders = true := by kernel_rfl
end Go.Proofs.YtldbohhdpbmdcaaGreatDoor

namespace Go.Proofs.YtldbohhdpbmdcaaGreatDoor
open Go.Abs
set_option maxRecDepth 100000
set_option linter.unusedVariables false

/-- treadmilllaw15.MeaningSames -/
def s3 (t0 t1 : AV) (Q : AV → Heap → Prop) (h : Heap) : Prop :=
  bindO (some (.iptr (cellsOf t0) 0)) fun t2 =>
  bindO (some (.iptr (cellsOf t1) 0)) fun t3 =>
  bindO (some (bool false)) fun t4 =>
  bindO (eFA 0 t2) fun t5 =>
  bindO (eLoad false 1 t5 h) fun t6 =>
  bindO (eLen t6) fun t7 =>
  bindO (eBin .gtr false t7 (int 500)) fun t8 =>
  bindO (some t8) fun t9 =>
  isV t9 ∧ gdO (t9 = bool false) (eFA 0 t3) fun t10 =>
  isV t9 ∧ gdO (t9 = bool false) (eLoad false 1 t10 h) fun t11 =>
  isV t9 ∧ gdO (t9 = bool false) (eLen t11) fun t12 =>
  isV t9 ∧ gdO (t9 = bool false) (eBin .gtr false t12 (int 500)) fun t13 =>
  bindO (ePick t9 (bool true) t13) fun t14 =>
  condW t14 (
    callP PP 4 [] h fun t15 =>
    bindO (some t15) fun t4 =>
    Q t4 h) (
    bindO (eLoad true 2 t2 h) fun t16 =>
    bindO (eLoad true 2 t3 h) fun t17 =>
    bindO (eLoad true 2 t2 h) fun t19 =>
    bindO (eLoad true 2 t3 h) fun t20 =>
    callP PP 5 [t16, t17] h fun t18 =>
    callP PP 6 [t19, t20] h fun t21 =>
    bindO (eBin .eql true t18 t21) fun t22 =>
    bindO (some t22) fun t23 =>
    isV t23 ∧ callG PP (t23 = bool true) 4 [] h fun t24 =>
    bindO (ePick t23 t24 (bool false)) fun t25 =>
    bindO (some t25) fun t4 =>
    Q t4 h)

def H3 : Hints := mkH 16415 [] [(3, [.op 0, .op 1, .op 3, .op 4, .op 2, .op 5, .op 6, .op 7, .op 8, .op 9, .op 10])] [] []

theorem s3_ok {t0 t1 : AV} {Q : AV → Heap → Prop} {h : Heap} (hp : s3 t0 t1 Q h) : ACalls PP 3 [t0, t1] h Q :=
  ok_of follows (n := 26) (res := [.tmp 4]) Tryz.func3 rfl (by kernel_rfl) (by kernel_rfl) Tryz.call3 (H := H3) (by kernel_rfl) (by kernel_rfl) hp

/-- meaning.Same -/
def s5 (t0 t1 : AV) (Q : AV → Heap → Prop) (h : Heap) : Prop :=
  bindO (some (.iptr (cellsOf t0) 0)) fun t2 =>
  bindO (some (.iptr (cellsOf t1) 0)) fun t3 =>
  bindO (some (bool false)) fun t4 =>
  bindO (eFA 1 t2) fun t5 =>
  bindO (eLoad false 1 t5 h) fun t6 =>
  bindO (eFA 1 t3) fun t7 =>
  bindO (eLoad false 1 t7 h) fun t8 =>
  bindO (eBin .eql false t6 t8) fun t9 =>
  bindO (some t9) fun t10 =>
  isV t10 ∧ gdO (t10 = bool true) (eFA 0 t2) fun t11 =>
  isV t10 ∧ gdO (t10 = bool true) (eLoad false 1 t11 h) fun t12 =>
  isV t10 ∧ gdO (t10 = bool true) (eFA 0 t3) fun t13 =>
  isV t10 ∧ gdO (t10 = bool true) (eLoad false 1 t13 h) fun t14 =>
  isV t10 ∧ callG PP (t10 = bool true) 10 [t12, t14] h fun t15 =>
  bindO (ePick t10 t15 (bool false)) fun t16 =>
  bindO (some t16) fun t4 =>
  Q t4 h

def H5 : Hints := mkH 31 [] [] [] []

theorem s5_ok {t0 t1 : AV} {Q : AV → Heap → Prop} {h : Heap} (hp : s5 t0 t1 Q h) : ACalls PP 5 [t0, t1] h Q :=
  ok_of follows (n := 17) (res := [.tmp 4]) Tryz.func5 rfl (by kernel_rfl) (by kernel_rfl) Tryz.call5 (H := H5) (by kernel_rfl) (by kernel_rfl) hp

/-- treadmillref15.Same -/
def s6 (t0 t1 : AV) (Q : AV → Heap → Prop) (h : Heap) : Prop :=
  bindO (some (.iptr (cellsOf t0) 0)) fun t2 =>
  bindO (some (.iptr (cellsOf t1) 0)) fun t3 =>
  bindO (some (bool false)) fun t4 =>
  bindO (eFA 1 t2) fun t6 =>
  bindO (eLoad false 1 t6 h) fun t7 =>
  bindO (eFA 1 t3) fun t8 =>
  bindO (eLoad false 1 t8 h) fun t9 =>
  bindO (eBin .neq false t7 t9) fun t10 =>
  bindO (some t10) fun t11 =>
  isV t11 ∧ gdO (t11 = bool false) (eFA 0 t2) fun t12 =>
  isV t11 ∧ gdO (t11 = bool false) (eLoad false 1 t12 h) fun t13 =>
  isV t11 ∧ gdO (t11 = bool false) (eLen t13) fun t14 =>
  isV t11 ∧ gdO (t11 = bool false) (eFA 0 t3) fun t15 =>
  isV t11 ∧ gdO (t11 = bool false) (eLoad false 1 t15 h) fun t16 =>
  isV t11 ∧ gdO (t11 = bool false) (eLen t16) fun t17 =>
  isV t11 ∧ gdO (t11 = bool false) (eBin .neq false t14 t17) fun t18 =>
  bindO (ePick t11 (bool true) t18) fun t19 =>
  condW t19 (
    bindO (some (bool false)) fun t4 =>
    Q t4 h) (
    bindO (some (int 0)) fun t5 =>
    loopW (fun (K : List AV → Heap → Prop) (s : List AV) (h : Heap) =>
      (fun (t5 : AV) =>
      bindO (some t5) fun t20 =>
      bindO (eFA 0 t2) fun t21 =>
      bindO (eLoad false 1 t21 h) fun t22 =>
      bindO (eLen t22) fun t23 =>
      bindO (eBin .lss false t20 t23) fun t24 =>
      condW t24 (
        bindO (eFA 0 t2) fun t27 =>
        bindO (eLoad false 1 t27 h) fun t28 =>
        bindO (some t5) fun t29 =>
        bindO (eIxS 1 t28 t29) fun t30 =>
        bindO (eLoad false 1 t30 h) fun t31 =>
        bindO (eFA 0 t3) fun t32 =>
        bindO (eLoad false 1 t32 h) fun t33 =>
        bindO (some t5) fun t34 =>
        bindO (eIxS 1 t33 t34) fun t35 =>
        bindO (eLoad false 1 t35 h) fun t36 =>
        bindO (eBin .neq false t31 t36) fun t37 =>
        condW t37 (
          bindO (some (bool false)) fun t4 =>
          Q t4 h) (
          bindO (some t5) fun t25 =>
          bindO (eBin .add false t25 (int 1)) fun t26 =>
          bindO (some t26) fun t5 =>
          dropW h fun h => K [t5] h)) (
        bindO (some (bool true)) fun t4 =>
        Q t4 h)) (lget s 0)) [t5] h)

def H6 : Hints := mkH 137456255039 [] [] [(4, [5])] [(4, 274876858416)]

theorem s6_ok {t0 t1 : AV} {Q : AV → Heap → Prop} {h : Heap} (hp : s6 t0 t1 Q h) : ACalls PP 6 [t0, t1] h Q :=
  ok_of follows (n := 38) (res := [.tmp 4]) Tryz.func6 rfl (by kernel_rfl) (by kernel_rfl) Tryz.call6 (H := H6) (by kernel_rfl) (by kernel_rfl) hp

/-- slices.Equal[[]int64,int64] -/
def s10 (t0 t1 : AV) (Q : AV → Heap → Prop) (h : Heap) : Prop :=
  bindO (some (bool false)) fun t4 =>
  bindO (some t0) fun t6 =>
  bindO (eLen t6) fun t7 =>
  bindO (some t1) fun t8 =>
  bindO (eLen t8) fun t9 =>
  bindO (eBin .neq false t7 t9) fun t10 =>
  condW t10 (
    bindO (some (bool false)) fun t4 =>
    Q t4 h) (
    bindO (some t0) fun t11 =>
    bindO (eLen t11) fun t12 =>
    bindO (some (int 0)) fun t13 =>
    loopW (fun (K : List AV → Heap → Prop) (s : List AV) (h : Heap) =>
      (fun (t13 : AV) =>
      bindO (eBin .lss false t13 t12) fun t14 =>
      condW t14 (
        bindO (some t13) fun t15 =>
        bindO (some t15) fun t5 =>
        bindO (some t0) fun t16 =>
        bindO (some t5) fun t17 =>
        bindO (eIxS 1 t16 t17) fun t18 =>
        bindO (eLoad false 1 t18 h) fun t19 =>
        bindO (some t1) fun t20 =>
        bindO (some t5) fun t21 =>
        bindO (eIxS 1 t20 t21) fun t22 =>
        bindO (eLoad false 1 t22 h) fun t23 =>
        bindO (eBin .neq false t19 t23) fun t24 =>
        condW t24 (
          bindO (some (bool false)) fun t4 =>
          Q t4 h) (
          bindO (eBin .add false t13 (int 1)) fun t25 =>
          bindO (some t25) fun t13 =>
          dropW h fun h => K [t13] h)) (
        bindO (some (bool true)) fun t4 =>
        Q t4 h)) (lget s 0)) [t13] h)

def H10 : Hints := mkH 16806963 [] [] [(4, [13])] [(4, 67100720)]

theorem s10_ok {t0 t1 : AV} {Q : AV → Heap → Prop} {h : Heap} (hp : s10 t0 t1 Q h) : ACalls PP 10 [t0, t1] h Q :=
  ok_of follows (n := 26) (res := [.tmp 4]) Tryz.func10 rfl (by kernel_rfl) (by kernel_rfl) Tryz.call10 (H := H10) (by kernel_rfl) (by kernel_rfl) hp

/-- treadmilllaw15.num -/
def s9 (t0 : AV) (Q : AV → Heap → Prop) (h : Heap) : Prop :=
  bindO (some (int 0)) fun t2 =>
  bindO (some t0) fun t3 =>
  bindO (some t3) fun t2 =>
  Q t2 h

def H9 : Hints := mkH 5 [] [] [] []

theorem s9_ok {t0 : AV} {Q : AV → Heap → Prop} {h : Heap} (hp : s9 t0 Q h) : ACalls PP 9 [t0] h Q :=
  ok_of follows (n := 4) (res := [.tmp 2]) Tryz.func9 rfl (by kernel_rfl) (by kernel_rfl) Tryz.call9 (H := H9) (by kernel_rfl) (by kernel_rfl) hp

end Go.Proofs.YtldbohhdpbmdcaaGreatDoor
