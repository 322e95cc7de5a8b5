import Derived.Test.YtbfjeejgkceedaaGreatDoorPartC
import Derived.Test.YtbfjeejgkceedaaGreatDoorChecked
import Derived.KernelRfl
import Derived.Below
import Derived.Sort.Grow
import Derived.Deep.Draws
import Derived.IntWalk
namespace Go.Proofs.YtbfjeejgkceedaaGreatDoor
open Go.RX
/- strings.Split -/
def c10035 : Ctr := { f := 35, cid := 10035, sg := { nv := 2, params := [(.x (.var 0) 9), (.x (.var 1) 9)], heap := [], outs := [{ nv := 1, res := (.own 0), heap := [(.row 9 (.var 0) true)], stay := [] }] } }
/- strconv.Itoa -/
def c10044 : Ctr := { f := 44, cid := 10044, sg := { nv := 1, params := [(.x (.var 0) 3)], heap := [], outs := [{ nv := 1, res := (.x (.var 0) 9), heap := [], stay := [] }] } }
/- strconv.FormatInt -/
def c10057 : Ctr := { f := 57, cid := 10057, sg := { nv := 2, params := [(.x (.var 0) 2), (.x (.var 1) 3)], heap := [], outs := [{ nv := 1, res := (.x (.var 0) 9), heap := [], stay := [] }] } }
/- strings.Join -/
def c10058 : Ctr := { f := 58, cid := 10058, sg := { nv := 2, params := [(.x (.var 0) 39), (.x (.var 1) 9)], heap := [], outs := [{ nv := 1, res := (.x (.var 0) 9), heap := [], stay := [] }] } }
/- strconv.ParseInt -/
def c10099 : Ctr := { f := 99, cid := 10099, sg := { nv := 3, params := [(.x (.var 0) 9), (.x (.var 1) 3), (.x (.var 2) 3)], heap := [], outs := [{ nv := 1, res := (.tup (.cons (.x (.var 0) 2) (.cons .nili .nil))), heap := [], stay := [] }, { nv := 1, res := (.tup (.cons (.x (.var 0) 2) (.cons .ifv .nil))), heap := [], stay := [] }] } }
/- strings.Cut -/
def c10100 : Ctr := { f := 100, cid := 10100, sg := { nv := 2, params := [(.x (.var 0) 9), (.x (.var 1) 9)], heap := [], outs := [{ nv := 3, res := (.tup (.cons (.x (.var 0) 9) (.cons (.x (.var 1) 9) (.cons (.x (.var 2) 4) .nil)))), heap := [], stay := [] }] } }
/- slices.Clone[[]byte,byte] -/
def c10106 : Ctr := { f := 106, cid := 10106, sg := { nv := 1, params := [(.x (.var 0) 54)], heap := [], outs := [{ nv := 1, res := (.own 0), heap := [(.row 5 (.var 0) true)], stay := [] }] } }
/- novation/pack.New -/
def c7 : Ctr := { f := 85, cid := 7, sg := { nv := 0, params := [], heap := [], outs := [{ nv := 0, res := (.ptr 0 0), heap := [(.box (.cons (.x (.bool true) 4) (.cons .nils .nil)))], stay := [] }] } }
def t7 : T :=
 (.y 0 .nil)
theorem t7_ok : compile { P := Tryz.prog, cs := [] } Tryz.f85 c7.sg = some t7 := by kernel_rfl
/- (*novation/pack.Writer).ok -/
def c8 : Ctr := { f := 114, cid := 8, sg := { nv := 2, params := [(.ptr 0 0)], heap := [(.rbox (.cons (.x (.var 0) 4) (.cons (.x (.var 1) 54) .nil)))], outs := [{ nv := 1, res := (.x (.var 0) 4), heap := [.dead], stay := [] }] } }
def t8 : T :=
 (.y 0 (.cons (.var 0) .nil))
theorem t8_ok : compile { P := Tryz.prog, cs := [] } Tryz.f114 c8.sg = some t8 := by kernel_rfl
/- novation/pack.folded -/
def c9 : Ctr := { f := 116, cid := 9, sg := { nv := 1, params := [(.x (.var 0) 2)], heap := [], outs := [{ nv := 1, res := (.x (.var 0) 121), heap := [], stay := [] }] } }
def t9 : T :=
 (.y 0 (.cons (.bin .xor .u64 (.wrap .u64 (.bin .shl .i64 (.var 0) (.int 1))) (.wrap .u64 (.bin .shr .i64 (.var 0) (.int 63)))) .nil))
theorem t9_ok : compile { P := Tryz.prog, cs := [] } Tryz.f116 c9.sg = some t9 := by kernel_rfl
/- (*novation/pack.Writer).one -/
def c10 : Ctr := { f := 115, cid := 10, sg := { nv := 3, params := [(.ptr 0 0), (.x (.var 2) 121)], heap := [(.box (.cons (.x (.var 0) 4) (.cons (.own 1) .nil))), (.row 5 (.var 1) false)], outs := [{ nv := 2, res := (.tup .nil), heap := [(.box (.cons (.x (.var 0) 4) (.cons (.own 2) .nil))), .dead, (.row 5 (.var 1) false)], stay := [] }] } }
def t10b0 : T :=
 (.ite (.cmp .geq (.var 3) (.int 128))
 (.chk (.fits (.var 4) (.lit (.cons (.cons (.bin .or .u8 (.wrap .u8 (.var 3)) (.int 128)) .nil) .nil)) 1)
  (.y 0 (.cons (.bin .shr .u64 (.var 3) (.int 7)) (.cons (.app (.var 4) (.lit (.cons (.cons (.bin .or .u8 (.wrap .u8 (.var 3)) (.int 128)) .nil) .nil))) .nil))))
 (.y 1 (.cons (.var 3) (.cons (.var 4) .nil))))
def t10 : T :=
 (.loop (.cons (.var 2) (.cons (.var 1) .nil)) t10b0
 (.alt (.chk (.fits (.var 4) (.lit (.cons (.cons (.wrap .u8 (.var 3)) .nil) .nil)) 1)
 (.y 0 (.cons (.var 0) (.cons (.app (.var 4) (.lit (.cons (.cons (.wrap .u8 (.var 3)) .nil) .nil))) .nil)))) .nil))
theorem t10_ok : compile { P := Tryz.prog, cs := [] } Tryz.f115 c10.sg = some t10 := by kernel_rfl
/- (*novation/pack.Writer).Int -/
def c11 : Ctr := { f := 86, cid := 11, sg := { nv := 3, params := [(.ptr 0 0), (.x (.var 2) 24)], heap := [(.box (.cons (.x (.var 0) 4) (.cons (.own 1) .nil))), (.row 5 (.var 1) false)], outs := [{ nv := 2, res := (.ptr 0 0), heap := [(.box (.cons (.x (.var 0) 4) (.cons (.own 1) .nil))), (.row 5 (.var 1) false)], stay := [] }] } }
def t11b0 : T :=
 (.ite (.cmp .lss (.var 4) (.len (.var 2)))
 (.chk (.cmp .geq (.var 4) (.int 0))
  (.chk (.cmp .lss (.var 4) (.len (.var 2)))
  (.call 9 (.cons (.fld (.idx (.var 2) (.var 4)) 0) .nil)
  (.alt (.call 10 (.cons (.var 5) (.cons (.var 6) (.cons (.var 7) .nil)))
  (.alt (.y 0 (.cons (.bin .add .i64 (.var 4) (.int 1)) (.cons (.var 8) (.cons (.var 9) .nil)))) .nil)) .nil))))
 (.y 1 (.cons (.var 5) (.cons (.var 6) .nil))))
def t11 : T :=
 (.bind
   (.call 8 (.cons (.var 0) (.cons (.var 1) .nil))
   (.alt (.ite (.var 3)
   (.loop (.cons (.int 0) (.cons (.var 0) (.cons (.var 1) .nil))) t11b0
    (.alt (.y 0 (.cons (.var 4) (.cons (.var 5) .nil))) .nil))
   (.y 0 (.cons (.var 0) (.cons (.var 1) .nil)))) .nil))
 (.alt (.y 0 (.cons (.var 3) (.cons (.var 4) .nil))) .nil))
theorem t11_ok : compile { P := Tryz.prog, cs := [c8, c9, c10] } Tryz.f86 c11.sg = some t11 := by kernel_rfl
/- novation/cmd.Fields -/
def c12 : Ctr := { f := 28, cid := 12, sg := { nv := 1, params := [(.x (.var 0) 3)], heap := [], outs := [{ nv := 1, res := (.x (.var 0) 9), heap := [], stay := [] }] } }
def t12 : T :=
 (.bind
   (.ite (.cmp .eql (.var 0) (.int 1))
   (.y 0 (.cons (.cmp .eql (.var 0) (.int 1)) .nil))
   (.ite (.cmp .eql (.var 0) (.int 6))
    (.y 0 (.cons (.cmp .eql (.var 0) (.int 6)) .nil))
    (.y 0 (.cons (.cmp .eql (.var 0) (.int 21)) .nil))))
 (.alt (.ite (.var 1)
 (.y 0 (.cons (.str [77, 81]) .nil))
 (.ite (.cmp .eql (.var 0) (.int 2))
  (.y 0 (.cons (.str [73, 81, 80, 78]) .nil))
  (.ite (.cmp .eql (.var 0) (.int 3))
   (.y 0 (.cons (.str [65, 80, 81]) .nil))
   (.ite (.cmp .eql (.var 0) (.int 4))
    (.y 0 (.cons (.str [85, 77, 68]) .nil))
    (.bind
       (.ite (.cmp .eql (.var 0) (.int 5))
       (.y 0 (.cons (.cmp .eql (.var 0) (.int 5)) .nil))
       (.ite (.cmp .eql (.var 0) (.int 22))
        (.y 0 (.cons (.cmp .eql (.var 0) (.int 22)) .nil))
        (.ite (.cmp .eql (.var 0) (.int 26))
         (.y 0 (.cons (.cmp .eql (.var 0) (.int 26)) .nil))
         (.ite (.cmp .eql (.var 0) (.int 27))
          (.y 0 (.cons (.cmp .eql (.var 0) (.int 27)) .nil))
          (.ite (.cmp .eql (.var 0) (.int 28))
           (.y 0 (.cons (.cmp .eql (.var 0) (.int 28)) .nil))
           (.y 0 (.cons (.cmp .eql (.var 0) (.int 29)) .nil)))))))
     (.alt (.ite (.var 2)
     (.y 0 (.cons (.str [85]) .nil))
     (.bind
        (.ite (.cmp .eql (.var 0) (.int 7))
        (.y 0 (.cons (.cmp .eql (.var 0) (.int 7)) .nil))
        (.ite (.cmp .eql (.var 0) (.int 8))
         (.y 0 (.cons (.cmp .eql (.var 0) (.int 8)) .nil))
         (.y 0 (.cons (.cmp .eql (.var 0) (.int 24)) .nil))))
      (.alt (.ite (.var 3)
      (.y 0 (.cons (.str [85, 79, 73, 81, 80]) .nil))
      (.bind
         (.ite (.cmp .eql (.var 0) (.int 9))
         (.y 0 (.cons (.cmp .eql (.var 0) (.int 9)) .nil))
         (.ite (.cmp .eql (.var 0) (.int 10))
          (.y 0 (.cons (.cmp .eql (.var 0) (.int 10)) .nil))
          (.y 0 (.cons (.cmp .eql (.var 0) (.int 11)) .nil))))
       (.alt (.ite (.var 4)
       (.y 0 (.cons (.str [68]) .nil))
       (.ite (.cmp .eql (.var 0) (.int 12))
        (.y 0 (.cons (.str [85, 73, 78]) .nil))
        (.ite (.cmp .eql (.var 0) (.int 13))
         (.y 0 (.cons (.str [68, 79, 81]) .nil))
         (.ite (.cmp .eql (.var 0) (.int 14))
          (.y 0 (.cons (.str [73, 80]) .nil))
          (.ite (.cmp .eql (.var 0) (.int 15))
           (.y 0 (.cons (.str [65, 80]) .nil))
           (.bind
              (.ite (.cmp .eql (.var 0) (.int 17))
              (.y 0 (.cons (.cmp .eql (.var 0) (.int 17)) .nil))
              (.y 0 (.cons (.cmp .eql (.var 0) (.int 18)) .nil)))
            (.alt (.ite (.var 5)
            (.y 0 (.cons (.str [85, 65, 84, 81]) .nil))
            (.bind
               (.ite (.cmp .eql (.var 0) (.int 19))
               (.y 0 (.cons (.cmp .eql (.var 0) (.int 19)) .nil))
               (.y 0 (.cons (.cmp .eql (.var 0) (.int 20)) .nil)))
             (.alt (.ite (.var 6)
             (.y 0 (.cons (.str [85, 79]) .nil))
             (.bind
                (.ite (.cmp .eql (.var 0) (.int 23))
                (.y 0 (.cons (.cmp .eql (.var 0) (.int 23)) .nil))
                (.ite (.cmp .eql (.var 0) (.int 25))
                 (.y 0 (.cons (.cmp .eql (.var 0) (.int 25)) .nil))
                 (.y 0 (.cons (.cmp .eql (.var 0) (.int 31)) .nil))))
              (.alt (.ite (.var 7)
              (.y 0 (.cons (.str [77]) .nil))
              (.y 0 (.cons (.str []) .nil))) .nil))) .nil))) .nil))))))) .nil))) .nil))) .nil)))))) .nil))
theorem t12_ok : compile { P := Tryz.prog, cs := [] } Tryz.f28 c12.sg = some t12 := by kernel_rfl
/- novation/cmd.unit -/
def c13 : Ctr := { f := 117, cid := 13, sg := { nv := 4, params := [(.ptr 0 0), (.agg (.cons (.x (.var 2) 3) (.cons (.x (.var 3) 3) .nil)))], heap := [(.box (.cons (.x (.var 0) 4) (.cons (.own 1) .nil))), (.row 5 (.var 1) false)], outs := [{ nv := 2, res := (.tup .nil), heap := [(.box (.cons (.x (.var 0) 4) (.cons (.own 2) .nil))), .dead, (.row 5 (.var 1) false)], stay := [] }] } }
def t13 : T :=
 (.call 11 (.cons (.var 0) (.cons (.var 1) (.cons (.lit (.cons (.cons (.var 2) .nil) (.cons (.cons (.var 3) .nil) .nil))) .nil)))
 (.alt (.y 0 (.cons (.var 4) (.cons (.var 5) .nil))) .nil))
theorem t13_ok : compile { P := Tryz.prog, cs := [c11] } Tryz.f117 c13.sg = some t13 := by kernel_rfl
/- novation/cmd.field -/
def c14 : Ctr := { f := 87, cid := 14, sg := { nv := 17, params := [(.ptr 0 0), (.agg (.cons (.x (.var 2) 3) (.cons (.x (.var 3) 3) (.cons (.x (.var 4) 3) (.cons (.x (.var 5) 3) (.cons (.x (.var 6) 3) (.cons (.x (.var 7) 3) (.cons (.x (.var 8) 3) (.cons (.x (.var 9) 3) (.cons (.x (.var 10) 3) (.cons (.x (.var 11) 3) (.cons (.x (.var 12) 3) (.cons (.x (.var 13) 2) (.cons (.x (.var 14) 2) (.cons (.x (.var 15) 24) .nil))))))))))))))), (.x (.var 16) 21)], heap := [(.box (.cons (.x (.var 0) 4) (.cons (.own 1) .nil))), (.row 5 (.var 1) false)], outs := [{ nv := 2, res := (.tup .nil), heap := [(.box (.cons (.x (.var 0) 4) (.cons (.own 2) .nil))), .dead, (.row 5 (.var 1) false)], stay := [] }] } }
def t14 : T :=
 (.ite (.cmp .eql (.var 16) (.int 77))
 (.call 11 (.cons (.var 0) (.cons (.var 1) (.cons (.lit (.cons (.cons (.var 4) .nil) .nil)) .nil)))
  (.alt (.y 0 (.cons (.var 17) (.cons (.var 18) .nil))) .nil))
 (.ite (.cmp .eql (.var 16) (.int 85))
  (.call 13 (.cons (.var 0) (.cons (.var 1) (.cons (.var 5) (.cons (.var 6) .nil))))
   (.alt (.y 0 (.cons (.var 17) (.cons (.var 18) .nil))) .nil))
  (.ite (.cmp .eql (.var 16) (.int 79))
   (.call 13 (.cons (.var 0) (.cons (.var 1) (.cons (.var 7) (.cons (.var 8) .nil))))
    (.alt (.y 0 (.cons (.var 17) (.cons (.var 18) .nil))) .nil))
   (.ite (.cmp .eql (.var 16) (.int 73))
    (.call 11 (.cons (.var 0) (.cons (.var 1) (.cons (.lit (.cons (.cons (.var 9) .nil) .nil)) .nil)))
     (.alt (.y 0 (.cons (.var 17) (.cons (.var 18) .nil))) .nil))
    (.ite (.cmp .eql (.var 16) (.int 65))
     (.call 11 (.cons (.var 0) (.cons (.var 1) (.cons (.lit (.cons (.cons (.var 10) .nil) .nil)) .nil)))
      (.alt (.y 0 (.cons (.var 17) (.cons (.var 18) .nil))) .nil))
     (.ite (.cmp .eql (.var 16) (.int 84))
      (.call 11 (.cons (.var 0) (.cons (.var 1) (.cons (.lit (.cons (.cons (.var 11) .nil) .nil)) .nil)))
       (.alt (.y 0 (.cons (.var 17) (.cons (.var 18) .nil))) .nil))
      (.ite (.cmp .eql (.var 16) (.int 68))
       (.call 11 (.cons (.var 0) (.cons (.var 1) (.cons (.lit (.cons (.cons (.var 12) .nil) .nil)) .nil)))
        (.alt (.y 0 (.cons (.var 17) (.cons (.var 18) .nil))) .nil))
       (.ite (.cmp .eql (.var 16) (.int 81))
        (.call 11 (.cons (.var 0) (.cons (.var 1) (.cons (.lit (.cons (.cons (.var 13) .nil) .nil)) .nil)))
         (.alt (.y 0 (.cons (.var 17) (.cons (.var 18) .nil))) .nil))
        (.ite (.cmp .eql (.var 16) (.int 80))
         (.call 11 (.cons (.var 0) (.cons (.var 1) (.cons (.lit (.cons (.cons (.var 14) .nil) .nil)) .nil)))
          (.alt (.y 0 (.cons (.var 17) (.cons (.var 18) .nil))) .nil))
         (.ite (.cmp .eql (.var 16) (.int 78))
          (.call 11 (.cons (.var 0) (.cons (.var 1) (.cons (.lit (.cons (.cons (.len (.var 15)) .nil) .nil)) .nil)))
           (.alt (.call 11 (.cons (.var 17) (.cons (.var 18) (.cons (.var 15) .nil)))
           (.alt (.y 0 (.cons (.var 19) (.cons (.var 20) .nil))) .nil)) .nil))
          (.y 0 (.cons (.var 0) (.cons (.var 1) .nil)))))))))))))
theorem t14_ok : compile { P := Tryz.prog, cs := [c11, c13] } Tryz.f87 c14.sg = some t14 := by kernel_rfl
/- (*novation/pack.Writer).Done -/
def c15 : Ctr := { f := 88, cid := 15, sg := { nv := 2, params := [(.ptr 0 0)], heap := [(.rbox (.cons (.x (.var 0) 4) (.cons (.x (.var 1) 54) .nil)))], outs := [{ nv := 1, res := (.own 1), heap := [.dead, (.row 5 (.var 0) true)], stay := [] }] } }
def t15 : T :=
 (.call 8 (.cons (.var 0) (.cons (.var 1) .nil))
 (.alt (.ite (.not (.var 2))
 (.y 0 (.cons (.lit .nil) .nil))
 (.call 10106 (.cons (.var 1) .nil)
  (.alt (.y 0 (.cons (.var 3) .nil)) .nil))) .nil))
theorem t15_ok : compile { P := Tryz.prog, cs := [c10106, c8] } Tryz.f88 c15.sg = some t15 := by kernel_rfl
/- novation/cmd.bytesOf -/
def c16 : Ctr := { f := 55, cid := 16, sg := { nv := 1, params := [(.x (.var 0) 26)], heap := [], outs := [{ nv := 1, res := (.own 0), heap := [(.row 5 (.var 0) true)], stay := [] }] } }
def t16b0 : T :=
 (.ite (.cmp .lss (.var 6) (.slen (.var 3)))
 (.call 14 (.cons (.var 4) (.cons (.var 5) (.cons (.fld (.var 0) 0) (.cons (.fld (.var 0) 1) (.cons (.fld (.var 0) 2) (.cons (.fld (.var 0) 3) (.cons (.fld (.var 0) 4) (.cons (.fld (.var 0) 5) (.cons (.fld (.var 0) 6) (.cons (.fld (.var 0) 7) (.cons (.fld (.var 0) 8) (.cons (.fld (.var 0) 9) (.cons (.fld (.var 0) 10) (.cons (.fld (.var 0) 11) (.cons (.fld (.var 0) 12) (.cons (.fld (.var 0) 13) (.cons (.ruc (.var 3) (.var 6)) .nil)))))))))))))))))
  (.alt (.y 0 (.cons (.var 7) (.cons (.var 8) (.cons (.bin .add .i64 (.var 6) (.ruw (.var 3) (.var 6))) .nil)))) .nil))
 (.y 1 (.cons (.var 4) (.cons (.var 5) .nil))))
def t16 : T :=
 (.call 7 .nil
 (.alt (.call 11 (.cons (.bool true) (.cons (.lit .nil) (.cons (.lit (.cons (.cons (.fld (.var 0) 0) .nil) (.cons (.cons (.fld (.var 0) 1) .nil) .nil))) .nil)))
 (.alt (.call 12 (.cons (.fld (.var 0) 0) .nil)
 (.alt (.loop (.cons (.var 1) (.cons (.var 2) (.cons (.int 0) .nil))) t16b0
 (.alt (.call 15 (.cons (.var 4) (.cons (.var 5) .nil))
 (.alt (.y 0 (.cons (.var 6) .nil)) .nil)) .nil)) .nil)) .nil)) .nil))
theorem t16_ok : compile { P := Tryz.prog, cs := [c7, c11, c12, c14, c15] } Tryz.f55 c16.sg = some t16 := by kernel_rfl
/- novation/pack.Open -/
def c17 : Ctr := { f := 80, cid := 17, sg := { nv := 1, params := [(.x (.var 0) 54)], heap := [], outs := [{ nv := 1, res := (.ptr 1 0), heap := [(.row 5 (.var 0) true), (.box (.cons (.x (.bool true) 4) (.cons (.own 0) (.cons (.x (.int 0) 29) .nil))))], stay := [] }] } }
def t17 : T :=
 (.call 10106 (.cons (.var 0) .nil)
 (.alt (.y 0 (.cons (.var 1) .nil)) .nil))
theorem t17_ok : compile { P := Tryz.prog, cs := [c10106] } Tryz.f80 c17.sg = some t17 := by kernel_rfl
/- (*novation/pack.Reader).good -/
def c18 : Ctr := { f := 107, cid := 18, sg := { nv := 3, params := [(.ptr 0 0)], heap := [(.rbox (.cons (.x (.var 0) 4) (.cons (.x (.var 1) 54) (.cons (.x (.var 2) 29) .nil))))], outs := [{ nv := 1, res := (.x (.var 0) 4), heap := [.dead], stay := [] }] } }
def t18 : T :=
 (.bind
   (.ite (.var 0)
   (.y 0 (.cons (.cmp .eql (.var 2) (.int 0)) .nil))
   (.y 0 (.cons (.bool false) .nil)))
 (.alt (.y 0 (.cons (.var 3) .nil)) .nil))
theorem t18_ok : compile { P := Tryz.prog, cs := [] } Tryz.f107 c18.sg = some t18 := by kernel_rfl
/- (*novation/pack.Reader).fail -/
def c19 : Ctr := { f := 110, cid := 19, sg := { nv := 4, params := [(.ptr 0 0), (.x (.var 3) 29)], heap := [(.box (.cons (.x (.var 0) 4) (.cons (.x (.var 1) 54) (.cons (.x (.var 2) 29) .nil))))], outs := [{ nv := 2, res := (.tup .nil), heap := [(.box (.cons (.x (.var 0) 4) (.cons .nils (.cons (.x (.var 1) 29) .nil))))], stay := [] }] } }
def t19 : T :=
 (.y 0 (.cons (.var 0) (.cons (.var 3) .nil)))
theorem t19_ok : compile { P := Tryz.prog, cs := [] } Tryz.f110 c19.sg = some t19 := by kernel_rfl
/- (*novation/pack.Reader).number -/
def c20 : Ctr := { f := 108, cid := 20, sg := { nv := 3, params := [(.ptr 0 0)], heap := [(.box (.cons (.x (.var 0) 4) (.cons (.x (.var 1) 54) (.cons (.x (.var 2) 29) .nil))))], outs := [{ nv := 5, res := (.tup (.cons (.x (.var 0) 121) (.cons (.x (.var 1) 4) .nil))), heap := [(.box (.cons (.x (.var 2) 4) (.cons (.x (.var 3) 54) (.cons (.x (.var 4) 29) .nil))))], stay := [] }] } }
def t20b0 : T :=
 (.ite (.cmp .eql (.len (.var 5)) (.int 0))
 (.call 19 (.cons (.var 0) (.cons (.var 5) (.cons (.var 2) (.cons (.int 4) .nil))))
  (.alt (.y 1 (.cons (.var 6) (.cons (.var 7) .nil))) .nil))
 (.chk (.cmp .lss (.int 0) (.len (.var 5)))
  (.chk (.cmp .leq (.int 1) (.len (.var 5)))
  (.chk (.cmp .leq (.len (.var 5)) (.len (.var 5)))
  (.bind
    (.ite (.cmp .gtr (.var 4) (.int 63))
    (.y 0 (.cons (.bool true) .nil))
    (.ite (.cmp .eql (.var 4) (.int 63))
     (.ite (.cmp .gtr (.fld (.idx (.var 5) (.int 0)) 0) (.int 1))
      (.y 0 (.cons (.bool true) .nil))
      (.ite (.cmp .eql (.fld (.idx (.var 5) (.int 0)) 0) (.int 0))
       (.y 0 (.cons (.cmp .gtr (.var 4) (.int 0)) .nil))
       (.y 0 (.cons (.bool false) .nil))))
     (.ite (.cmp .eql (.fld (.idx (.var 5) (.int 0)) 0) (.int 0))
      (.y 0 (.cons (.cmp .gtr (.var 4) (.int 0)) .nil))
      (.y 0 (.cons (.bool false) .nil)))))
  (.alt (.ite (.var 6)
  (.call 19 (.cons (.var 0) (.cons (.tk (.var 5) (.int 1) (.len (.var 5))) (.cons (.var 2) (.cons (.int 3) .nil))))
   (.alt (.y 2 (.cons (.var 7) (.cons (.var 8) .nil))) .nil))
  (.chk (.cmp .geq (.var 4) (.int 0))
   (.ite (.cmp .lss (.fld (.idx (.var 5) (.int 0)) 0) (.int 128))
   (.y 3 (.cons (.bin .or .u64 (.var 3) (.bin .shl .u64 (.wrap .u64 (.bin .and .u8 (.fld (.idx (.var 5) (.int 0)) 0) (.int 127))) (.var 4))) (.cons (.tk (.var 5) (.int 1) (.len (.var 5))) .nil)))
   (.y 0 (.cons (.bin .or .u64 (.var 3) (.bin .shl .u64 (.wrap .u64 (.bin .and .u8 (.fld (.idx (.var 5) (.int 0)) 0) (.int 127))) (.var 4))) (.cons (.bin .add .i64 (.var 4) (.int 7)) (.cons (.tk (.var 5) (.int 1) (.len (.var 5))) .nil))))))) .nil))))))
def t20 : T :=
 (.loop (.cons (.int 0) (.cons (.int 0) (.cons (.var 1) .nil))) t20b0
 (.alt (.y 0 (.cons (.int 0) (.cons (.bool false) (.cons (.var 3) (.cons (.lit .nil) (.cons (.var 4) .nil))))))
 (.alt (.y 0 (.cons (.int 0) (.cons (.bool false) (.cons (.var 3) (.cons (.lit .nil) (.cons (.var 4) .nil))))))
 (.alt (.y 0 (.cons (.var 3) (.cons (.bool true) (.cons (.var 0) (.cons (.var 4) (.cons (.var 2) .nil)))))) .nil))))
theorem t20_ok : compile { P := Tryz.prog, cs := [c19] } Tryz.f108 c20.sg = some t20 := by kernel_rfl
/- novation/pack.unfolded -/
def c21 : Ctr := { f := 109, cid := 21, sg := { nv := 1, params := [(.x (.var 0) 121)], heap := [], outs := [{ nv := 1, res := (.x (.var 0) 2), heap := [], stay := [] }] } }
def t21 : T :=
 (.y 0 (.cons (.bin .xor .i64 (.wrap .i64 (.bin .shr .u64 (.var 0) (.int 1))) (.bin .sub .i64 (.int 0) (.wrap .i64 (.bin .and .u64 (.var 0) (.int 1))))) .nil))
theorem t21_ok : compile { P := Tryz.prog, cs := [] } Tryz.f109 c21.sg = some t21 := by kernel_rfl
/- (*novation/pack.Reader).Int -/
def c22 : Ctr := { f := 81, cid := 22, sg := { nv := 5, params := [(.ptr 0 0), (.x (.var 3) 2), (.x (.var 4) 2)], heap := [(.box (.cons (.x (.var 0) 4) (.cons (.x (.var 1) 54) (.cons (.x (.var 2) 29) .nil))))], outs := [{ nv := 4, res := (.x (.var 0) 2), heap := [(.box (.cons (.x (.var 1) 4) (.cons (.x (.var 2) 54) (.cons (.x (.var 3) 29) .nil))))], stay := [] }] } }
def t22 : T :=
 (.call 18 (.cons (.var 0) (.cons (.var 1) (.cons (.var 2) .nil)))
 (.alt (.ite (.not (.var 5))
 (.y 0 (.cons (.int 0) (.cons (.var 0) (.cons (.var 1) (.cons (.var 2) .nil)))))
 (.call 20 (.cons (.var 0) (.cons (.var 1) (.cons (.var 2) .nil)))
  (.alt (.call 21 (.cons (.var 6) .nil)
  (.alt (.ite (.not (.var 7))
  (.y 0 (.cons (.int 0) (.cons (.var 8) (.cons (.var 9) (.cons (.var 10) .nil)))))
  (.bind
     (.ite (.cmp .lss (.var 11) (.var 3))
     (.y 0 (.cons (.bool true) .nil))
     (.y 0 (.cons (.cmp .gtr (.var 11) (.var 4)) .nil)))
   (.alt (.ite (.var 12)
   (.call 19 (.cons (.var 8) (.cons (.var 9) (.cons (.var 10) (.cons (.int 7) .nil))))
    (.alt (.y 0 (.cons (.int 0) (.cons (.var 13) (.cons (.lit .nil) (.cons (.var 14) .nil))))) .nil))
   (.y 0 (.cons (.var 11) (.cons (.var 8) (.cons (.var 9) (.cons (.var 10) .nil)))))) .nil))) .nil)) .nil))) .nil))
theorem t22_ok : compile { P := Tryz.prog, cs := [c18, c19, c20, c21] } Tryz.f81 c22.sg = some t22 := by kernel_rfl
/- novation/cmd.small -/
def c24 : Ctr := { f := 82, cid := 24, sg := { nv := 4, params := [(.ptr 0 0), (.x (.var 3) 3)], heap := [(.box (.cons (.x (.var 0) 4) (.cons (.x (.var 1) 54) (.cons (.x (.var 2) 29) .nil))))], outs := [{ nv := 4, res := (.x (.var 0) 2), heap := [(.box (.cons (.x (.var 1) 4) (.cons (.x (.var 2) 54) (.cons (.x (.var 3) 29) .nil))))], stay := [] }] } }
def t24 : T :=
 (.call 22 (.cons (.var 0) (.cons (.var 1) (.cons (.var 2) (.cons (.int 0) (.cons (.var 3) .nil)))))
 (.alt (.y 0 (.cons (.var 4) (.cons (.var 5) (.cons (.var 6) (.cons (.var 7) .nil))))) .nil))
theorem t24_ok : compile { P := Tryz.prog, cs := [c22] } Tryz.f82 c24.sg = some t24 := by kernel_rfl
/- novation/cmd.place -/
def c25 : Ctr := { f := 111, cid := 25, sg := { nv := 3, params := [(.ptr 0 0)], heap := [(.box (.cons (.x (.var 0) 4) (.cons (.x (.var 1) 54) (.cons (.x (.var 2) 29) .nil))))], outs := [{ nv := 5, res := (.agg (.cons (.x (.var 0) 2) (.cons (.x (.var 1) 2) .nil))), heap := [(.box (.cons (.x (.var 2) 4) (.cons (.x (.var 3) 54) (.cons (.x (.var 4) 29) .nil))))], stay := [] }] } }
def t25 : T :=
 (.call 24 (.cons (.var 0) (.cons (.var 1) (.cons (.var 2) (.cons (.int 16) .nil))))
 (.alt (.call 24 (.cons (.var 4) (.cons (.var 5) (.cons (.var 6) (.cons (.int 16) .nil))))
 (.alt (.y 0 (.cons (.var 3) (.cons (.var 7) (.cons (.var 8) (.cons (.var 9) (.cons (.var 10) .nil)))))) .nil)) .nil))
theorem t25_ok : compile { P := Tryz.prog, cs := [c24] } Tryz.f111 c25.sg = some t25 := by kernel_rfl
/- (*novation/pack.Reader).Err -/
def c26 : Ctr := { f := 113, cid := 26, sg := { nv := 3, params := [(.ptr 0 0)], heap := [(.rbox (.cons (.x (.var 0) 4) (.cons (.x (.var 1) 54) (.cons (.x (.var 2) 29) .nil))))], outs := [{ nv := 1, res := (.x (.var 0) 29), heap := [.dead], stay := [] }] } }
def t26 : T :=
 (.ite (.not (.var 0))
 (.y 0 (.cons (.int 1) .nil))
 (.y 0 (.cons (.var 2) .nil)))
theorem t26_ok : compile { P := Tryz.prog, cs := [] } Tryz.f113 c26.sg = some t26 := by kernel_rfl
/- novation/cmd.numbers -/
def c27 : Ctr := { f := 112, cid := 27, sg := { nv := 4, params := [(.ptr 0 0), (.x (.var 3) 3)], heap := [(.box (.cons (.x (.var 0) 4) (.cons (.x (.var 1) 54) (.cons (.x (.var 2) 29) .nil))))], outs := [{ nv := 4, res := (.own 1), heap := [(.box (.cons (.x (.var 0) 4) (.cons (.x (.var 1) 54) (.cons (.x (.var 2) 29) .nil)))), (.row 2 (.var 3) true)], stay := [] }] } }
def t27b0 : T :=
 (.bind
   (.ite (.cmp .gtr (.var 8) (.int 0))
   (.call 26 (.cons (.var 9) (.cons (.var 10) (.cons (.var 11) .nil)))
    (.alt (.y 0 (.cons (.cmp .eql (.var 13) (.int 0)) .nil)) .nil))
   (.y 0 (.cons (.bool false) .nil)))
 (.alt (.ite (.var 13)
 (.call 22 (.cons (.var 9) (.cons (.var 10) (.cons (.var 11) (.cons (.int (-9223372036854775808)) (.cons (.int 9223372036854775807) .nil)))))
  (.alt (.chk (.fits (.var 12) (.lit (.cons (.cons (.var 14) .nil) .nil)) 8)
  (.y 0 (.cons (.bin .sub .i64 (.var 8) (.int 1)) (.cons (.var 15) (.cons (.var 16) (.cons (.var 17) (.cons (.app (.var 12) (.lit (.cons (.cons (.var 14) .nil) .nil))) .nil))))))) .nil))
 (.y 1 (.cons (.var 9) (.cons (.var 10) (.cons (.var 11) (.cons (.var 12) .nil)))))) .nil))
def t27 : T :=
 (.call 24 (.cons (.var 0) (.cons (.var 1) (.cons (.var 2) (.cons (.var 3) .nil))))
 (.alt (.loop (.cons (.var 4) (.cons (.var 5) (.cons (.var 6) (.cons (.var 7) (.cons (.lit .nil) .nil))))) t27b0
 (.alt (.y 0 (.cons (.var 8) (.cons (.var 9) (.cons (.var 10) (.cons (.var 11) .nil))))) .nil)) .nil))
theorem t27_ok : compile { P := Tryz.prog, cs := [c22, c24, c26] } Tryz.f112 c27.sg = some t27 := by kernel_rfl
/- novation/cmd.take -/
def c28 : Ctr := { f := 83, cid := 28, sg := { nv := 18, params := [(.ptr 0 0), (.ptr 1 0), (.x (.var 17) 21)], heap := [(.box (.cons (.x (.var 0) 4) (.cons (.x (.var 1) 54) (.cons (.x (.var 2) 29) .nil)))), (.box (.cons (.x (.var 3) 2) (.cons (.x (.var 4) 2) (.cons (.x (.var 5) 3) (.cons (.x (.var 6) 3) (.cons (.x (.var 7) 3) (.cons (.x (.var 8) 3) (.cons (.x (.var 9) 3) (.cons (.x (.var 10) 3) (.cons (.x (.var 11) 3) (.cons (.x (.var 12) 3) (.cons (.x (.var 13) 3) (.cons (.x (.var 14) 2) (.cons (.x (.var 15) 2) (.cons (.x (.var 16) 24) .nil)))))))))))))))], outs := [{ nv := 17, res := (.tup .nil), heap := [(.box (.cons (.x (.var 0) 4) (.cons (.x (.var 1) 54) (.cons (.x (.var 2) 29) .nil)))), (.box (.cons (.x (.var 3) 2) (.cons (.x (.var 4) 2) (.cons (.x (.var 5) 2) (.cons (.x (.var 6) 3) (.cons (.x (.var 7) 3) (.cons (.x (.var 8) 3) (.cons (.x (.var 9) 3) (.cons (.x (.var 10) 3) (.cons (.x (.var 11) 3) (.cons (.x (.var 12) 3) (.cons (.x (.var 13) 3) (.cons (.x (.var 14) 2) (.cons (.x (.var 15) 2) (.cons (.x (.var 16) 24) .nil)))))))))))))))], stay := [] }] } }
def t28 : T :=
 (.ite (.cmp .eql (.var 17) (.int 77))
 (.call 24 (.cons (.var 0) (.cons (.var 1) (.cons (.var 2) (.cons (.int 8) .nil))))
  (.alt (.y 0 (.cons (.var 19) (.cons (.var 20) (.cons (.var 21) (.cons (.var 3) (.cons (.var 4) (.cons (.var 18) (.cons (.var 6) (.cons (.var 7) (.cons (.var 8) (.cons (.var 9) (.cons (.var 10) (.cons (.var 11) (.cons (.var 12) (.cons (.var 13) (.cons (.var 14) (.cons (.var 15) (.cons (.var 16) .nil)))))))))))))))))) .nil))
 (.ite (.cmp .eql (.var 17) (.int 85))
  (.call 25 (.cons (.var 0) (.cons (.var 1) (.cons (.var 2) .nil)))
   (.alt (.y 0 (.cons (.var 20) (.cons (.var 21) (.cons (.var 22) (.cons (.var 3) (.cons (.var 4) (.cons (.var 5) (.cons (.var 18) (.cons (.var 19) (.cons (.var 8) (.cons (.var 9) (.cons (.var 10) (.cons (.var 11) (.cons (.var 12) (.cons (.var 13) (.cons (.var 14) (.cons (.var 15) (.cons (.var 16) .nil)))))))))))))))))) .nil))
  (.ite (.cmp .eql (.var 17) (.int 79))
   (.call 25 (.cons (.var 0) (.cons (.var 1) (.cons (.var 2) .nil)))
    (.alt (.y 0 (.cons (.var 20) (.cons (.var 21) (.cons (.var 22) (.cons (.var 3) (.cons (.var 4) (.cons (.var 5) (.cons (.var 6) (.cons (.var 7) (.cons (.var 18) (.cons (.var 19) (.cons (.var 10) (.cons (.var 11) (.cons (.var 12) (.cons (.var 13) (.cons (.var 14) (.cons (.var 15) (.cons (.var 16) .nil)))))))))))))))))) .nil))
   (.ite (.cmp .eql (.var 17) (.int 73))
    (.call 24 (.cons (.var 0) (.cons (.var 1) (.cons (.var 2) (.cons (.int 8) .nil))))
     (.alt (.y 0 (.cons (.var 19) (.cons (.var 20) (.cons (.var 21) (.cons (.var 3) (.cons (.var 4) (.cons (.var 5) (.cons (.var 6) (.cons (.var 7) (.cons (.var 8) (.cons (.var 9) (.cons (.var 18) (.cons (.var 11) (.cons (.var 12) (.cons (.var 13) (.cons (.var 14) (.cons (.var 15) (.cons (.var 16) .nil)))))))))))))))))) .nil))
    (.ite (.cmp .eql (.var 17) (.int 65))
     (.call 24 (.cons (.var 0) (.cons (.var 1) (.cons (.var 2) (.cons (.int 4) .nil))))
      (.alt (.y 0 (.cons (.var 19) (.cons (.var 20) (.cons (.var 21) (.cons (.var 3) (.cons (.var 4) (.cons (.var 5) (.cons (.var 6) (.cons (.var 7) (.cons (.var 8) (.cons (.var 9) (.cons (.var 10) (.cons (.var 18) (.cons (.var 12) (.cons (.var 13) (.cons (.var 14) (.cons (.var 15) (.cons (.var 16) .nil)))))))))))))))))) .nil))
     (.ite (.cmp .eql (.var 17) (.int 84))
      (.call 24 (.cons (.var 0) (.cons (.var 1) (.cons (.var 2) (.cons (.int 255) .nil))))
       (.alt (.y 0 (.cons (.var 19) (.cons (.var 20) (.cons (.var 21) (.cons (.var 3) (.cons (.var 4) (.cons (.var 5) (.cons (.var 6) (.cons (.var 7) (.cons (.var 8) (.cons (.var 9) (.cons (.var 10) (.cons (.var 11) (.cons (.var 18) (.cons (.var 13) (.cons (.var 14) (.cons (.var 15) (.cons (.var 16) .nil)))))))))))))))))) .nil))
      (.ite (.cmp .eql (.var 17) (.int 68))
       (.call 24 (.cons (.var 0) (.cons (.var 1) (.cons (.var 2) (.cons (.int 1048576) .nil))))
        (.alt (.y 0 (.cons (.var 19) (.cons (.var 20) (.cons (.var 21) (.cons (.var 3) (.cons (.var 4) (.cons (.var 5) (.cons (.var 6) (.cons (.var 7) (.cons (.var 8) (.cons (.var 9) (.cons (.var 10) (.cons (.var 11) (.cons (.var 12) (.cons (.var 18) (.cons (.var 14) (.cons (.var 15) (.cons (.var 16) .nil)))))))))))))))))) .nil))
       (.ite (.cmp .eql (.var 17) (.int 81))
        (.call 22 (.cons (.var 0) (.cons (.var 1) (.cons (.var 2) (.cons (.int (-9223372036854775808)) (.cons (.int 9223372036854775807) .nil)))))
         (.alt (.y 0 (.cons (.var 19) (.cons (.var 20) (.cons (.var 21) (.cons (.var 3) (.cons (.var 4) (.cons (.var 5) (.cons (.var 6) (.cons (.var 7) (.cons (.var 8) (.cons (.var 9) (.cons (.var 10) (.cons (.var 11) (.cons (.var 12) (.cons (.var 13) (.cons (.var 18) (.cons (.var 15) (.cons (.var 16) .nil)))))))))))))))))) .nil))
        (.ite (.cmp .eql (.var 17) (.int 80))
         (.call 22 (.cons (.var 0) (.cons (.var 1) (.cons (.var 2) (.cons (.int (-9223372036854775808)) (.cons (.int 9223372036854775807) .nil)))))
          (.alt (.y 0 (.cons (.var 19) (.cons (.var 20) (.cons (.var 21) (.cons (.var 3) (.cons (.var 4) (.cons (.var 5) (.cons (.var 6) (.cons (.var 7) (.cons (.var 8) (.cons (.var 9) (.cons (.var 10) (.cons (.var 11) (.cons (.var 12) (.cons (.var 13) (.cons (.var 14) (.cons (.var 18) (.cons (.var 16) .nil)))))))))))))))))) .nil))
         (.ite (.cmp .eql (.var 17) (.int 78))
          (.call 27 (.cons (.var 0) (.cons (.var 1) (.cons (.var 2) (.cons (.int 32) .nil))))
           (.alt (.y 0 (.cons (.var 18) (.cons (.var 19) (.cons (.var 20) (.cons (.var 3) (.cons (.var 4) (.cons (.var 5) (.cons (.var 6) (.cons (.var 7) (.cons (.var 8) (.cons (.var 9) (.cons (.var 10) (.cons (.var 11) (.cons (.var 12) (.cons (.var 13) (.cons (.var 14) (.cons (.var 15) (.cons (.var 21) .nil)))))))))))))))))) .nil))
          (.y 0 (.cons (.var 0) (.cons (.var 1) (.cons (.var 2) (.cons (.var 3) (.cons (.var 4) (.cons (.var 5) (.cons (.var 6) (.cons (.var 7) (.cons (.var 8) (.cons (.var 9) (.cons (.var 10) (.cons (.var 11) (.cons (.var 12) (.cons (.var 13) (.cons (.var 14) (.cons (.var 15) (.cons (.var 16) .nil))))))))))))))))))))))))))))
theorem t28_ok : compile { P := Tryz.prog, cs := [c22, c24, c25, c27] } Tryz.f83 c28.sg = some t28 := by kernel_rfl
/- (*novation/pack.Reader).End -/
def c29 : Ctr := { f := 84, cid := 29, sg := { nv := 3, params := [(.ptr 0 0)], heap := [(.rbox (.cons (.x (.var 0) 4) (.cons (.x (.var 1) 54) (.cons (.x (.var 2) 29) .nil))))], outs := [{ nv := 1, res := (.x (.var 0) 29), heap := [.dead], stay := [] }] } }
def t29 : T :=
 (.call 26 (.cons (.var 0) (.cons (.var 1) (.cons (.var 2) .nil)))
 (.alt (.ite (.cmp .neq (.var 3) (.int 0))
 (.y 0 (.cons (.var 3) .nil))
 (.ite (.cmp .gtr (.len (.var 1)) (.int 0))
  (.y 0 (.cons (.int 5) .nil))
  (.y 0 (.cons (.int 0) .nil)))) .nil))
theorem t29_ok : compile { P := Tryz.prog, cs := [c26] } Tryz.f84 c29.sg = some t29 := by kernel_rfl
/- novation/cmd.read -/
def c30 : Ctr := { f := 54, cid := 30, sg := { nv := 1, params := [(.x (.var 0) 54)], heap := [], outs := [{ nv := 15, res := (.tup (.cons (.agg (.cons (.x (.var 0) 3) (.cons (.x (.var 1) 3) (.cons (.x (.var 2) 3) (.cons (.x (.var 3) 3) (.cons (.x (.var 4) 3) (.cons (.x (.var 5) 3) (.cons (.x (.var 6) 3) (.cons (.x (.var 7) 3) (.cons (.x (.var 8) 3) (.cons (.x (.var 9) 3) (.cons (.x (.var 10) 3) (.cons (.x (.var 11) 2) (.cons (.x (.var 12) 2) (.cons (.x (.var 13) 24) .nil))))))))))))))) (.cons (.x (.var 14) 29) .nil))), heap := [], stay := [] }] } }
def t30b0 : T :=
 (.ite (.cmp .lss (.var 28) (.slen (.var 10)))
 (.call 28 (.cons (.var 11) (.cons (.var 12) (.cons (.var 13) (.cons (.var 14) (.cons (.var 15) (.cons (.var 16) (.cons (.var 17) (.cons (.var 18) (.cons (.var 19) (.cons (.var 20) (.cons (.var 21) (.cons (.var 22) (.cons (.var 23) (.cons (.var 24) (.cons (.var 25) (.cons (.var 26) (.cons (.var 27) (.cons (.ruc (.var 10) (.var 28)) .nil))))))))))))))))))
  (.alt (.y 0 (.cons (.var 29) (.cons (.var 30) (.cons (.var 31) (.cons (.var 32) (.cons (.var 33) (.cons (.var 34) (.cons (.var 35) (.cons (.var 36) (.cons (.var 37) (.cons (.var 38) (.cons (.var 39) (.cons (.var 40) (.cons (.var 41) (.cons (.var 42) (.cons (.var 43) (.cons (.var 44) (.cons (.var 45) (.cons (.bin .add .i64 (.var 28) (.ruw (.var 10) (.var 28))) .nil))))))))))))))))))) .nil))
 (.y 1 (.cons (.var 11) (.cons (.var 12) (.cons (.var 13) (.cons (.var 14) (.cons (.var 15) (.cons (.var 16) (.cons (.var 17) (.cons (.var 18) (.cons (.var 19) (.cons (.var 20) (.cons (.var 21) (.cons (.var 22) (.cons (.var 23) (.cons (.var 24) (.cons (.var 25) (.cons (.var 26) (.cons (.var 27) .nil)))))))))))))))))))
def t30 : T :=
 (.call 17 (.cons (.var 0) .nil)
 (.alt (.call 22 (.cons (.bool true) (.cons (.var 1) (.cons (.int 0) (.cons (.int 1) (.cons (.int 31) .nil)))))
 (.alt (.call 24 (.cons (.var 3) (.cons (.var 4) (.cons (.var 5) (.cons (.int 8) .nil))))
 (.alt (.call 12 (.cons (.var 2) .nil)
 (.alt (.loop (.cons (.var 7) (.cons (.var 8) (.cons (.var 9) (.cons (.var 2) (.cons (.var 6) (.cons (.int 0) (.cons (.int 0) (.cons (.int 0) (.cons (.int 0) (.cons (.int 0) (.cons (.int 0) (.cons (.int 0) (.cons (.int 0) (.cons (.int 0) (.cons (.int 0) (.cons (.int 0) (.cons (.lit .nil) (.cons (.int 0) .nil)))))))))))))))))) t30b0
 (.alt (.call 29 (.cons (.var 11) (.cons (.var 12) (.cons (.var 13) .nil)))
 (.alt (.ite (.cmp .neq (.var 28) (.int 0))
 (.y 0 (.cons (.int 0) (.cons (.int 0) (.cons (.int 0) (.cons (.int 0) (.cons (.int 0) (.cons (.int 0) (.cons (.int 0) (.cons (.int 0) (.cons (.int 0) (.cons (.int 0) (.cons (.int 0) (.cons (.int 0) (.cons (.int 0) (.cons (.lit .nil) (.cons (.int 3) .nil))))))))))))))))
 (.y 0 (.cons (.var 14) (.cons (.var 15) (.cons (.var 16) (.cons (.var 17) (.cons (.var 18) (.cons (.var 19) (.cons (.var 20) (.cons (.var 21) (.cons (.var 22) (.cons (.var 23) (.cons (.var 24) (.cons (.var 25) (.cons (.var 26) (.cons (.var 27) (.cons (.int 0) .nil))))))))))))))))) .nil)) .nil)) .nil)) .nil)) .nil)) .nil))
theorem t30_ok : compile { P := Tryz.prog, cs := [c12, c17, c22, c24, c28, c29] } Tryz.f54 c30.sg = some t30 := by kernel_rfl
/- slices.Equal[[]int64,int64] -/
def c31 : Ctr := { f := 89, cid := 31, sg := { nv := 2, params := [(.x (.var 0) 24), (.x (.var 1) 24)], heap := [], outs := [{ nv := 1, res := (.x (.var 0) 4), heap := [], stay := [] }] } }
def t31b0 : T :=
 (.ite (.cmp .lss (.var 2) (.len (.var 0)))
 (.chk (.cmp .geq (.var 2) (.int 0))
  (.chk (.cmp .lss (.var 2) (.len (.var 0)))
  (.chk (.cmp .geq (.var 2) (.int 0))
  (.chk (.cmp .lss (.var 2) (.len (.var 1)))
  (.ite (.cmp .neq (.fld (.idx (.var 0) (.var 2)) 0) (.fld (.idx (.var 1) (.var 2)) 0))
  (.y 1 .nil)
  (.y 0 (.cons (.bin .add .i64 (.var 2) (.int 1)) .nil)))))))
 (.y 2 .nil))
def t31 : T :=
 (.ite (.cmp .neq (.len (.var 0)) (.len (.var 1)))
 (.y 0 (.cons (.bool false) .nil))
 (.loop (.cons (.int 0) .nil) t31b0
  (.alt (.y 0 (.cons (.bool false) .nil))
  (.alt (.y 0 (.cons (.bool true) .nil)) .nil))))
theorem t31_ok : compile { P := Tryz.prog, cs := [] } Tryz.f89 c31.sg = some t31 := by kernel_rfl
/- novation/cmd.same -/
def c32 : Ctr := { f := 56, cid := 32, sg := { nv := 2, params := [(.x (.var 0) 26), (.x (.var 1) 26)], heap := [], outs := [{ nv := 1, res := (.x (.var 0) 4), heap := [], stay := [] }] } }
def t32 : T :=
 (.call 31 (.cons (.fld (.var 0) 13) (.cons (.fld (.var 1) 13) .nil))
 (.alt (.bind
   (.ite (.var 2)
   (.ite (.cmp .eql (.fld (.var 0) 0) (.fld (.var 1) 0))
    (.ite (.cmp .eql (.fld (.var 0) 1) (.fld (.var 1) 1))
     (.ite (.cmp .eql (.fld (.var 0) 2) (.fld (.var 1) 2))
      (.ite (.and (.cmp .eql (.fld (.var 0) 3) (.fld (.var 1) 3)) (.cmp .eql (.fld (.var 0) 4) (.fld (.var 1) 4)))
       (.ite (.and (.cmp .eql (.fld (.var 0) 5) (.fld (.var 1) 5)) (.cmp .eql (.fld (.var 0) 6) (.fld (.var 1) 6)))
        (.ite (.cmp .eql (.fld (.var 0) 7) (.fld (.var 1) 7))
         (.ite (.cmp .eql (.fld (.var 0) 8) (.fld (.var 1) 8))
          (.ite (.cmp .eql (.fld (.var 0) 9) (.fld (.var 1) 9))
           (.ite (.cmp .eql (.fld (.var 0) 10) (.fld (.var 1) 10))
            (.ite (.cmp .eql (.fld (.var 0) 11) (.fld (.var 1) 11))
             (.y 0 (.cons (.cmp .eql (.fld (.var 0) 12) (.fld (.var 1) 12)) .nil))
             (.y 0 (.cons (.bool false) .nil)))
            (.y 0 (.cons (.bool false) .nil)))
           (.y 0 (.cons (.bool false) .nil)))
          (.y 0 (.cons (.bool false) .nil)))
         (.y 0 (.cons (.bool false) .nil)))
        (.y 0 (.cons (.bool false) .nil)))
       (.y 0 (.cons (.bool false) .nil)))
      (.y 0 (.cons (.bool false) .nil)))
     (.y 0 (.cons (.bool false) .nil)))
    (.y 0 (.cons (.bool false) .nil)))
   (.y 0 (.cons (.bool false) .nil)))
 (.alt (.y 0 (.cons (.var 3) .nil)) .nil)) .nil))
theorem t32_ok : compile { P := Tryz.prog, cs := [c31] } Tryz.f56 c32.sg = some t32 := by kernel_rfl
/- novation/cmd.Check -/
def c33 : Ctr := { f := 25, cid := 33, sg := { nv := 1, params := [(.x (.var 0) 26)], heap := [], outs := [{ nv := 1, res := (.x (.var 0) 29), heap := [], stay := [] }] } }
def t33 : T :=
 (.call 16 (.cons (.cons (.fld (.var 0) 0) (.cons (.fld (.var 0) 1) (.cons (.fld (.var 0) 2) (.cons (.fld (.var 0) 3) (.cons (.fld (.var 0) 4) (.cons (.fld (.var 0) 5) (.cons (.fld (.var 0) 6) (.cons (.fld (.var 0) 7) (.cons (.fld (.var 0) 8) (.cons (.fld (.var 0) 9) (.cons (.fld (.var 0) 10) (.cons (.fld (.var 0) 11) (.cons (.fld (.var 0) 12) (.cons (.fld (.var 0) 13) .nil)))))))))))))) .nil)
 (.alt (.call 30 (.cons (.var 1) .nil)
 (.alt (.bind
   (.ite (.cmp .neq (.var 16) (.int 0))
   (.y 0 (.cons (.bool true) .nil))
   (.call 32 (.cons (.cons (.var 2) (.cons (.var 3) (.cons (.var 4) (.cons (.var 5) (.cons (.var 6) (.cons (.var 7) (.cons (.var 8) (.cons (.var 9) (.cons (.var 10) (.cons (.var 11) (.cons (.var 12) (.cons (.var 13) (.cons (.var 14) (.cons (.var 15) .nil)))))))))))))) (.cons (.cons (.fld (.var 0) 0) (.cons (.fld (.var 0) 1) (.cons (.fld (.var 0) 2) (.cons (.fld (.var 0) 3) (.cons (.fld (.var 0) 4) (.cons (.fld (.var 0) 5) (.cons (.fld (.var 0) 6) (.cons (.fld (.var 0) 7) (.cons (.fld (.var 0) 8) (.cons (.fld (.var 0) 9) (.cons (.fld (.var 0) 10) (.cons (.fld (.var 0) 11) (.cons (.fld (.var 0) 12) (.cons (.fld (.var 0) 13) .nil)))))))))))))) .nil))
    (.alt (.y 0 (.cons (.not (.var 17)) .nil)) .nil)))
 (.alt (.ite (.var 17)
 (.y 0 (.cons (.int 3) .nil))
 (.y 0 (.cons (.int 0) .nil))) .nil)) .nil)) .nil))
theorem t33_ok : compile { P := Tryz.prog, cs := [c16, c30, c32] } Tryz.f25 c33.sg = some t33 := by kernel_rfl
/- novation/words.names -/
def c34 : Ctr := { f := 43, cid := 34, sg := { nv := 0, params := [], heap := [], outs := [{ nv := 0, res := (.own 0), heap := [(.row 9 (.lit (.cons (.cons (.str [109, 101, 109, 98, 101, 114]) .nil) (.cons (.cons (.str [105, 110, 115, 116]) .nil) (.cons (.cons (.str [97, 115, 115, 101, 116]) .nil) (.cons (.cons (.str [97, 99, 99, 111, 117, 110, 116]) .nil) (.cons (.cons (.str [98, 105, 110, 100]) .nil) (.cons (.cons (.str [99, 97, 112]) .nil) (.cons (.cons (.str [116, 114, 97, 100, 101]) .nil) (.cons (.cons (.str [103, 105, 118, 101]) .nil) (.cons (.cons (.str [97, 99, 99, 101, 112, 116]) .nil) (.cons (.cons (.str [114, 101, 106, 101, 99, 116]) .nil) (.cons (.cons (.str [99, 97, 110, 99, 101, 108]) .nil) (.cons (.cons (.str [98, 108, 111, 99, 107]) .nil) (.cons (.cons (.str [97, 108, 108, 111, 99]) .nil) (.cons (.cons (.str [109, 97, 114, 107]) .nil) (.cons (.cons (.str [118, 97, 108, 117, 101]) .nil) (.cons (.cons (.str [100, 97, 121]) .nil) (.cons (.cons (.str [100, 101, 112, 111, 115, 105, 116]) .nil) (.cons (.cons (.str [119, 105, 116, 104, 100, 114, 97, 119]) .nil) (.cons (.cons (.str [101, 108, 101, 99, 116]) .nil) (.cons (.cons (.str [99, 111, 110, 115, 101, 110, 116]) .nil) (.cons (.cons (.str [100, 101, 102, 97, 117, 108, 116]) .nil) (.cons (.cons (.str [112, 111, 114, 116]) .nil) (.cons (.cons (.str [108, 105, 113, 117, 105, 100, 97, 116, 101]) .nil) (.cons (.cons (.str [102, 105, 108, 108]) .nil) (.cons (.cons (.str [99, 108, 111, 115, 101]) .nil) (.cons (.cons (.str [112, 111, 115, 105, 116, 105, 111, 110]) .nil) (.cons (.cons (.str [99, 97, 115, 104]) .nil) (.cons (.cons (.str [110, 101, 101, 100]) .nil) (.cons (.cons (.str [101, 120, 99, 101, 115, 115]) .nil) (.cons (.cons (.str [99, 97, 108, 108, 115]) .nil) (.cons (.cons (.str [112, 104, 97, 115, 101]) .nil) .nil)))))))))))))))))))))))))))))))) true)], stay := [] }] } }
def t34 : T :=
 (.y 0 .nil)
theorem t34_ok : compile { P := Tryz.prog, cs := [] } Tryz.f43 c34.sg = some t34 := by kernel_rfl
/- novation/words.Word -/
def c35 : Ctr := { f := 14, cid := 35, sg := { nv := 1, params := [(.x (.var 0) 3)], heap := [], outs := [{ nv := 1, res := (.x (.var 0) 9), heap := [], stay := [] }] } }
def t35 : T :=
 (.bind
   (.ite (.cmp .lss (.var 0) (.int 1))
   (.y 0 (.cons (.bool true) .nil))
   (.y 0 (.cons (.cmp .gtr (.var 0) (.int 31)) .nil)))
 (.alt (.ite (.var 1)
 (.y 0 (.cons (.str []) .nil))
 (.call 34 .nil
  (.alt (.chk (.cmp .geq (.bin .sub .i64 (.var 0) (.int 1)) (.int 0))
  (.chk (.cmp .lss (.bin .sub .i64 (.var 0) (.int 1)) (.int 31))
  (.y 0 (.cons (.fld (.idx (.lit (.cons (.cons (.str [109, 101, 109, 98, 101, 114]) .nil) (.cons (.cons (.str [105, 110, 115, 116]) .nil) (.cons (.cons (.str [97, 115, 115, 101, 116]) .nil) (.cons (.cons (.str [97, 99, 99, 111, 117, 110, 116]) .nil) (.cons (.cons (.str [98, 105, 110, 100]) .nil) (.cons (.cons (.str [99, 97, 112]) .nil) (.cons (.cons (.str [116, 114, 97, 100, 101]) .nil) (.cons (.cons (.str [103, 105, 118, 101]) .nil) (.cons (.cons (.str [97, 99, 99, 101, 112, 116]) .nil) (.cons (.cons (.str [114, 101, 106, 101, 99, 116]) .nil) (.cons (.cons (.str [99, 97, 110, 99, 101, 108]) .nil) (.cons (.cons (.str [98, 108, 111, 99, 107]) .nil) (.cons (.cons (.str [97, 108, 108, 111, 99]) .nil) (.cons (.cons (.str [109, 97, 114, 107]) .nil) (.cons (.cons (.str [118, 97, 108, 117, 101]) .nil) (.cons (.cons (.str [100, 97, 121]) .nil) (.cons (.cons (.str [100, 101, 112, 111, 115, 105, 116]) .nil) (.cons (.cons (.str [119, 105, 116, 104, 100, 114, 97, 119]) .nil) (.cons (.cons (.str [101, 108, 101, 99, 116]) .nil) (.cons (.cons (.str [99, 111, 110, 115, 101, 110, 116]) .nil) (.cons (.cons (.str [100, 101, 102, 97, 117, 108, 116]) .nil) (.cons (.cons (.str [112, 111, 114, 116]) .nil) (.cons (.cons (.str [108, 105, 113, 117, 105, 100, 97, 116, 101]) .nil) (.cons (.cons (.str [102, 105, 108, 108]) .nil) (.cons (.cons (.str [99, 108, 111, 115, 101]) .nil) (.cons (.cons (.str [112, 111, 115, 105, 116, 105, 111, 110]) .nil) (.cons (.cons (.str [99, 97, 115, 104]) .nil) (.cons (.cons (.str [110, 101, 101, 100]) .nil) (.cons (.cons (.str [101, 120, 99, 101, 115, 115]) .nil) (.cons (.cons (.str [99, 97, 108, 108, 115]) .nil) (.cons (.cons (.str [112, 104, 97, 115, 101]) .nil) .nil)))))))))))))))))))))))))))))))) (.bin .sub .i64 (.var 0) (.int 1))) 0) .nil)))) .nil))) .nil))
theorem t35_ok : compile { P := Tryz.prog, cs := [c34] } Tryz.f14 c35.sg = some t35 := by kernel_rfl
/- (*novation/words.line).say -/
def c36 : Ctr := { f := 26, cid := 36, sg := { nv := 2, params := [(.ptr 0 0), (.x (.var 1) 39)], heap := [(.box (.cons (.own 1) .nil)), (.row 9 (.var 0) false)], outs := [{ nv := 1, res := (.tup .nil), heap := [(.box (.cons (.own 2) .nil)), .dead, (.row 9 (.var 0) false)], stay := [] }] } }
def t36 : T :=
 (.chk (.fits (.var 0) (.var 1) 16)
 (.y 0 (.cons (.app (.var 0) (.var 1)) .nil)))
theorem t36_ok : compile { P := Tryz.prog, cs := [] } Tryz.f26 c36.sg = some t36 := by kernel_rfl
/- (*novation/words.line).nums -/
def c37 : Ctr := { f := 27, cid := 37, sg := { nv := 2, params := [(.ptr 0 0), (.x (.var 1) 24)], heap := [(.box (.cons (.own 1) .nil)), (.row 9 (.var 0) false)], outs := [{ nv := 1, res := (.tup .nil), heap := [(.box (.cons (.own 1) .nil)), (.row 9 (.var 0) false)], stay := [] }] } }
def t37b0 : T :=
 (.ite (.cmp .lss (.var 2) (.len (.var 1)))
 (.chk (.cmp .geq (.var 2) (.int 0))
  (.chk (.cmp .lss (.var 2) (.len (.var 1)))
  (.call 10057 (.cons (.fld (.idx (.var 1) (.var 2)) 0) (.cons (.int 10) .nil))
  (.alt (.call 36 (.cons (.var 3) (.cons (.lit (.cons (.cons (.var 4) .nil) .nil)) .nil))
  (.alt (.y 0 (.cons (.bin .add .i64 (.var 2) (.int 1)) (.cons (.var 5) .nil))) .nil)) .nil))))
 (.y 1 (.cons (.var 3) .nil)))
def t37 : T :=
 (.loop (.cons (.int 0) (.cons (.var 0) .nil)) t37b0
 (.alt (.y 0 (.cons (.var 2) .nil)) .nil))
theorem t37_ok : compile { P := Tryz.prog, cs := [c10057, c36] } Tryz.f27 c37.sg = some t37 := by kernel_rfl
/- (*novation/words.line).units -/
def c38 : Ctr := { f := 45, cid := 38, sg := { nv := 2, params := [(.ptr 0 0), (.x (.var 1) 125)], heap := [(.box (.cons (.own 1) .nil)), (.row 9 (.var 0) false)], outs := [{ nv := 1, res := (.tup .nil), heap := [(.box (.cons (.own 1) .nil)), (.row 9 (.var 0) false)], stay := [] }] } }
def t38b0 : T :=
 (.ite (.cmp .lss (.var 2) (.len (.var 1)))
 (.chk (.cmp .geq (.var 2) (.int 0))
  (.chk (.cmp .lss (.var 2) (.len (.var 1)))
  (.call 10044 (.cons (.fld (.idx (.var 1) (.var 2)) 0) .nil)
  (.alt (.chk (.sfits (.var 4) (.str [46]))
  (.call 10044 (.cons (.fld (.idx (.var 1) (.var 2)) 1) .nil)
  (.alt (.chk (.sfits (.scat (.var 4) (.str [46])) (.var 5))
  (.call 36 (.cons (.var 3) (.cons (.lit (.cons (.cons (.scat (.scat (.var 4) (.str [46])) (.var 5)) .nil) .nil)) .nil))
  (.alt (.y 0 (.cons (.bin .add .i64 (.var 2) (.int 1)) (.cons (.var 6) .nil))) .nil))) .nil))) .nil))))
 (.y 1 (.cons (.var 3) .nil)))
def t38 : T :=
 (.loop (.cons (.int 0) (.cons (.var 0) .nil)) t38b0
 (.alt (.y 0 (.cons (.var 2) .nil)) .nil))
theorem t38_ok : compile { P := Tryz.prog, cs := [c10044, c36] } Tryz.f45 c38.sg = some t38 := by kernel_rfl
/- (*novation/words.line).field -/
def c39 : Ctr := { f := 29, cid := 39, sg := { nv := 16, params := [(.ptr 0 0), (.agg (.cons (.x (.var 1) 3) (.cons (.x (.var 2) 3) (.cons (.x (.var 3) 3) (.cons (.x (.var 4) 3) (.cons (.x (.var 5) 3) (.cons (.x (.var 6) 3) (.cons (.x (.var 7) 3) (.cons (.x (.var 8) 3) (.cons (.x (.var 9) 3) (.cons (.x (.var 10) 3) (.cons (.x (.var 11) 3) (.cons (.x (.var 12) 2) (.cons (.x (.var 13) 2) (.cons (.x (.var 14) 24) .nil))))))))))))))), (.x (.var 15) 21)], heap := [(.box (.cons (.own 1) .nil)), (.row 9 (.var 0) false)], outs := [{ nv := 1, res := (.tup .nil), heap := [(.box (.cons (.own 2) .nil)), .dead, (.row 9 (.var 0) false)], stay := [] }] } }
def t39 : T :=
 (.ite (.cmp .eql (.var 15) (.int 77))
 (.call 37 (.cons (.var 0) (.cons (.lit (.cons (.cons (.var 3) .nil) .nil)) .nil))
  (.alt (.y 0 (.cons (.var 16) .nil)) .nil))
 (.ite (.cmp .eql (.var 15) (.int 85))
  (.call 38 (.cons (.var 0) (.cons (.lit (.cons (.cons (.var 4) (.cons (.var 5) .nil)) .nil)) .nil))
   (.alt (.y 0 (.cons (.var 16) .nil)) .nil))
  (.ite (.cmp .eql (.var 15) (.int 79))
   (.call 38 (.cons (.var 0) (.cons (.lit (.cons (.cons (.var 6) (.cons (.var 7) .nil)) .nil)) .nil))
    (.alt (.y 0 (.cons (.var 16) .nil)) .nil))
   (.ite (.cmp .eql (.var 15) (.int 73))
    (.call 37 (.cons (.var 0) (.cons (.lit (.cons (.cons (.var 8) .nil) .nil)) .nil))
     (.alt (.y 0 (.cons (.var 16) .nil)) .nil))
    (.ite (.cmp .eql (.var 15) (.int 65))
     (.call 37 (.cons (.var 0) (.cons (.lit (.cons (.cons (.var 9) .nil) .nil)) .nil))
      (.alt (.y 0 (.cons (.var 16) .nil)) .nil))
     (.ite (.cmp .eql (.var 15) (.int 84))
      (.call 37 (.cons (.var 0) (.cons (.lit (.cons (.cons (.var 10) .nil) .nil)) .nil))
       (.alt (.y 0 (.cons (.var 16) .nil)) .nil))
      (.ite (.cmp .eql (.var 15) (.int 68))
       (.call 37 (.cons (.var 0) (.cons (.lit (.cons (.cons (.var 11) .nil) .nil)) .nil))
        (.alt (.y 0 (.cons (.var 16) .nil)) .nil))
       (.ite (.cmp .eql (.var 15) (.int 81))
        (.call 37 (.cons (.var 0) (.cons (.lit (.cons (.cons (.var 12) .nil) .nil)) .nil))
         (.alt (.y 0 (.cons (.var 16) .nil)) .nil))
        (.ite (.cmp .eql (.var 15) (.int 80))
         (.call 37 (.cons (.var 0) (.cons (.lit (.cons (.cons (.var 13) .nil) .nil)) .nil))
          (.alt (.y 0 (.cons (.var 16) .nil)) .nil))
         (.ite (.cmp .eql (.var 15) (.int 78))
          (.call 37 (.cons (.var 0) (.cons (.var 14) .nil))
           (.alt (.y 0 (.cons (.var 16) .nil)) .nil))
          (.y 0 (.cons (.var 0) .nil))))))))))))
theorem t39_ok : compile { P := Tryz.prog, cs := [c37, c38] } Tryz.f29 c39.sg = some t39 := by kernel_rfl
/- (*novation/words.line).done -/
def c40 : Ctr := { f := 30, cid := 40, sg := { nv := 1, params := [(.ptr 0 0)], heap := [(.rbox (.cons (.x (.var 0) 39) .nil))], outs := [{ nv := 1, res := (.x (.var 0) 9), heap := [.dead], stay := [] }] } }
def t40 : T :=
 (.call 10058 (.cons (.var 0) (.cons (.str [32]) .nil))
 (.alt (.y 0 (.cons (.var 1) .nil)) .nil))
theorem t40_ok : compile { P := Tryz.prog, cs := [c10058] } Tryz.f30 c40.sg = some t40 := by kernel_rfl
/- novation/words.Line -/
def c41 : Ctr := { f := 8, cid := 41, sg := { nv := 1, params := [(.x (.var 0) 26)], heap := [], outs := [{ nv := 2, res := (.tup (.cons (.x (.var 0) 9) (.cons (.x (.var 1) 29) .nil))), heap := [], stay := [] }] } }
def t41b0 : T :=
 (.ite (.cmp .lss (.var 7) (.slen (.var 5)))
 (.call 39 (.cons (.var 6) (.cons (.fld (.var 0) 0) (.cons (.fld (.var 0) 1) (.cons (.fld (.var 0) 2) (.cons (.fld (.var 0) 3) (.cons (.fld (.var 0) 4) (.cons (.fld (.var 0) 5) (.cons (.fld (.var 0) 6) (.cons (.fld (.var 0) 7) (.cons (.fld (.var 0) 8) (.cons (.fld (.var 0) 9) (.cons (.fld (.var 0) 10) (.cons (.fld (.var 0) 11) (.cons (.fld (.var 0) 12) (.cons (.fld (.var 0) 13) (.cons (.ruc (.var 5) (.var 7)) .nil))))))))))))))))
  (.alt (.y 0 (.cons (.var 8) (.cons (.bin .add .i64 (.var 7) (.ruw (.var 5) (.var 7))) .nil))) .nil))
 (.y 1 (.cons (.var 6) .nil)))
def t41 : T :=
 (.call 33 (.cons (.cons (.fld (.var 0) 0) (.cons (.fld (.var 0) 1) (.cons (.fld (.var 0) 2) (.cons (.fld (.var 0) 3) (.cons (.fld (.var 0) 4) (.cons (.fld (.var 0) 5) (.cons (.fld (.var 0) 6) (.cons (.fld (.var 0) 7) (.cons (.fld (.var 0) 8) (.cons (.fld (.var 0) 9) (.cons (.fld (.var 0) 10) (.cons (.fld (.var 0) 11) (.cons (.fld (.var 0) 12) (.cons (.fld (.var 0) 13) .nil)))))))))))))) .nil)
 (.alt (.ite (.cmp .neq (.var 1) (.int 0))
 (.y 0 (.cons (.str []) (.cons (.var 1) .nil)))
 (.call 35 (.cons (.fld (.var 0) 0) .nil)
  (.alt (.call 36 (.cons (.lit .nil) (.cons (.lit (.cons (.cons (.var 2) .nil) .nil)) .nil))
  (.alt (.call 37 (.cons (.var 3) (.cons (.lit (.cons (.cons (.fld (.var 0) 1) .nil) .nil)) .nil))
  (.alt (.call 12 (.cons (.fld (.var 0) 0) .nil)
  (.alt (.loop (.cons (.var 4) (.cons (.int 0) .nil)) t41b0
  (.alt (.call 40 (.cons (.var 6) .nil)
  (.alt (.y 0 (.cons (.var 7) (.cons (.int 0) .nil))) .nil)) .nil)) .nil)) .nil)) .nil)) .nil))) .nil))
theorem t41_ok : compile { P := Tryz.prog, cs := [c12, c33, c35, c36, c37, c39, c40] } Tryz.f8 c41.sg = some t41 := by kernel_rfl
/- (*novation/words.words).next -/
def c42 : Ctr := { f := 36, cid := 42, sg := { nv := 2, params := [(.ptr 0 0)], heap := [(.box (.cons (.x (.var 0) 39) (.cons (.x (.var 1) 4) .nil)))], outs := [{ nv := 3, res := (.x (.var 0) 9), heap := [(.box (.cons (.x (.var 1) 39) (.cons (.x (.var 2) 4) .nil)))], stay := [] }] } }
def t42 : T :=
 (.ite (.cmp .eql (.len (.var 0)) (.int 0))
 (.y 0 (.cons (.str []) (.cons (.var 0) (.cons (.bool false) .nil))))
 (.chk (.cmp .lss (.int 0) (.len (.var 0)))
  (.chk (.cmp .leq (.int 1) (.len (.var 0)))
  (.chk (.cmp .leq (.len (.var 0)) (.len (.var 0)))
  (.y 0 (.cons (.fld (.idx (.var 0) (.int 0)) 0) (.cons (.tk (.var 0) (.int 1) (.len (.var 0))) (.cons (.var 1) .nil))))))))
theorem t42_ok : compile { P := Tryz.prog, cs := [] } Tryz.f36 c42.sg = some t42 := by kernel_rfl
/- novation/words.Op -/
def c43 : Ctr := { f := 15, cid := 43, sg := { nv := 1, params := [(.x (.var 0) 9)], heap := [], outs := [{ nv := 1, res := (.x (.var 0) 3), heap := [], stay := [] }] } }
def t43b0 : T :=
 (.ite (.cmp .lss (.var 1) (.int 31))
 (.chk (.cmp .geq (.var 1) (.int 0))
  (.chk (.cmp .lss (.var 1) (.int 31))
  (.ite (.scmp .eql (.fld (.idx (.lit (.cons (.cons (.str [109, 101, 109, 98, 101, 114]) .nil) (.cons (.cons (.str [105, 110, 115, 116]) .nil) (.cons (.cons (.str [97, 115, 115, 101, 116]) .nil) (.cons (.cons (.str [97, 99, 99, 111, 117, 110, 116]) .nil) (.cons (.cons (.str [98, 105, 110, 100]) .nil) (.cons (.cons (.str [99, 97, 112]) .nil) (.cons (.cons (.str [116, 114, 97, 100, 101]) .nil) (.cons (.cons (.str [103, 105, 118, 101]) .nil) (.cons (.cons (.str [97, 99, 99, 101, 112, 116]) .nil) (.cons (.cons (.str [114, 101, 106, 101, 99, 116]) .nil) (.cons (.cons (.str [99, 97, 110, 99, 101, 108]) .nil) (.cons (.cons (.str [98, 108, 111, 99, 107]) .nil) (.cons (.cons (.str [97, 108, 108, 111, 99]) .nil) (.cons (.cons (.str [109, 97, 114, 107]) .nil) (.cons (.cons (.str [118, 97, 108, 117, 101]) .nil) (.cons (.cons (.str [100, 97, 121]) .nil) (.cons (.cons (.str [100, 101, 112, 111, 115, 105, 116]) .nil) (.cons (.cons (.str [119, 105, 116, 104, 100, 114, 97, 119]) .nil) (.cons (.cons (.str [101, 108, 101, 99, 116]) .nil) (.cons (.cons (.str [99, 111, 110, 115, 101, 110, 116]) .nil) (.cons (.cons (.str [100, 101, 102, 97, 117, 108, 116]) .nil) (.cons (.cons (.str [112, 111, 114, 116]) .nil) (.cons (.cons (.str [108, 105, 113, 117, 105, 100, 97, 116, 101]) .nil) (.cons (.cons (.str [102, 105, 108, 108]) .nil) (.cons (.cons (.str [99, 108, 111, 115, 101]) .nil) (.cons (.cons (.str [112, 111, 115, 105, 116, 105, 111, 110]) .nil) (.cons (.cons (.str [99, 97, 115, 104]) .nil) (.cons (.cons (.str [110, 101, 101, 100]) .nil) (.cons (.cons (.str [101, 120, 99, 101, 115, 115]) .nil) (.cons (.cons (.str [99, 97, 108, 108, 115]) .nil) (.cons (.cons (.str [112, 104, 97, 115, 101]) .nil) .nil)))))))))))))))))))))))))))))))) (.var 1)) 0) (.var 0))
  (.y 1 (.cons (.bin .add .i64 (.var 1) (.int 1)) .nil))
  (.y 0 (.cons (.bin .add .i64 (.var 1) (.int 1)) .nil)))))
 (.y 2 .nil))
def t43 : T :=
 (.call 34 .nil
 (.alt (.loop (.cons (.int 0) .nil) t43b0
 (.alt (.y 0 (.cons (.var 1) .nil))
 (.alt (.y 0 (.cons (.int 0) .nil)) .nil))) .nil))
theorem t43_ok : compile { P := Tryz.prog, cs := [c34] } Tryz.f15 c43.sg = some t43 := by kernel_rfl
/- novation/words.number -/
def c44 : Ctr := { f := 64, cid := 44, sg := { nv := 1, params := [(.x (.var 0) 9)], heap := [], outs := [{ nv := 2, res := (.tup (.cons (.x (.var 0) 2) (.cons (.x (.var 1) 4) .nil))), heap := [], stay := [] }] } }
def t44 : T :=
 (.call 10099 (.cons (.var 0) (.cons (.int 10) (.cons (.int 64) .nil)))
 (.alt (.call 10057 (.cons (.var 1) (.cons (.int 10) .nil))
  (.alt (.y 0 (.cons (.var 1) (.cons (.scmp .eql (.var 2) (.var 0)) .nil))) .nil))
 (.alt (.y 0 (.cons (.var 1) (.cons (.bool false) .nil))) .nil)))
theorem t44_ok : compile { P := Tryz.prog, cs := [c10057, c10099] } Tryz.f64 c44.sg = some t44 := by kernel_rfl
/- (*novation/words.words).num -/
def c45 : Ctr := { f := 37, cid := 45, sg := { nv := 2, params := [(.ptr 0 0)], heap := [(.box (.cons (.x (.var 0) 39) (.cons (.x (.var 1) 4) .nil)))], outs := [{ nv := 3, res := (.x (.var 0) 2), heap := [(.box (.cons (.x (.var 1) 39) (.cons (.x (.var 2) 4) .nil)))], stay := [] }] } }
def t45 : T :=
 (.call 42 (.cons (.var 0) (.cons (.var 1) .nil))
 (.alt (.call 44 (.cons (.var 2) .nil)
 (.alt (.bind
   (.ite (.var 4)
   (.y 0 (.cons (.var 6) .nil))
   (.y 0 (.cons (.bool false) .nil)))
 (.alt (.y 0 (.cons (.var 5) (.cons (.var 3) (.cons (.var 7) .nil)))) .nil)) .nil)) .nil))
theorem t45_ok : compile { P := Tryz.prog, cs := [c42, c44] } Tryz.f37 c45.sg = some t45 := by kernel_rfl
/- (*novation/words.words).unit -/
def c46 : Ctr := { f := 65, cid := 46, sg := { nv := 2, params := [(.ptr 0 0)], heap := [(.box (.cons (.x (.var 0) 39) (.cons (.x (.var 1) 4) .nil)))], outs := [{ nv := 4, res := (.agg (.cons (.x (.var 0) 2) (.cons (.x (.var 1) 2) .nil))), heap := [(.box (.cons (.x (.var 2) 39) (.cons (.x (.var 3) 4) .nil)))], stay := [] }] } }
def t46 : T :=
 (.call 42 (.cons (.var 0) (.cons (.var 1) .nil))
 (.alt (.call 10100 (.cons (.var 2) (.cons (.str [46]) .nil))
 (.alt (.call 44 (.cons (.var 5) .nil)
 (.alt (.call 44 (.cons (.var 6) .nil)
 (.alt (.bind
   (.ite (.var 4)
   (.ite (.var 9)
    (.y 0 (.cons (.var 11) .nil))
    (.y 0 (.cons (.bool false) .nil)))
   (.y 0 (.cons (.bool false) .nil)))
 (.alt (.y 0 (.cons (.var 8) (.cons (.var 10) (.cons (.var 3) (.cons (.var 12) .nil))))) .nil)) .nil)) .nil)) .nil)) .nil))
theorem t46_ok : compile { P := Tryz.prog, cs := [c10100, c42, c44] } Tryz.f65 c46.sg = some t46 := by kernel_rfl
/- (*novation/words.words).rest -/
def c47 : Ctr := { f := 66, cid := 47, sg := { nv := 2, params := [(.ptr 0 0)], heap := [(.box (.cons (.x (.var 0) 39) (.cons (.x (.var 1) 4) .nil)))], outs := [{ nv := 3, res := (.own 1), heap := [(.box (.cons (.x (.var 0) 39) (.cons (.x (.var 1) 4) .nil))), (.row 2 (.var 2) true)], stay := [] }] } }
def t47b0 : T :=
 (.bind
   (.ite (.cmp .gtr (.len (.var 2)) (.int 0))
   (.y 0 (.cons (.var 3) .nil))
   (.y 0 (.cons (.bool false) .nil)))
 (.alt (.ite (.var 5)
 (.call 45 (.cons (.var 2) (.cons (.var 3) .nil))
  (.alt (.chk (.fits (.var 4) (.lit (.cons (.cons (.var 6) .nil) .nil)) 8)
  (.y 0 (.cons (.var 7) (.cons (.var 8) (.cons (.app (.var 4) (.lit (.cons (.cons (.var 6) .nil) .nil))) .nil))))) .nil))
 (.y 1 (.cons (.var 2) (.cons (.var 3) (.cons (.var 4) .nil))))) .nil))
def t47 : T :=
 (.loop (.cons (.var 0) (.cons (.var 1) (.cons (.lit .nil) .nil))) t47b0
 (.alt (.y 0 (.cons (.var 2) (.cons (.var 3) (.cons (.var 4) .nil)))) .nil))
theorem t47_ok : compile { P := Tryz.prog, cs := [c45] } Tryz.f66 c47.sg = some t47 := by kernel_rfl
/- (*novation/words.words).take -/
def c48 : Ctr := { f := 38, cid := 48, sg := { nv := 17, params := [(.ptr 0 0), (.ptr 1 0), (.x (.var 16) 21)], heap := [(.box (.cons (.x (.var 0) 39) (.cons (.x (.var 1) 4) .nil))), (.box (.cons (.x (.var 2) 3) (.cons (.x (.var 3) 2) (.cons (.x (.var 4) 3) (.cons (.x (.var 5) 3) (.cons (.x (.var 6) 3) (.cons (.x (.var 7) 3) (.cons (.x (.var 8) 3) (.cons (.x (.var 9) 3) (.cons (.x (.var 10) 3) (.cons (.x (.var 11) 3) (.cons (.x (.var 12) 3) (.cons (.x (.var 13) 2) (.cons (.x (.var 14) 2) (.cons (.x (.var 15) 24) .nil)))))))))))))))], outs := [{ nv := 16, res := (.tup .nil), heap := [(.box (.cons (.x (.var 0) 39) (.cons (.x (.var 1) 4) .nil))), (.box (.cons (.x (.var 2) 3) (.cons (.x (.var 3) 2) (.cons (.x (.var 4) 2) (.cons (.x (.var 5) 3) (.cons (.x (.var 6) 3) (.cons (.x (.var 7) 3) (.cons (.x (.var 8) 3) (.cons (.x (.var 9) 3) (.cons (.x (.var 10) 3) (.cons (.x (.var 11) 3) (.cons (.x (.var 12) 3) (.cons (.x (.var 13) 2) (.cons (.x (.var 14) 2) (.cons (.x (.var 15) 24) .nil)))))))))))))))], stay := [] }] } }
def t48 : T :=
 (.ite (.cmp .eql (.var 16) (.int 77))
 (.call 45 (.cons (.var 0) (.cons (.var 1) .nil))
  (.alt (.y 0 (.cons (.var 18) (.cons (.var 19) (.cons (.var 2) (.cons (.var 3) (.cons (.var 17) (.cons (.var 5) (.cons (.var 6) (.cons (.var 7) (.cons (.var 8) (.cons (.var 9) (.cons (.var 10) (.cons (.var 11) (.cons (.var 12) (.cons (.var 13) (.cons (.var 14) (.cons (.var 15) .nil))))))))))))))))) .nil))
 (.ite (.cmp .eql (.var 16) (.int 85))
  (.call 46 (.cons (.var 0) (.cons (.var 1) .nil))
   (.alt (.y 0 (.cons (.var 19) (.cons (.var 20) (.cons (.var 2) (.cons (.var 3) (.cons (.var 4) (.cons (.var 17) (.cons (.var 18) (.cons (.var 7) (.cons (.var 8) (.cons (.var 9) (.cons (.var 10) (.cons (.var 11) (.cons (.var 12) (.cons (.var 13) (.cons (.var 14) (.cons (.var 15) .nil))))))))))))))))) .nil))
  (.ite (.cmp .eql (.var 16) (.int 79))
   (.call 46 (.cons (.var 0) (.cons (.var 1) .nil))
    (.alt (.y 0 (.cons (.var 19) (.cons (.var 20) (.cons (.var 2) (.cons (.var 3) (.cons (.var 4) (.cons (.var 5) (.cons (.var 6) (.cons (.var 17) (.cons (.var 18) (.cons (.var 9) (.cons (.var 10) (.cons (.var 11) (.cons (.var 12) (.cons (.var 13) (.cons (.var 14) (.cons (.var 15) .nil))))))))))))))))) .nil))
   (.ite (.cmp .eql (.var 16) (.int 73))
    (.call 45 (.cons (.var 0) (.cons (.var 1) .nil))
     (.alt (.y 0 (.cons (.var 18) (.cons (.var 19) (.cons (.var 2) (.cons (.var 3) (.cons (.var 4) (.cons (.var 5) (.cons (.var 6) (.cons (.var 7) (.cons (.var 8) (.cons (.var 17) (.cons (.var 10) (.cons (.var 11) (.cons (.var 12) (.cons (.var 13) (.cons (.var 14) (.cons (.var 15) .nil))))))))))))))))) .nil))
    (.ite (.cmp .eql (.var 16) (.int 65))
     (.call 45 (.cons (.var 0) (.cons (.var 1) .nil))
      (.alt (.y 0 (.cons (.var 18) (.cons (.var 19) (.cons (.var 2) (.cons (.var 3) (.cons (.var 4) (.cons (.var 5) (.cons (.var 6) (.cons (.var 7) (.cons (.var 8) (.cons (.var 9) (.cons (.var 17) (.cons (.var 11) (.cons (.var 12) (.cons (.var 13) (.cons (.var 14) (.cons (.var 15) .nil))))))))))))))))) .nil))
     (.ite (.cmp .eql (.var 16) (.int 84))
      (.call 45 (.cons (.var 0) (.cons (.var 1) .nil))
       (.alt (.y 0 (.cons (.var 18) (.cons (.var 19) (.cons (.var 2) (.cons (.var 3) (.cons (.var 4) (.cons (.var 5) (.cons (.var 6) (.cons (.var 7) (.cons (.var 8) (.cons (.var 9) (.cons (.var 10) (.cons (.var 17) (.cons (.var 12) (.cons (.var 13) (.cons (.var 14) (.cons (.var 15) .nil))))))))))))))))) .nil))
      (.ite (.cmp .eql (.var 16) (.int 68))
       (.call 45 (.cons (.var 0) (.cons (.var 1) .nil))
        (.alt (.y 0 (.cons (.var 18) (.cons (.var 19) (.cons (.var 2) (.cons (.var 3) (.cons (.var 4) (.cons (.var 5) (.cons (.var 6) (.cons (.var 7) (.cons (.var 8) (.cons (.var 9) (.cons (.var 10) (.cons (.var 11) (.cons (.var 17) (.cons (.var 13) (.cons (.var 14) (.cons (.var 15) .nil))))))))))))))))) .nil))
       (.ite (.cmp .eql (.var 16) (.int 81))
        (.call 45 (.cons (.var 0) (.cons (.var 1) .nil))
         (.alt (.y 0 (.cons (.var 18) (.cons (.var 19) (.cons (.var 2) (.cons (.var 3) (.cons (.var 4) (.cons (.var 5) (.cons (.var 6) (.cons (.var 7) (.cons (.var 8) (.cons (.var 9) (.cons (.var 10) (.cons (.var 11) (.cons (.var 12) (.cons (.var 17) (.cons (.var 14) (.cons (.var 15) .nil))))))))))))))))) .nil))
        (.ite (.cmp .eql (.var 16) (.int 80))
         (.call 45 (.cons (.var 0) (.cons (.var 1) .nil))
          (.alt (.y 0 (.cons (.var 18) (.cons (.var 19) (.cons (.var 2) (.cons (.var 3) (.cons (.var 4) (.cons (.var 5) (.cons (.var 6) (.cons (.var 7) (.cons (.var 8) (.cons (.var 9) (.cons (.var 10) (.cons (.var 11) (.cons (.var 12) (.cons (.var 13) (.cons (.var 17) (.cons (.var 15) .nil))))))))))))))))) .nil))
         (.ite (.cmp .eql (.var 16) (.int 78))
          (.call 47 (.cons (.var 0) (.cons (.var 1) .nil))
           (.alt (.y 0 (.cons (.var 17) (.cons (.var 18) (.cons (.var 2) (.cons (.var 3) (.cons (.var 4) (.cons (.var 5) (.cons (.var 6) (.cons (.var 7) (.cons (.var 8) (.cons (.var 9) (.cons (.var 10) (.cons (.var 11) (.cons (.var 12) (.cons (.var 13) (.cons (.var 14) (.cons (.var 19) .nil))))))))))))))))) .nil))
          (.y 0 (.cons (.var 0) (.cons (.var 1) (.cons (.var 2) (.cons (.var 3) (.cons (.var 4) (.cons (.var 5) (.cons (.var 6) (.cons (.var 7) (.cons (.var 8) (.cons (.var 9) (.cons (.var 10) (.cons (.var 11) (.cons (.var 12) (.cons (.var 13) (.cons (.var 14) (.cons (.var 15) .nil)))))))))))))))))))))))))))
theorem t48_ok : compile { P := Tryz.prog, cs := [c45, c46, c47] } Tryz.f38 c48.sg = some t48 := by kernel_rfl
/- novation/words.Parse -/
def c49 : Ctr := { f := 10, cid := 49, sg := { nv := 1, params := [(.x (.var 0) 9)], heap := [], outs := [{ nv := 15, res := (.tup (.cons (.agg (.cons (.x (.var 0) 3) (.cons (.x (.var 1) 3) (.cons (.x (.var 2) 3) (.cons (.x (.var 3) 3) (.cons (.x (.var 4) 3) (.cons (.x (.var 5) 3) (.cons (.x (.var 6) 3) (.cons (.x (.var 7) 3) (.cons (.x (.var 8) 3) (.cons (.x (.var 9) 3) (.cons (.x (.var 10) 3) (.cons (.x (.var 11) 2) (.cons (.x (.var 12) 2) (.cons (.x (.var 13) 24) .nil))))))))))))))) (.cons (.x (.var 14) 29) .nil))), heap := [], stay := [] }] } }
def t49b0 : T :=
 (.ite (.cmp .lss (.var 26) (.slen (.var 9)))
 (.call 48 (.cons (.var 10) (.cons (.var 11) (.cons (.var 12) (.cons (.var 13) (.cons (.var 14) (.cons (.var 15) (.cons (.var 16) (.cons (.var 17) (.cons (.var 18) (.cons (.var 19) (.cons (.var 20) (.cons (.var 21) (.cons (.var 22) (.cons (.var 23) (.cons (.var 24) (.cons (.var 25) (.cons (.ruc (.var 9) (.var 26)) .nil)))))))))))))))))
  (.alt (.y 0 (.cons (.var 27) (.cons (.var 28) (.cons (.var 29) (.cons (.var 30) (.cons (.var 31) (.cons (.var 32) (.cons (.var 33) (.cons (.var 34) (.cons (.var 35) (.cons (.var 36) (.cons (.var 37) (.cons (.var 38) (.cons (.var 39) (.cons (.var 40) (.cons (.var 41) (.cons (.var 42) (.cons (.bin .add .i64 (.var 26) (.ruw (.var 9) (.var 26))) .nil)))))))))))))))))) .nil))
 (.y 1 (.cons (.var 10) (.cons (.var 11) (.cons (.var 12) (.cons (.var 13) (.cons (.var 14) (.cons (.var 15) (.cons (.var 16) (.cons (.var 17) (.cons (.var 18) (.cons (.var 19) (.cons (.var 20) (.cons (.var 21) (.cons (.var 22) (.cons (.var 23) (.cons (.var 24) (.cons (.var 25) .nil))))))))))))))))))
def t49 : T :=
 (.call 10035 (.cons (.var 0) (.cons (.str [32]) .nil))
 (.alt (.call 42 (.cons (.var 1) (.cons (.bool true) .nil))
 (.alt (.call 43 (.cons (.var 2) .nil)
 (.alt (.call 45 (.cons (.var 3) (.cons (.var 4) .nil))
 (.alt (.call 12 (.cons (.var 5) .nil)
 (.alt (.loop (.cons (.var 7) (.cons (.var 8) (.cons (.var 5) (.cons (.var 6) (.cons (.int 0) (.cons (.int 0) (.cons (.int 0) (.cons (.int 0) (.cons (.int 0) (.cons (.int 0) (.cons (.int 0) (.cons (.int 0) (.cons (.int 0) (.cons (.int 0) (.cons (.int 0) (.cons (.lit .nil) (.cons (.int 0) .nil))))))))))))))))) t49b0
 (.alt (.call 41 (.cons (.cons (.var 12) (.cons (.var 13) (.cons (.var 14) (.cons (.var 15) (.cons (.var 16) (.cons (.var 17) (.cons (.var 18) (.cons (.var 19) (.cons (.var 20) (.cons (.var 21) (.cons (.var 22) (.cons (.var 23) (.cons (.var 24) (.cons (.var 25) .nil)))))))))))))) .nil)
 (.alt (.bind
   (.ite (.not (.var 11))
   (.y 0 (.cons (.bool true) .nil))
   (.ite (.cmp .gtr (.len (.var 10)) (.int 0))
    (.y 0 (.cons (.bool true) .nil))
    (.ite (.cmp .neq (.var 27) (.int 0))
     (.y 0 (.cons (.bool true) .nil))
     (.y 0 (.cons (.scmp .neq (.var 26) (.var 0)) .nil)))))
 (.alt (.ite (.var 28)
 (.y 0 (.cons (.int 0) (.cons (.int 0) (.cons (.int 0) (.cons (.int 0) (.cons (.int 0) (.cons (.int 0) (.cons (.int 0) (.cons (.int 0) (.cons (.int 0) (.cons (.int 0) (.cons (.int 0) (.cons (.int 0) (.cons (.int 0) (.cons (.lit .nil) (.cons (.int 3) .nil))))))))))))))))
 (.y 0 (.cons (.var 12) (.cons (.var 13) (.cons (.var 14) (.cons (.var 15) (.cons (.var 16) (.cons (.var 17) (.cons (.var 18) (.cons (.var 19) (.cons (.var 20) (.cons (.var 21) (.cons (.var 22) (.cons (.var 23) (.cons (.var 24) (.cons (.var 25) (.cons (.int 0) .nil))))))))))))))))) .nil)) .nil)) .nil)) .nil)) .nil)) .nil)) .nil)) .nil))
theorem t49_ok : compile { P := Tryz.prog, cs := [c10035, c12, c41, c42, c43, c45, c48] } Tryz.f10 c49.sg = some t49 := by kernel_rfl
/- novation/novationref01.SameNumbers -/
def c50 : Ctr := { f := 42, cid := 50, sg := { nv := 2, params := [(.x (.var 0) 24), (.x (.var 1) 24)], heap := [], outs := [{ nv := 1, res := (.x (.var 0) 4), heap := [], stay := [] }] } }
def t50b0 : T :=
 (.ite (.cmp .lss (.var 2) (.len (.var 0)))
 (.chk (.cmp .geq (.var 2) (.int 0))
  (.chk (.cmp .lss (.var 2) (.len (.var 0)))
  (.chk (.cmp .geq (.var 2) (.int 0))
  (.chk (.cmp .lss (.var 2) (.len (.var 1)))
  (.ite (.cmp .neq (.fld (.idx (.var 0) (.var 2)) 0) (.fld (.idx (.var 1) (.var 2)) 0))
  (.y 1 .nil)
  (.y 0 (.cons (.bin .add .i64 (.var 2) (.int 1)) .nil)))))))
 (.y 2 .nil))
def t50 : T :=
 (.ite (.cmp .neq (.len (.var 0)) (.len (.var 1)))
 (.y 0 (.cons (.bool false) .nil))
 (.loop (.cons (.int 0) .nil) t50b0
  (.alt (.y 0 (.cons (.bool false) .nil))
  (.alt (.y 0 (.cons (.bool true) .nil)) .nil))))
theorem t50_ok : compile { P := Tryz.prog, cs := [] } Tryz.f42 c50.sg = some t50 := by kernel_rfl
/- novation/novationref34.Same -/
def c51 : Ctr := { f := 12, cid := 51, sg := { nv := 2, params := [(.x (.var 0) 26), (.x (.var 1) 26)], heap := [], outs := [{ nv := 1, res := (.x (.var 0) 4), heap := [], stay := [] }] } }
def t51 : T :=
 (.bind
   (.ite (.cmp .neq (.fld (.var 0) 0) (.fld (.var 1) 0))
   (.y 0 (.cons (.bool true) .nil))
   (.ite (.cmp .neq (.fld (.var 0) 1) (.fld (.var 1) 1))
    (.y 0 (.cons (.bool true) .nil))
    (.ite (.cmp .neq (.fld (.var 0) 2) (.fld (.var 1) 2))
     (.y 0 (.cons (.bool true) .nil))
     (.ite (.not (.and (.cmp .eql (.fld (.var 0) 3) (.fld (.var 1) 3)) (.cmp .eql (.fld (.var 0) 4) (.fld (.var 1) 4))))
      (.y 0 (.cons (.bool true) .nil))
      (.ite (.not (.and (.cmp .eql (.fld (.var 0) 5) (.fld (.var 1) 5)) (.cmp .eql (.fld (.var 0) 6) (.fld (.var 1) 6))))
       (.y 0 (.cons (.bool true) .nil))
       (.y 0 (.cons (.cmp .neq (.fld (.var 0) 7) (.fld (.var 1) 7)) .nil)))))))
 (.alt (.ite (.var 2)
 (.y 0 (.cons (.bool false) .nil))
 (.bind
    (.ite (.cmp .eql (.fld (.var 0) 8) (.fld (.var 1) 8))
    (.ite (.cmp .eql (.fld (.var 0) 9) (.fld (.var 1) 9))
     (.ite (.cmp .eql (.fld (.var 0) 10) (.fld (.var 1) 10))
      (.ite (.cmp .eql (.fld (.var 0) 11) (.fld (.var 1) 11))
       (.ite (.cmp .eql (.fld (.var 0) 12) (.fld (.var 1) 12))
        (.call 50 (.cons (.fld (.var 0) 13) (.cons (.fld (.var 1) 13) .nil))
         (.alt (.y 0 (.cons (.var 3) .nil)) .nil))
        (.y 0 (.cons (.bool false) .nil)))
       (.y 0 (.cons (.bool false) .nil)))
      (.y 0 (.cons (.bool false) .nil)))
     (.y 0 (.cons (.bool false) .nil)))
    (.y 0 (.cons (.bool false) .nil)))
  (.alt (.y 0 (.cons (.var 3) .nil)) .nil))) .nil))
theorem t51_ok : compile { P := Tryz.prog, cs := [c50] } Tryz.f12 c51.sg = some t51 := by kernel_rfl
/- novation/novationlaw40.lives -/
def c52 : Ctr := { f := 16, cid := 52, sg := { nv := 0, params := [], heap := [], outs := [{ nv := 1, res := (.x (.var 0) 4), heap := [], stay := [] }] } }
def t52 : T :=
 (.call 41 (.cons (.cons (.int 7) (.cons (.int 0) (.cons (.int 0) (.cons (.int 2) (.cons (.int 1) (.cons (.int 3) (.cons (.int 0) (.cons (.int 1) (.cons (.int 0) (.cons (.int 0) (.cons (.int 0) (.cons (.int 4) (.cons (.int 6) (.cons (.lit .nil) .nil)))))))))))))) .nil)
 (.alt (.call 49 (.cons (.var 0) .nil)
 (.alt (.bind
   (.ite (.scmp .eql (.var 0) (.str [116, 114, 97, 100, 101, 32, 48, 32, 50, 46, 49, 32, 51, 46, 48, 32, 49, 32, 52, 32, 54]))
   (.ite (.cmp .eql (.var 1) (.int 0))
    (.ite (.cmp .eql (.var 16) (.int 0))
     (.call 51 (.cons (.cons (.var 2) (.cons (.var 3) (.cons (.var 4) (.cons (.var 5) (.cons (.var 6) (.cons (.var 7) (.cons (.var 8) (.cons (.var 9) (.cons (.var 10) (.cons (.var 11) (.cons (.var 12) (.cons (.var 13) (.cons (.var 14) (.cons (.var 15) .nil)))))))))))))) (.cons (.cons (.int 7) (.cons (.int 0) (.cons (.int 0) (.cons (.int 2) (.cons (.int 1) (.cons (.int 3) (.cons (.int 0) (.cons (.int 1) (.cons (.int 0) (.cons (.int 0) (.cons (.int 0) (.cons (.int 4) (.cons (.int 6) (.cons (.lit .nil) .nil)))))))))))))) .nil))
      (.alt (.y 0 (.cons (.var 17) .nil)) .nil))
     (.y 0 (.cons (.bool false) .nil)))
    (.y 0 (.cons (.bool false) .nil)))
   (.y 0 (.cons (.bool false) .nil)))
 (.alt (.y 0 (.cons (.var 17) .nil)) .nil)) .nil)) .nil))
theorem t52_ok : compile { P := Tryz.prog, cs := [c41, c49, c51] } Tryz.f16 c52.sg = some t52 := by kernel_rfl
/- novation/words.Reply -/
def c53 : Ctr := { f := 17, cid := 53, sg := { nv := 1, params := [(.x (.var 0) 48)], heap := [], outs := [{ nv := 1, res := (.x (.var 0) 9), heap := [], stay := [] }] } }
def t53b0 : T :=
 (.ite (.cmp .lss (.var 3) (.len (.fld (.var 0) 2)))
 (.chk (.cmp .geq (.var 3) (.int 0))
  (.chk (.cmp .lss (.var 3) (.len (.fld (.var 0) 2)))
  (.call 36 (.cons (.var 4) (.cons (.lit (.cons (.cons (.str [100, 101, 98, 105, 116]) .nil) .nil)) .nil))
  (.alt (.call 38 (.cons (.var 5) (.cons (.lit (.cons (.cons (.fld (.idx (.fld (.var 0) 2) (.var 3)) 0) (.cons (.fld (.idx (.fld (.var 0) 2) (.var 3)) 1) .nil)) (.cons (.cons (.fld (.idx (.fld (.var 0) 2) (.var 3)) 2) (.cons (.fld (.idx (.fld (.var 0) 2) (.var 3)) 3) .nil)) .nil))) .nil))
  (.alt (.call 37 (.cons (.var 6) (.cons (.lit (.cons (.cons (.fld (.idx (.fld (.var 0) 2) (.var 3)) 4) .nil) .nil)) .nil))
  (.alt (.y 0 (.cons (.bin .add .i64 (.var 3) (.int 1)) (.cons (.var 7) .nil))) .nil)) .nil)) .nil))))
 (.y 1 (.cons (.var 4) .nil)))
def t53b1 : T :=
 (.ite (.cmp .lss (.var 9) (.len (.fld (.idx (.fld (.var 0) 3) (.var 4)) 3)))
 (.chk (.cmp .geq (.var 9) (.int 0))
  (.chk (.cmp .lss (.var 9) (.len (.fld (.idx (.fld (.var 0) 3) (.var 4)) 3)))
  (.call 36 (.cons (.var 10) (.cons (.lit (.cons (.cons (.str [108, 111, 116]) .nil) .nil)) .nil))
  (.alt (.call 37 (.cons (.var 11) (.cons (.lit (.cons (.cons (.fld (.idx (.fld (.idx (.fld (.var 0) 3) (.var 4)) 3) (.var 9)) 0) .nil) (.cons (.cons (.fld (.idx (.fld (.idx (.fld (.var 0) 3) (.var 4)) 3) (.var 9)) 1) .nil) (.cons (.cons (.fld (.idx (.fld (.idx (.fld (.var 0) 3) (.var 4)) 3) (.var 9)) 2) .nil) .nil)))) .nil))
  (.alt (.y 0 (.cons (.bin .add .i64 (.var 9) (.int 1)) (.cons (.var 12) .nil))) .nil)) .nil))))
 (.y 1 (.cons (.var 10) .nil)))
def t53b2 : T :=
 (.ite (.cmp .lss (.var 4) (.len (.fld (.var 0) 3)))
 (.chk (.cmp .geq (.var 4) (.int 0))
  (.chk (.cmp .lss (.var 4) (.len (.fld (.var 0) 3)))
  (.call 36 (.cons (.var 5) (.cons (.lit (.cons (.cons (.str [114, 101, 116, 117, 114, 110]) .nil) .nil)) .nil))
  (.alt (.call 38 (.cons (.var 6) (.cons (.lit (.cons (.cons (.fld (.idx (.fld (.var 0) 3) (.var 4)) 0) (.cons (.fld (.idx (.fld (.var 0) 3) (.var 4)) 1) .nil)) .nil)) .nil))
  (.alt (.call 37 (.cons (.var 7) (.cons (.lit (.cons (.cons (.fld (.idx (.fld (.var 0) 3) (.var 4)) 2) .nil) .nil)) .nil))
  (.alt (.loop (.cons (.int 0) (.cons (.var 8) .nil)) t53b1
  (.alt (.y 0 (.cons (.bin .add .i64 (.var 4) (.int 1)) (.cons (.var 9) .nil))) .nil)) .nil)) .nil)) .nil))))
 (.y 1 (.cons (.var 5) .nil)))
def t53 : T :=
 (.bind
   (.ite (.cmp .eql (.fld (.var 0) 0) (.int 0))
   (.call 36 (.cons (.lit .nil) (.cons (.lit (.cons (.cons (.str [111, 107]) .nil) .nil)) .nil))
    (.alt (.y 0 (.cons (.var 1) .nil)) .nil))
   (.call 10044 (.cons (.fld (.var 0) 0) .nil)
    (.alt (.call 36 (.cons (.lit .nil) (.cons (.lit (.cons (.cons (.str [101, 114, 114, 111, 114]) .nil) (.cons (.cons (.var 1) .nil) .nil))) .nil))
    (.alt (.y 0 (.cons (.var 2) .nil)) .nil)) .nil)))
 (.alt (.call 37 (.cons (.var 1) (.cons (.fld (.var 0) 1) .nil))
 (.alt (.loop (.cons (.int 0) (.cons (.var 2) .nil)) t53b0
 (.alt (.loop (.cons (.int 0) (.cons (.var 3) .nil)) t53b2
 (.alt (.call 40 (.cons (.var 4) .nil)
 (.alt (.y 0 (.cons (.var 5) .nil)) .nil)) .nil)) .nil)) .nil)) .nil))
theorem t53_ok : compile { P := Tryz.prog, cs := [c10044, c36, c37, c38, c40] } Tryz.f17 c53.sg = some t53 := by kernel_rfl
/- novation/novationref01.Nat -/
def c54 : Ctr := { f := 69, cid := 54, sg := { nv := 1, params := [(.x (.var 0) 121)], heap := [], outs := [{ nv := 1, res := (.agg (.cons (.x (.bool false) 4) (.cons (.own 0) .nil))), heap := [(.row 5 (.var 0) true)], stay := [] }] } }
def t54b0 : T :=
 (.ite (.cmp .gtr (.var 1) (.int 0))
 (.chk (.fits (.var 2) (.lit (.cons (.cons (.wrap .u8 (.bin .rem .u64 (.var 1) (.int 2))) .nil) .nil)) 1)
  (.y 0 (.cons (.bin .quo .u64 (.var 1) (.int 2)) (.cons (.app (.var 2) (.lit (.cons (.cons (.wrap .u8 (.bin .rem .u64 (.var 1) (.int 2))) .nil) .nil))) .nil))))
 (.y 1 (.cons (.var 2) .nil)))
def t54 : T :=
 (.loop (.cons (.var 0) (.cons (.lit .nil) .nil)) t54b0
 (.alt (.y 0 (.cons (.var 1) .nil)) .nil))
theorem t54_ok : compile { P := Tryz.prog, cs := [] } Tryz.f69 c54.sg = some t54 := by kernel_rfl
/- novation/novationref01.plus -/
def c55 : Ctr := { f := 95, cid := 55, sg := { nv := 2, params := [(.x (.var 0) 54), (.x (.var 1) 54)], heap := [], outs := [{ nv := 1, res := (.own 0), heap := [(.row 5 (.var 0) true)], stay := [] }] } }
def t55b0 : T :=
 (.bind
   (.ite (.cmp .lss (.var 3) (.len (.var 0)))
   (.y 0 (.cons (.bool true) .nil))
   (.y 0 (.cons (.cmp .lss (.var 3) (.len (.var 1))) .nil)))
 (.alt (.ite (.var 5)
 (.bind
    (.ite (.cmp .lss (.var 3) (.len (.var 0)))
    (.chk (.cmp .geq (.var 3) (.int 0))
     (.chk (.cmp .lss (.var 3) (.len (.var 0)))
     (.y 0 (.cons (.bin .add .u8 (.var 2) (.fld (.idx (.var 0) (.var 3)) 0)) .nil))))
    (.y 0 (.cons (.var 2) .nil)))
  (.alt (.bind
    (.ite (.cmp .lss (.var 3) (.len (.var 1)))
    (.chk (.cmp .geq (.var 3) (.int 0))
     (.chk (.cmp .lss (.var 3) (.len (.var 1)))
     (.y 0 (.cons (.bin .add .u8 (.var 6) (.fld (.idx (.var 1) (.var 3)) 0)) .nil))))
    (.y 0 (.cons (.var 6) .nil)))
  (.alt (.chk (.fits (.var 4) (.lit (.cons (.cons (.bin .rem .u8 (.var 7) (.int 2)) .nil) .nil)) 1)
  (.y 0 (.cons (.bin .quo .u8 (.var 7) (.int 2)) (.cons (.bin .add .i64 (.var 3) (.int 1)) (.cons (.app (.var 4) (.lit (.cons (.cons (.bin .rem .u8 (.var 7) (.int 2)) .nil) .nil))) .nil))))) .nil)) .nil))
 (.y 1 (.cons (.var 2) (.cons (.var 4) .nil)))) .nil))
def t55 : T :=
 (.loop (.cons (.int 0) (.cons (.int 0) (.cons (.lit .nil) .nil))) t55b0
 (.alt (.bind
   (.ite (.cmp .gtr (.var 2) (.int 0))
   (.chk (.fits (.var 3) (.lit (.cons (.cons (.var 2) .nil) .nil)) 1)
    (.y 0 (.cons (.app (.var 3) (.lit (.cons (.cons (.var 2) .nil) .nil))) .nil)))
   (.y 0 (.cons (.var 3) .nil)))
 (.alt (.y 0 (.cons (.var 4) .nil)) .nil)) .nil))
theorem t55_ok : compile { P := Tryz.prog, cs := [] } Tryz.f95 c55.sg = some t55 := by kernel_rfl
/- novation/novationref01.Of -/
def c56 : Ctr := { f := 62, cid := 56, sg := { nv := 1, params := [(.x (.var 0) 29)], heap := [], outs := [{ nv := 2, res := (.agg (.cons (.x (.var 0) 4) (.cons (.own 0) .nil))), heap := [(.row 5 (.var 1) true)], stay := [] }] } }
def t56 : T :=
 (.ite (.cmp .geq (.var 0) (.int 0))
 (.call 54 (.cons (.wrap .u64 (.var 0)) .nil)
  (.alt (.y 0 (.cons (.bool false) (.cons (.var 1) .nil))) .nil))
 (.call 54 (.cons (.wrap .u64 (.bin .sub .i64 (.int 0) (.bin .add .i64 (.var 0) (.int 1)))) .nil)
  (.alt (.call 55 (.cons (.var 1) (.cons (.lit (.cons (.cons (.int 1) .nil) .nil)) .nil))
  (.alt (.y 0 (.cons (.bool true) (.cons (.var 2) .nil))) .nil)) .nil)))
theorem t56_ok : compile { P := Tryz.prog, cs := [c54, c55] } Tryz.f62 c56.sg = some t56 := by kernel_rfl
/- novation/novationref01.trim -/
def c57 : Ctr := { f := 101, cid := 57, sg := { nv := 2, params := [(.x (.var 0) 4), (.x (.var 1) 54)], heap := [], outs := [{ nv := 2, res := (.agg (.cons (.x (.var 0) 4) (.cons (.x (.var 1) 54) .nil))), heap := [], stay := [] }] } }
def t57b0 : T :=
 (.bind
   (.ite (.cmp .gtr (.var 2) (.int 0))
   (.chk (.cmp .geq (.bin .sub .i64 (.var 2) (.int 1)) (.int 0))
    (.chk (.cmp .lss (.bin .sub .i64 (.var 2) (.int 1)) (.len (.var 1)))
    (.y 0 (.cons (.cmp .eql (.fld (.idx (.var 1) (.bin .sub .i64 (.var 2) (.int 1))) 0) (.int 0)) .nil))))
   (.y 0 (.cons (.bool false) .nil)))
 (.alt (.ite (.var 3)
 (.y 0 (.cons (.bin .sub .i64 (.var 2) (.int 1)) .nil))
 (.y 1 (.cons (.var 2) .nil))) .nil))
def t57 : T :=
 (.loop (.cons (.len (.var 1)) .nil) t57b0
 (.alt (.bind
   (.ite (.var 0)
   (.chk (.cmp .leq (.int 0) (.var 2))
    (.chk (.cmp .leq (.var 2) (.len (.var 1)))
    (.y 0 (.cons (.cmp .gtr (.var 2) (.int 0)) .nil))))
   (.chk (.cmp .leq (.int 0) (.var 2))
    (.chk (.cmp .leq (.var 2) (.len (.var 1)))
    (.y 0 (.cons (.bool false) .nil)))))
 (.alt (.y 0 (.cons (.var 3) (.cons (.tk (.var 1) (.int 0) (.var 2)) .nil))) .nil)) .nil))
theorem t57_ok : compile { P := Tryz.prog, cs := [] } Tryz.f101 c57.sg = some t57 := by kernel_rfl
/- novation/novationref01.Neg -/
def c58 : Ctr := { f := 70, cid := 58, sg := { nv := 1, params := [(.x (.var 0) 114)], heap := [], outs := [{ nv := 2, res := (.agg (.cons (.x (.var 0) 4) (.cons (.x (.var 1) 54) .nil))), heap := [], stay := [] }] } }
def t58 : T :=
 (.call 57 (.cons (.not (.fld (.var 0) 0)) (.cons (.fld (.var 0) 1) .nil))
 (.alt (.y 0 (.cons (.var 1) (.cons (.var 2) .nil))) .nil))
theorem t58_ok : compile { P := Tryz.prog, cs := [c57] } Tryz.f70 c58.sg = some t58 := by kernel_rfl
/- novation/novationref01.less -/
def c59 : Ctr := { f := 102, cid := 59, sg := { nv := 2, params := [(.x (.var 0) 54), (.x (.var 1) 54)], heap := [], outs := [{ nv := 1, res := (.x (.var 0) 4), heap := [], stay := [] }] } }
def t59b0 : T :=
 (.ite (.cmp .gtr (.var 2) (.int 0))
 (.chk (.cmp .geq (.bin .sub .i64 (.var 2) (.int 1)) (.int 0))
  (.chk (.cmp .lss (.bin .sub .i64 (.var 2) (.int 1)) (.len (.var 0)))
  (.chk (.cmp .geq (.bin .sub .i64 (.var 2) (.int 1)) (.int 0))
  (.chk (.cmp .lss (.bin .sub .i64 (.var 2) (.int 1)) (.len (.var 1)))
  (.ite (.cmp .neq (.fld (.idx (.var 0) (.bin .sub .i64 (.var 2) (.int 1))) 0) (.fld (.idx (.var 1) (.bin .sub .i64 (.var 2) (.int 1))) 0))
  (.chk (.cmp .geq (.bin .sub .i64 (.var 2) (.int 1)) (.int 0))
   (.chk (.cmp .lss (.bin .sub .i64 (.var 2) (.int 1)) (.len (.var 0)))
   (.chk (.cmp .geq (.bin .sub .i64 (.var 2) (.int 1)) (.int 0))
   (.chk (.cmp .lss (.bin .sub .i64 (.var 2) (.int 1)) (.len (.var 1)))
   (.y 1 (.cons (.cmp .lss (.fld (.idx (.var 0) (.bin .sub .i64 (.var 2) (.int 1))) 0) (.fld (.idx (.var 1) (.bin .sub .i64 (.var 2) (.int 1))) 0)) .nil))))))
  (.y 0 (.cons (.bin .sub .i64 (.var 2) (.int 1)) .nil)))))))
 (.y 2 .nil))
def t59 : T :=
 (.ite (.cmp .neq (.len (.var 0)) (.len (.var 1)))
 (.y 0 (.cons (.cmp .lss (.len (.var 0)) (.len (.var 1))) .nil))
 (.loop (.cons (.len (.var 0)) .nil) t59b0
  (.alt (.y 0 (.cons (.var 2) .nil))
  (.alt (.y 0 (.cons (.bool false) .nil)) .nil))))
theorem t59_ok : compile { P := Tryz.prog, cs := [] } Tryz.f102 c59.sg = some t59 := by kernel_rfl
/- novation/novationref01.minus -/
def c60 : Ctr := { f := 103, cid := 60, sg := { nv := 2, params := [(.x (.var 0) 54), (.x (.var 1) 54)], heap := [], outs := [{ nv := 1, res := (.own 0), heap := [(.row 5 (.var 0) true)], stay := [] }] } }
def t60b0 : T :=
 (.ite (.cmp .lss (.var 3) (.len (.var 0)))
 (.bind
    (.ite (.cmp .lss (.var 3) (.len (.var 1)))
    (.chk (.cmp .geq (.var 3) (.int 0))
     (.chk (.cmp .lss (.var 3) (.len (.var 1)))
     (.y 0 (.cons (.bin .add .u8 (.var 2) (.fld (.idx (.var 1) (.var 3)) 0)) .nil))))
    (.y 0 (.cons (.var 2) .nil)))
  (.alt (.chk (.cmp .geq (.var 3) (.int 0))
  (.chk (.cmp .lss (.var 3) (.len (.var 0)))
  (.bind
    (.ite (.cmp .lss (.bin .sub .u8 (.bin .add .u8 (.fld (.idx (.var 0) (.var 3)) 0) (.int 2)) (.var 5)) (.int 2))
    (.y 0 (.cons (.int 1) .nil))
    (.y 0 (.cons (.int 0) .nil)))
  (.alt (.chk (.fits (.var 4) (.lit (.cons (.cons (.bin .rem .u8 (.bin .sub .u8 (.bin .add .u8 (.fld (.idx (.var 0) (.var 3)) 0) (.int 2)) (.var 5)) (.int 2)) .nil) .nil)) 1)
  (.y 0 (.cons (.var 6) (.cons (.bin .add .i64 (.var 3) (.int 1)) (.cons (.app (.var 4) (.lit (.cons (.cons (.bin .rem .u8 (.bin .sub .u8 (.bin .add .u8 (.fld (.idx (.var 0) (.var 3)) 0) (.int 2)) (.var 5)) (.int 2)) .nil) .nil))) .nil))))) .nil)))) .nil))
 (.y 1 (.cons (.var 4) .nil)))
def t60 : T :=
 (.loop (.cons (.int 0) (.cons (.int 0) (.cons (.lit .nil) .nil))) t60b0
 (.alt (.y 0 (.cons (.var 2) .nil)) .nil))
theorem t60_ok : compile { P := Tryz.prog, cs := [] } Tryz.f103 c60.sg = some t60 := by kernel_rfl
/- novation/novationref01.Add -/
def c61 : Ctr := { f := 67, cid := 61, sg := { nv := 2, params := [(.x (.var 0) 114), (.x (.var 1) 114)], heap := [], outs := [{ nv := 2, res := (.agg (.cons (.x (.var 0) 4) (.cons (.x (.var 1) 54) .nil))), heap := [], stay := [] }] } }
def t61 : T :=
 (.ite (.beq (.fld (.var 0) 0) (.fld (.var 1) 0))
 (.call 55 (.cons (.fld (.var 0) 1) (.cons (.fld (.var 1) 1) .nil))
  (.alt (.call 57 (.cons (.fld (.var 0) 0) (.cons (.var 2) .nil))
  (.alt (.y 0 (.cons (.var 3) (.cons (.var 4) .nil))) .nil)) .nil))
 (.call 59 (.cons (.fld (.var 0) 1) (.cons (.fld (.var 1) 1) .nil))
  (.alt (.ite (.var 2)
  (.call 60 (.cons (.fld (.var 1) 1) (.cons (.fld (.var 0) 1) .nil))
   (.alt (.call 57 (.cons (.fld (.var 1) 0) (.cons (.var 3) .nil))
   (.alt (.y 0 (.cons (.var 4) (.cons (.var 5) .nil))) .nil)) .nil))
  (.call 60 (.cons (.fld (.var 0) 1) (.cons (.fld (.var 1) 1) .nil))
   (.alt (.call 57 (.cons (.fld (.var 0) 0) (.cons (.var 3) .nil))
   (.alt (.y 0 (.cons (.var 4) (.cons (.var 5) .nil))) .nil)) .nil))) .nil)))
theorem t61_ok : compile { P := Tryz.prog, cs := [c55, c57, c59, c60] } Tryz.f67 c61.sg = some t61 := by kernel_rfl
/- novation/novationref01.Sub -/
def c62 : Ctr := { f := 124, cid := 62, sg := { nv := 2, params := [(.x (.var 0) 114), (.x (.var 1) 114)], heap := [], outs := [{ nv := 2, res := (.agg (.cons (.x (.var 0) 4) (.cons (.x (.var 1) 54) .nil))), heap := [], stay := [] }] } }
def t62 : T :=
 (.call 58 (.cons (.cons (.fld (.var 1) 0) (.cons (.fld (.var 1) 1) .nil)) .nil)
 (.alt (.call 61 (.cons (.cons (.fld (.var 0) 0) (.cons (.fld (.var 0) 1) .nil)) (.cons (.cons (.var 2) (.cons (.var 3) .nil)) .nil))
 (.alt (.y 0 (.cons (.var 4) (.cons (.var 5) .nil))) .nil)) .nil))
theorem t62_ok : compile { P := Tryz.prog, cs := [c58, c61] } Tryz.f124 c62.sg = some t62 := by kernel_rfl
/- novation/novationref01.Div -/
def c63 : Ctr := { f := 94, cid := 63, sg := { nv := 2, params := [(.x (.var 0) 114), (.x (.var 1) 121)], heap := [], outs := [{ nv := 3, res := (.tup (.cons (.agg (.cons (.x (.var 0) 4) (.cons (.x (.var 1) 54) .nil))) (.cons (.x (.var 2) 121) .nil))), heap := [], stay := [] }] } }
def t63b0 : T :=
 (.ite (.cmp .gtr (.var 3) (.int 0))
 (.chk (.cmp .geq (.bin .sub .i64 (.var 3) (.int 1)) (.int 0))
  (.chk (.cmp .lss (.bin .sub .i64 (.var 3) (.int 1)) (.len (.fld (.var 0) 1)))
  (.bind
    (.ite (.cmp .geq (.bin .add .u64 (.bin .mul .u64 (.int 2) (.var 2)) (.wrap .u64 (.fld (.idx (.fld (.var 0) 1) (.bin .sub .i64 (.var 3) (.int 1))) 0))) (.var 1))
    (.y 0 (.cons (.bin .sub .u64 (.bin .add .u64 (.bin .mul .u64 (.int 2) (.var 2)) (.wrap .u64 (.fld (.idx (.fld (.var 0) 1) (.bin .sub .i64 (.var 3) (.int 1))) 0))) (.var 1)) (.cons (.int 1) .nil)))
    (.y 0 (.cons (.bin .add .u64 (.bin .mul .u64 (.int 2) (.var 2)) (.wrap .u64 (.fld (.idx (.fld (.var 0) 1) (.bin .sub .i64 (.var 3) (.int 1))) 0))) (.cons (.int 0) .nil))))
  (.alt (.chk (.fits (.lit .nil) (.lit (.cons (.cons (.var 6) .nil) .nil)) 1)
  (.chk (.fits (.app (.lit .nil) (.lit (.cons (.cons (.var 6) .nil) .nil))) (.var 4) 1)
  (.y 0 (.cons (.var 5) (.cons (.bin .sub .i64 (.var 3) (.int 1)) (.cons (.app (.app (.lit .nil) (.lit (.cons (.cons (.var 6) .nil) .nil))) (.var 4)) .nil)))))) .nil))))
 (.y 1 (.cons (.var 2) (.cons (.var 4) .nil))))
def t63 : T :=
 (.loop (.cons (.int 0) (.cons (.len (.fld (.var 0) 1)) (.cons (.lit .nil) .nil))) t63b0
 (.alt (.call 57 (.cons (.fld (.var 0) 0) (.cons (.var 3) .nil))
 (.alt (.bind
   (.bind
     (.ite (.fld (.var 0) 0)
     (.y 0 (.cons (.cmp .gtr (.var 2) (.int 0)) .nil))
     (.y 0 (.cons (.bool false) .nil)))
   (.alt (.ite (.var 6)
   (.call 54 (.cons (.int 1) .nil)
    (.alt (.call 62 (.cons (.cons (.var 4) (.cons (.var 5) .nil)) (.cons (.cons (.bool false) (.cons (.var 7) .nil)) .nil))
    (.alt (.y 0 (.cons (.bin .sub .u64 (.var 1) (.var 2)) (.cons (.var 8) (.cons (.var 9) .nil)))) .nil)) .nil))
   (.y 0 (.cons (.var 2) (.cons (.var 4) (.cons (.var 5) .nil))))) .nil))
 (.alt (.y 0 (.cons (.var 7) (.cons (.var 8) (.cons (.var 6) .nil)))) .nil)) .nil)) .nil))
theorem t63_ok : compile { P := Tryz.prog, cs := [c54, c57, c62] } Tryz.f94 c63.sg = some t63 := by kernel_rfl
/- novation/novationref01.Digits -/
def c64 : Ctr := { f := 61, cid := 64, sg := { nv := 1, params := [(.x (.var 0) 114)], heap := [], outs := [{ nv := 1, res := (.x (.var 0) 9), heap := [], stay := [] }] } }
def t64b0 : T :=
 (.bind
   (.ite (.scmp .eql (.var 1) (.str []))
   (.y 0 (.cons (.bool true) .nil))
   (.y 0 (.cons (.cmp .gtr (.len (.var 3)) (.int 0)) .nil)))
 (.alt (.ite (.var 4)
 (.call 63 (.cons (.cons (.var 2) (.cons (.var 3) .nil)) (.cons (.int 10) .nil))
  (.alt (.chk (.sfits (.b2s (.lit (.cons (.cons (.wrap .u8 (.bin .add .u64 (.int 48) (.var 7))) .nil) .nil))) (.var 1))
  (.y 0 (.cons (.scat (.b2s (.lit (.cons (.cons (.wrap .u8 (.bin .add .u64 (.int 48) (.var 7))) .nil) .nil))) (.var 1)) (.cons (.var 5) (.cons (.var 6) .nil))))) .nil))
 (.y 1 (.cons (.var 1) .nil))) .nil))
def t64 : T :=
 (.loop (.cons (.str []) (.cons (.bool false) (.cons (.fld (.var 0) 1) .nil))) t64b0
 (.alt (.ite (.fld (.var 0) 0)
 (.chk (.sfits (.str [45]) (.var 1))
  (.y 0 (.cons (.scat (.str [45]) (.var 1)) .nil)))
 (.y 0 (.cons (.var 1) .nil))) .nil))
theorem t64_ok : compile { P := Tryz.prog, cs := [c63] } Tryz.f61 c64.sg = some t64 := by kernel_rfl
/- novation/novationref40.num -/
def c65 : Ctr := { f := 32, cid := 65, sg := { nv := 1, params := [(.x (.var 0) 29)], heap := [], outs := [{ nv := 1, res := (.x (.var 0) 9), heap := [], stay := [] }] } }
def t65 : T :=
 (.call 56 (.cons (.var 0) .nil)
 (.alt (.call 64 (.cons (.cons (.var 1) (.cons (.var 2) .nil)) .nil)
 (.alt (.y 0 (.cons (.var 3) .nil)) .nil)) .nil))
theorem t65_ok : compile { P := Tryz.prog, cs := [c56, c64] } Tryz.f32 c65.sg = some t65 := by kernel_rfl
/- novation/novationref40.unit -/
def c66 : Ctr := { f := 34, cid := 66, sg := { nv := 1, params := [(.x (.var 0) 23)], heap := [], outs := [{ nv := 1, res := (.x (.var 0) 9), heap := [], stay := [] }] } }
def t66 : T :=
 (.call 65 (.cons (.fld (.var 0) 0) .nil)
 (.alt (.chk (.sfits (.var 1) (.str [46]))
 (.call 65 (.cons (.fld (.var 0) 1) .nil)
 (.alt (.chk (.sfits (.scat (.var 1) (.str [46])) (.var 2))
 (.y 0 (.cons (.scat (.scat (.var 1) (.str [46])) (.var 2)) .nil))) .nil))) .nil))
theorem t66_ok : compile { P := Tryz.prog, cs := [c65] } Tryz.f34 c66.sg = some t66 := by kernel_rfl
/- novation/novationref40.Reply -/
def c67 : Ctr := { f := 18, cid := 67, sg := { nv := 1, params := [(.x (.var 0) 48)], heap := [], outs := [{ nv := 1, res := (.x (.var 0) 9), heap := [], stay := [] }] } }
def t67b0 : T :=
 (.ite (.cmp .lss (.var 3) (.len (.fld (.var 0) 1)))
 (.chk (.sfits (.var 2) (.str [32]))
  (.chk (.cmp .geq (.var 3) (.int 0))
  (.chk (.cmp .lss (.var 3) (.len (.fld (.var 0) 1)))
  (.call 65 (.cons (.fld (.idx (.fld (.var 0) 1) (.var 3)) 0) .nil)
  (.alt (.chk (.sfits (.scat (.var 2) (.str [32])) (.var 4))
  (.y 0 (.cons (.scat (.scat (.var 2) (.str [32])) (.var 4)) (.cons (.bin .add .i64 (.var 3) (.int 1)) .nil)))) .nil)))))
 (.y 1 (.cons (.var 2) .nil)))
def t67b1 : T :=
 (.ite (.cmp .lss (.var 4) (.len (.fld (.var 0) 2)))
 (.chk (.cmp .geq (.var 4) (.int 0))
  (.chk (.cmp .lss (.var 4) (.len (.fld (.var 0) 2)))
  (.chk (.sfits (.var 3) (.str [32, 100, 101, 98, 105, 116, 32]))
  (.call 66 (.cons (.cons (.fld (.idx (.fld (.var 0) 2) (.var 4)) 0) (.cons (.fld (.idx (.fld (.var 0) 2) (.var 4)) 1) .nil)) .nil)
  (.alt (.chk (.sfits (.scat (.var 3) (.str [32, 100, 101, 98, 105, 116, 32])) (.var 5))
  (.chk (.sfits (.scat (.scat (.var 3) (.str [32, 100, 101, 98, 105, 116, 32])) (.var 5)) (.str [32]))
  (.call 66 (.cons (.cons (.fld (.idx (.fld (.var 0) 2) (.var 4)) 2) (.cons (.fld (.idx (.fld (.var 0) 2) (.var 4)) 3) .nil)) .nil)
  (.alt (.chk (.sfits (.scat (.scat (.scat (.var 3) (.str [32, 100, 101, 98, 105, 116, 32])) (.var 5)) (.str [32])) (.var 6))
  (.chk (.sfits (.scat (.scat (.scat (.scat (.var 3) (.str [32, 100, 101, 98, 105, 116, 32])) (.var 5)) (.str [32])) (.var 6)) (.str [32]))
  (.call 65 (.cons (.fld (.idx (.fld (.var 0) 2) (.var 4)) 4) .nil)
  (.alt (.chk (.sfits (.scat (.scat (.scat (.scat (.scat (.var 3) (.str [32, 100, 101, 98, 105, 116, 32])) (.var 5)) (.str [32])) (.var 6)) (.str [32])) (.var 7))
  (.y 0 (.cons (.scat (.scat (.scat (.scat (.scat (.scat (.var 3) (.str [32, 100, 101, 98, 105, 116, 32])) (.var 5)) (.str [32])) (.var 6)) (.str [32])) (.var 7)) (.cons (.bin .add .i64 (.var 4) (.int 1)) .nil)))) .nil)))) .nil)))) .nil)))))
 (.y 1 (.cons (.var 3) .nil)))
def t67b2 : T :=
 (.ite (.cmp .lss (.var 9) (.len (.fld (.idx (.fld (.var 0) 3) (.var 5)) 3)))
 (.chk (.sfits (.var 8) (.str [32, 108, 111, 116, 32]))
  (.chk (.cmp .geq (.var 9) (.int 0))
  (.chk (.cmp .lss (.var 9) (.len (.fld (.idx (.fld (.var 0) 3) (.var 5)) 3)))
  (.call 65 (.cons (.fld (.idx (.fld (.idx (.fld (.var 0) 3) (.var 5)) 3) (.var 9)) 0) .nil)
  (.alt (.chk (.sfits (.scat (.var 8) (.str [32, 108, 111, 116, 32])) (.var 10))
  (.chk (.sfits (.scat (.scat (.var 8) (.str [32, 108, 111, 116, 32])) (.var 10)) (.str [32]))
  (.chk (.cmp .geq (.var 9) (.int 0))
  (.chk (.cmp .lss (.var 9) (.len (.fld (.idx (.fld (.var 0) 3) (.var 5)) 3)))
  (.call 65 (.cons (.fld (.idx (.fld (.idx (.fld (.var 0) 3) (.var 5)) 3) (.var 9)) 1) .nil)
  (.alt (.chk (.sfits (.scat (.scat (.scat (.var 8) (.str [32, 108, 111, 116, 32])) (.var 10)) (.str [32])) (.var 11))
  (.chk (.sfits (.scat (.scat (.scat (.scat (.var 8) (.str [32, 108, 111, 116, 32])) (.var 10)) (.str [32])) (.var 11)) (.str [32]))
  (.chk (.cmp .geq (.var 9) (.int 0))
  (.chk (.cmp .lss (.var 9) (.len (.fld (.idx (.fld (.var 0) 3) (.var 5)) 3)))
  (.call 65 (.cons (.fld (.idx (.fld (.idx (.fld (.var 0) 3) (.var 5)) 3) (.var 9)) 2) .nil)
  (.alt (.chk (.sfits (.scat (.scat (.scat (.scat (.scat (.var 8) (.str [32, 108, 111, 116, 32])) (.var 10)) (.str [32])) (.var 11)) (.str [32])) (.var 12))
  (.y 0 (.cons (.scat (.scat (.scat (.scat (.scat (.scat (.var 8) (.str [32, 108, 111, 116, 32])) (.var 10)) (.str [32])) (.var 11)) (.str [32])) (.var 12)) (.cons (.bin .add .i64 (.var 9) (.int 1)) .nil)))) .nil)))))) .nil)))))) .nil)))))
 (.y 1 (.cons (.var 8) .nil)))
def t67b3 : T :=
 (.ite (.cmp .lss (.var 5) (.len (.fld (.var 0) 3)))
 (.chk (.cmp .geq (.var 5) (.int 0))
  (.chk (.cmp .lss (.var 5) (.len (.fld (.var 0) 3)))
  (.chk (.sfits (.var 4) (.str [32, 114, 101, 116, 117, 114, 110, 32]))
  (.call 66 (.cons (.cons (.fld (.idx (.fld (.var 0) 3) (.var 5)) 0) (.cons (.fld (.idx (.fld (.var 0) 3) (.var 5)) 1) .nil)) .nil)
  (.alt (.chk (.sfits (.scat (.var 4) (.str [32, 114, 101, 116, 117, 114, 110, 32])) (.var 6))
  (.chk (.sfits (.scat (.scat (.var 4) (.str [32, 114, 101, 116, 117, 114, 110, 32])) (.var 6)) (.str [32]))
  (.call 65 (.cons (.fld (.idx (.fld (.var 0) 3) (.var 5)) 2) .nil)
  (.alt (.chk (.sfits (.scat (.scat (.scat (.var 4) (.str [32, 114, 101, 116, 117, 114, 110, 32])) (.var 6)) (.str [32])) (.var 7))
  (.loop (.cons (.scat (.scat (.scat (.scat (.var 4) (.str [32, 114, 101, 116, 117, 114, 110, 32])) (.var 6)) (.str [32])) (.var 7)) (.cons (.int 0) .nil)) t67b2
  (.alt (.y 0 (.cons (.var 8) (.cons (.bin .add .i64 (.var 5) (.int 1)) .nil))) .nil))) .nil)))) .nil)))))
 (.y 1 (.cons (.var 4) .nil)))
def t67 : T :=
 (.bind
   (.ite (.cmp .neq (.fld (.var 0) 0) (.int 0))
   (.call 65 (.cons (.fld (.var 0) 0) .nil)
    (.alt (.chk (.sfits (.str [101, 114, 114, 111, 114, 32]) (.var 1))
    (.y 0 (.cons (.scat (.str [101, 114, 114, 111, 114, 32]) (.var 1)) .nil))) .nil))
   (.y 0 (.cons (.str [111, 107]) .nil)))
 (.alt (.loop (.cons (.var 1) (.cons (.int 0) .nil)) t67b0
 (.alt (.loop (.cons (.var 2) (.cons (.int 0) .nil)) t67b1
 (.alt (.loop (.cons (.var 3) (.cons (.int 0) .nil)) t67b3
 (.alt (.y 0 (.cons (.var 4) .nil)) .nil)) .nil)) .nil)) .nil))
theorem t67_ok : compile { P := Tryz.prog, cs := [c65, c66] } Tryz.f18 c67.sg = some t67 := by kernel_rfl
/- novation/novationlaw40.WordsReplies -/
def c68 : Ctr := { f := 4, cid := 68, sg := { nv := 1, params := [(.x (.var 0) 48)], heap := [], outs := [{ nv := 1, res := (.x (.var 0) 4), heap := [], stay := [] }] } }
def t68b0 : T :=
 (.ite (.cmp .lss (.var 5) (.len (.var 3)))
 (.chk (.cmp .geq (.var 5) (.int 0))
  (.chk (.cmp .lss (.var 5) (.len (.var 3)))
  (.bind
    (.ite (.cmp .gtr (.bin .add .i64 (.var 4) (.len (.fld (.idx (.var 3) (.var 5)) 3))) (.int 100))
    (.y 0 (.cons (.bool true) .nil))
    (.chk (.cmp .geq (.var 5) (.int 0))
     (.chk (.cmp .lss (.var 5) (.len (.var 3)))
     (.y 0 (.cons (.cmp .gtr (.len (.fld (.idx (.var 3) (.var 5)) 3)) (.int 100)) .nil)))))
  (.alt (.ite (.var 6)
  (.call 52 .nil
   (.alt (.y 1 (.cons (.var 7) .nil)) .nil))
  (.y 0 (.cons (.bin .add .i64 (.var 4) (.len (.fld (.idx (.var 3) (.var 5)) 3))) (.cons (.bin .add .i64 (.var 5) (.int 1)) .nil)))) .nil))))
 (.y 2 .nil))
def t68 : T :=
 (.bind
   (.ite (.cmp .gtr (.len (.fld (.var 0) 1)) (.int 30))
   (.chk (.cmp .leq (.int 30) (.len (.fld (.var 0) 1)))
    (.y 0 (.cons (.tk (.fld (.var 0) 1) (.int 0) (.int 30)) .nil)))
   (.y 0 (.cons (.fld (.var 0) 1) .nil)))
 (.alt (.bind
   (.ite (.cmp .gtr (.len (.fld (.var 0) 2)) (.int 10))
   (.chk (.cmp .leq (.int 10) (.len (.fld (.var 0) 2)))
    (.y 0 (.cons (.tk (.fld (.var 0) 2) (.int 0) (.int 10)) .nil)))
   (.y 0 (.cons (.fld (.var 0) 2) .nil)))
 (.alt (.bind
   (.ite (.cmp .gtr (.len (.fld (.var 0) 3)) (.int 10))
   (.chk (.cmp .leq (.int 10) (.len (.fld (.var 0) 3)))
    (.y 0 (.cons (.tk (.fld (.var 0) 3) (.int 0) (.int 10)) .nil)))
   (.y 0 (.cons (.fld (.var 0) 3) .nil)))
 (.alt (.loop (.cons (.int 0) (.cons (.int 0) .nil)) t68b0
 (.alt (.y 0 (.cons (.var 4) .nil))
 (.alt (.bind
   (.call 53 (.cons (.cons (.fld (.var 0) 0) (.cons (.var 1) (.cons (.var 2) (.cons (.var 3) .nil)))) .nil)
   (.alt (.call 67 (.cons (.cons (.fld (.var 0) 0) (.cons (.var 1) (.cons (.var 2) (.cons (.var 3) .nil)))) .nil)
   (.alt (.ite (.scmp .eql (.var 4) (.var 5))
   (.call 52 .nil
    (.alt (.y 0 (.cons (.var 6) .nil)) .nil))
   (.y 0 (.cons (.bool false) .nil))) .nil)) .nil))
 (.alt (.y 0 (.cons (.var 4) .nil)) .nil)) .nil))) .nil)) .nil)) .nil))
theorem t68_ok : compile { P := Tryz.prog, cs := [c52, c53, c67] } Tryz.f4 c68.sg = some t68 := by kernel_rfl
end Go.Proofs.YtbfjeejgkceedaaGreatDoor
namespace Go.RX

/-! Reckoning at closed inputs, and laws of loops. -/
theorem iter_more {body : List D → Option (Nat × List D)} : ∀ {n : Nat} {st : List D} {r : Nat × List D}, iter body n st = some r → ∀ k, iter body (n + k) st = some r
  | 0, st, r, h, k => by simp [iter] at h
  | n + 1, st, r, h, k => by
    rw [show n + 1 + k = n + k + 1 by omega]
    simp only [iter] at h ⊢
    cases hb : body st with
    | none => rw [hb] at h; cases h
    | some q =>
      obtain ⟨j, st'⟩ := q
      rw [hb] at h
      cases j with
      | zero => exact iter_more h k
      | succ j => exact h
theorem iter_det {body : List D → Option (Nat × List D)} {n m : Nat} {st : List D} {r r' : Nat × List D} (h : iter body n st = some r) (h' : iter body m st = some r') : r = r' := by
  have h1 := iter_more h m
  have h2 := iter_more h' n
  rw [Nat.add_comm m n] at h2
  rw [h1] at h2
  cases h2; rfl
theorem loopD_of_iter {body : List D → Option (Nat × List D)} {n : Nat} {st : List D} {r : Nat × List D} (h : iter body n st = some r) : loopD body st = some r := by
  have hx : ∃ n, (iter body n st).isSome := ⟨n, by rw [h]; rfl⟩
  unfold loopD
  rw [dif_pos hx]
  have h1 := Classical.choose_spec hx
  obtain ⟨r', hr'⟩ := Option.isSome_iff_exists.1 h1
  rw [hr', iter_det hr' h]
theorem loopD_step {body : List D → Option (Nat × List D)} {st st' : List D} (h : body st = some (0, st')) : loopD body st = loopD body st' := by
  cases hl : loopD body st' with
  | some r =>
    obtain ⟨n, hn⟩ := loopD_iter hl
    exact loopD_of_iter (n := n + 1) (by simp only [iter, h]; exact hn)
  | none =>
    cases hl' : loopD body st with
    | none => rfl
    | some r =>
      obtain ⟨n, hn⟩ := loopD_iter hl'
      cases n with
      | zero => simp [iter] at hn
      | succ n =>
        simp only [iter, h] at hn
        rw [loopD_of_iter hn] at hl
        cases hl
theorem loopD_done {body : List D → Option (Nat × List D)} {st st' : List D} {j : Nat} (h : body st = some (j + 1, st')) : loopD body st = some (j + 1, st') :=
  loopD_of_iter (n := 1) (by simp only [iter, h])

def evT (fuel : Nat) (φ : Nat → List D → Option (Nat × List D)) : T → Nat → List D → Option (Nat × List D)
  | .lf i, _, ρ => some (i, ρ)
  | .y j xs, _, ρ => some (j, (xs.den ρ).aggL)
  | .ite c a b, _, ρ => bif (c.den ρ).toBool then evT fuel φ a 0 ρ else evT fuel φ b 0 ρ
  | .chk c k, _, ρ => bif (c.den ρ).toBool then evT fuel φ k 0 ρ else none
  | .call cid args ks, _, ρ => match φ cid (args.den ρ).aggL with
    | some r => evT fuel φ ks r.1 (ρ ++ r.2)
    | none => none
  | .bind s ks, _, ρ => match evT fuel φ s 0 ρ with
    | some r => evT fuel φ ks r.1 (ρ ++ r.2)
    | none => none
  | .loop init body ks, _, ρ => match iter (fun st => evT fuel φ body 0 (ρ ++ st)) fuel (init.den ρ).aggL with
    | some (j + 1, r) => evT fuel φ ks j (ρ ++ r)
    | _ => none
  | .alt k _, 0, ρ => evT fuel φ k 0 ρ
  | .alt _ r, j + 1, ρ => evT fuel φ r j ρ
  | .nil, _, _ => none

theorem iter_mono {b b' : List D → Option (Nat × List D)} (h : ∀ st r, b st = some r → b' st = some r) : ∀ {n : Nat} {st : List D} {r : Nat × List D}, iter b n st = some r → iter b' n st = some r
  | 0, st, r, hn => by simp [iter] at hn
  | n + 1, st, r, hn => by
    simp only [iter] at hn ⊢
    cases hb : b st with
    | none => rw [hb] at hn; cases hn
    | some q =>
      obtain ⟨j, st'⟩ := q
      rw [hb] at hn
      rw [h _ _ hb]
      cases j with
      | zero => exact iter_mono h hn
      | succ j => exact hn
theorem evT_den {fuel : Nat} {φ Φ : Nat → List D → Option (Nat × List D)} (hφ : ∀ c ρ r, φ c ρ = some r → Φ c ρ = some r) : ∀ (t : T) (idx : Nat) (ρ : List D) (r : Nat × List D), evT fuel φ t idx ρ = some r → t.den Φ idx ρ = some r
  | .lf i, _, ρ, r, h => h
  | .y j xs, _, ρ, r, h => h
  | .ite c a b, _, ρ, r, h => by
    simp only [evT, T.den] at h ⊢
    cases hc : (c.den ρ).toBool <;> rw [hc] at h
    · exact evT_den hφ b 0 ρ r h
    · exact evT_den hφ a 0 ρ r h
  | .chk c k, _, ρ, r, h => by
    simp only [evT, T.den] at h ⊢
    cases hc : (c.den ρ).toBool <;> rw [hc] at h
    · cases h
    · exact evT_den hφ k 0 ρ r h
  | .call cid args ks, _, ρ, r, h => by
    simp only [evT, T.den] at h ⊢
    cases hc : φ cid (args.den ρ).aggL with
    | none => rw [hc] at h; cases h
    | some q =>
      rw [hc] at h
      rw [hφ _ _ _ hc]
      exact evT_den hφ ks q.1 _ r h
  | .bind s ks, _, ρ, r, h => by
    simp only [evT, T.den] at h ⊢
    cases hc : evT fuel φ s 0 ρ with
    | none => rw [hc] at h; cases h
    | some q =>
      rw [hc] at h
      rw [evT_den hφ s 0 ρ q hc]
      exact evT_den hφ ks q.1 _ r h
  | .loop init body ks, _, ρ, r, h => by
    simp only [evT, T.den] at h ⊢
    split at h
    · rename_i j q hi
      have h1 := iter_mono (b' := fun st => body.den Φ 0 (ρ ++ st)) (fun st r hr => evT_den hφ body 0 _ r hr) hi
      rw [loopD_of_iter h1]
      exact evT_den hφ ks j _ r h
    · cases h
  | .alt k _, 0, ρ, r, h => by simp only [evT, T.den] at h ⊢; exact evT_den hφ k 0 ρ r h
  | .alt _ k, j + 1, ρ, r, h => by simp only [evT, T.den] at h ⊢; exact evT_den hφ k j ρ r h
  | .nil, _, _, _, h => by simp [evT] at h

/-- functions by number -/
def pick (l : List (Nat × (List D → Option (Nat × List D)))) (c : Nat) (ρ : List D) : Option (Nat × List D) :=
  match l with
  | [] => none
  | (k, f) :: l => if c = k then f ρ else pick l c ρ
end Go.RX
namespace Go.RX

/-! Contracts that are not compiled. -/
def pars : Nat → List TypeId → List SV
  | _, [] => []
  | i, t :: ts => .x (.var i) t :: pars (i + 1) ts

section
variable {P : Program} {W0 : World}

theorem pars_rep {w : World} {av : Av} {m : Pl} {ρ : List D} : ∀ (ts : List TypeId) (i : Nat) {vs : List Value} {ds : List D}, ρ.drop i = ds → ds.length = ts.length → RepSs P w av m ρ (pars i ts) vs → RepL P w av ts vs ds
  | [], i, [], [], _, _, _ => .nil
  | t :: ts, i, v :: vs, d :: ds, hd, hl, h => by
    have h0 : ρ.getD i default = d := by
      rw [List.getD_eq_getElem?_getD]
      have : (ρ.drop i)[0]? = some d := by rw [hd]; rfl
      rw [List.getElem?_drop] at this
      simp at this
      simp [this]
    have h1 : ρ.drop (i + 1) = ds := by
      rw [← List.drop_drop, hd]; rfl
    refine .cons ?_ (pars_rep ts (i + 1) h1 (by simpa using hl) h.2)
    have := h.1
    simp only [RepS, X.den, h0] at this
    exact this
  | [], _, _ :: _, _, _, _, h => h.elim
  | _ :: _, _, [], _, _, _, h => h.elim
  | [], _, [], _ :: _, _, hl, _ => by simp at hl
  | _ :: _, _, _ :: _, [], _, hl, _ => by simp at hl

/-- Flat results: nothing is kept but what is new. -/
theorem Con.flat {f : FuncId} {sg : Sig} {F : List D → Option (Nat × List D)} {ts : List TypeId} (hp : sg.params = pars 0 ts) (hn : sg.nv = ts.length) (hh : sg.heap = []) (ok : callOk P f = true)
    (shape : ∀ (ρ : List D) (j : Nat) (rs : List D), F ρ = some (j, rs) → ∃ out, sg.outs[j]? = some out ∧ rs.length = out.nv ∧ out.heap = [])
    (h : ∀ (w : World) (av : Av) (vs : List Value) (ds : List D) (j : Nat) (rs : List D) (out : SOut), W0.heap.size ≤ w.heap.size → (∀ b, b < W0.heap.size → w.heap[b]? = W0.heap[b]?) → RepL P w av ts vs ds → F ds = some (j, rs) →
      sg.outs[j]? = some out → Calls P f vs.toArray w fun e w' => ∃ v, e = .returned v ∧ Ext (fun _ => False) w w' ∧ ∀ (av : Av) (m : Pl), RepS P w' av m rs out.res v) : Con P W0 f sg F := by
  refine ⟨ok, fun ρ j rs hF => ?_, fun B ρ m w args j rs out hB hlen hS _ hpar hF hout => ?_⟩
  · obtain ⟨out, h1, h2, _⟩ := shape ρ j rs hF
    exact ⟨out, h1, h2⟩
  · obtain ⟨out', h1, _, h3⟩ := shape ρ j rs hF
    rw [hout] at h1; cases h1
    obtain ⟨g1, g2⟩ := hB.now hS
    rw [hp] at hpar
    have hl := pars_rep ts 0 (List.drop_zero ..) (by rw [hlen, hn]) hpar
    refine (h w _ args ρ j rs out g1 g2 hl hF hout).mono ?_
    rintro e w' ⟨v, rfl, hx, hv⟩
    rw [hh] at hS
    obtain ⟨s1, s2⟩ := hS.still hx
    obtain ⟨t1, t2⟩ := Sim.weaken (Hp := []) (mp := fun _ => none) (ρp := rs) (g := id) s1 (fun r hr => (hr (hget_nil r)).elim) (fun r hr => (hr (hget_nil r)).elim) (fun r _ hr => (hr (hget_nil r)).elim)
    refine ⟨v, fun _ => none, rfl, by rw [h3]; exact t1, hv _ _, fun i hi => ?_, fun _ _ => rfl⟩
    rw [hh] at hi; simp at hi

/-- One row of one's own comes out. -/
theorem Con.oneRow {f : FuncId} {sg : Sig} {F : List D → Option (Nat × List D)} {ts : List TypeId} {e : TypeId} (hp : sg.params = pars 0 ts) (hn : sg.nv = ts.length) (hh : sg.heap = []) (ok : callOk P f = true)
    (ho : sg.outs = [{ nv := 1, res := .own 0, heap := [.row e (.var 0) true] }])
    (shape : ∀ (ρ : List D) (j : Nat) (rs : List D), F ρ = some (j, rs) → j = 0 ∧ ∃ es, rs = [.sl es] ∧ SlOk P e es ∧ ∀ x ∈ es, x.length = (cellTys P e).length)
    (h : ∀ (w : World) (av : Av) (vs : List Value) (ds : List D) (es : List (List D)), W0.heap.size ≤ w.heap.size → (∀ b, b < W0.heap.size → w.heap[b]? = W0.heap[b]?) → RepL P w av ts vs ds → F ds = some (0, [.sl es]) →
      Calls P f vs.toArray w fun e' w' => ∃ v xs, e' = .returned v ∧ Ext (fun _ => False) w w' ∧ (∀ b, v.ownBlock = some b → w.heap.size ≤ b) ∧ w'.ownsRow 0 e (cellTys P e).length v es.length xs ∧
        RepL P w av (rowTys P e es.length) xs es.flatten ∧ ∃ a n c, v = .slice a n c) : Con P W0 f sg F := by
  refine ⟨ok, fun ρ j rs hF => ?_, fun B ρ m w args j rs out hB hlen hS _ hpar hF hout => ?_⟩
  · obtain ⟨rfl, es, rfl, _⟩ := shape ρ j rs hF
    exact ⟨_, by rw [ho]; rfl, rfl⟩
  · obtain ⟨rfl, es, rfl, hsl, hel⟩ := shape ρ j rs hF
    rw [ho] at hout
    simp only [List.getElem?_cons_zero, Option.some.injEq] at hout
    subst hout
    obtain ⟨g1, g2⟩ := hB.now hS
    rw [hp] at hpar
    have hl := pars_rep ts 0 (List.drop_zero ..) (by rw [hlen, hn]) hpar
    refine (h w _ args ρ es g1 g2 hl hF).mono ?_
    rintro e' w' ⟨v, xs, rfl, hx, hb, how, hr, hv⟩
    rw [hh] at hS hr
    obtain ⟨t1, t2⟩ := Sim.weaken (Hp := []) (mp := fun _ => none) (ρp := [D.sl es]) (g := id) hS (fun r hr => (hr (hget_nil r)).elim) (fun r hr => (hr (hget_nil r)).elim) (fun r _ hr => (hr (hget_nil r)).elim)
    have hst := Step.layRow (n := 0) (e := e) (c := .var 0) (wr := true) t1 rfl hx hb rfl hsl how hel (hr.keeps t2) hv
    refine ⟨v, _, rfl, hst.sim, hst.val, fun i hi => ?_, fun i hd => ?_⟩
    · rw [hh] at hi; simp at hi
    · cases i with
      | zero => simp [hget] at hd
      | succ i => exact upd_other _ (by omega)

theorem Ext.below {w w' : World} (h : RowKit.Below w.heap.size w w') : Ext (fun _ => False) w w' := ⟨h.os, h.tape, h.output, h.size, fun b hb _ => h.block b hb⟩
theorem Ext.drewN (w : World) (n : Nat) : Ext (fun _ => False) w (w.drewN n) := ⟨rfl, rfl, rfl, Nat.le_refl _, fun _ _ _ => rfl⟩
theorem Ext.grow (w : World) (os : Array Obj) : Ext (fun _ => False) w (Sort.grow w os) := by
  refine ⟨rfl, rfl, rfl, by simp [Sort.grow], fun b hb _ => ?_⟩
  show (w.heap ++ os)[b]? = w.heap[b]?
  rw [Array.getElem?_append_left hb]
theorem Ext.then {a b c : World} (h : Ext (fun _ => False) a b) (k : Ext (fun _ => False) b c) : Ext (fun _ => False) a c := h.trans k (fun _ _ f => f)

theorem var?_keep {w : World} (_hs : W0.heap.size ≤ w.heap.size) (hb : ∀ b, b < W0.heap.size → w.heap[b]? = W0.heap[b]?) {name : String} {cs : Array Value} (h : W0.var? P name = some cs) : w.var? P name = some cs := by
  unfold World.var? at h ⊢
  rw [Option.bind_eq_some_iff] at h ⊢
  obtain ⟨g, h1, h2⟩ := h
  refine ⟨g, h1, ?_⟩
  have hlt : g < W0.heap.size := by
    rcases Nat.lt_or_ge g W0.heap.size with hlt | hge
    · exact hlt
    · rw [Array.getElem?_eq_none hge] at h2; simp at h2
  rw [hb g hlt]; exact h2
theorem cell?_keep {w : World} (hb : ∀ b, b < W0.heap.size → w.heap[b]? = W0.heap[b]?) {b off : Nat} {v : Value} (h : W0.cell? ⟨b, off, none⟩ = some v) : w.cell? ⟨b, off, none⟩ = some v := by
  rw [cell?_of_heap_eq (hb b (World.block_lt_of_cell? W0 ⟨b, off, none⟩ h))]; exact h

/-- what is called, is given -/
def Kp (P : Program) (W0 : World) (cs : List Ctr) (φ : Nat → List D → Option (Nat × List D)) : Prop := ∀ c ∈ cs, Con P W0 c.f c.sg (φ c.cid)
theorem Kp.nil {φ : Nat → List D → Option (Nat × List D)} : Kp P W0 [] φ := fun _ h => by cases h
theorem Kp.cons {c : Ctr} {cs : List Ctr} {φ : Nat → List D → Option (Nat × List D)} (h : Con P W0 c.f c.sg (φ c.cid)) (hl : Kp P W0 cs φ) : Kp P W0 (c :: cs) φ := fun d hd => by
  rcases List.mem_cons.1 hd with rfl | hd
  · exact h
  · exact hl d hd
theorem pick_here {k : Nat} {f : List D → Option (Nat × List D)} {l : List (Nat × (List D → Option (Nat × List D)))} : pick ((k, f) :: l) k = f := by funext ρ; simp [pick]
theorem pick_there {k c : Nat} {f : List D → Option (Nat × List D)} {l : List (Nat × (List D → Option (Nat × List D)))} (h : c ≠ k) : pick ((k, f) :: l) c = pick l c := by funext ρ; simp [pick, h]
theorem pick_nil_mono {g : List (Nat × (List D → Option (Nat × List D)))} : ∀ c ρ r, pick [] c ρ = some r → pick g c ρ = some r := fun c ρ r h => by simp [pick] at h
theorem pick_cons_mono {k : Nat} {f f' : List D → Option (Nat × List D)} {l l' : List (Nat × (List D → Option (Nat × List D)))} (h : ∀ ρ r, f ρ = some r → f' ρ = some r) (hl : ∀ c ρ r, pick l c ρ = some r → pick l' c ρ = some r) :
    ∀ c ρ r, pick ((k, f) :: l) c ρ = some r → pick ((k, f') :: l') c ρ = some r := fun c ρ r hh => by
  simp only [pick] at hh ⊢
  split
  · rename_i e; rw [if_pos e] at hh; exact h ρ r hh
  · rename_i e; rw [if_neg e] at hh; exact hl c ρ r hh
end
end Go.RX
namespace Go.RX

/-! slices.Clone. -/
def cloneRest (t : TypeId) : Code :=
  .seq (.region 3
    #[{ dst := some 5, op := .buildSlice t 0 #[], type := t, pos := "slices.go:362", after := #[], guard := none },
      { dst := some 6, op := .move (.tmp 0), type := t, pos := "slices.go:362", after := #[], guard := none },
      { dst := some 7, op := .call { callee := .builtin .append, args := #[.tmp 5, .tmp 6], argTypes := #[t, t] }, type := t, pos := "slices.go:362",
        after := #[{ on := 0, ground := .data }, { on := 1, ground := .data }], guard := none },
      { dst := some 2, op := .assign (.tmp 7), type := t, pos := "slices.go:362",
        after := #[{ on := 2, ground := .data }, { on := 2, ground := .chain }, { on := 0, ground := .phase }, { on := 1, ground := .phase }, { on := 2, ground := .phase }], guard := none }] false) .ret
def cloneCode (t tb : TypeId) : Code :=
  .seq (.region 0 #[{ dst := some 2, op := .assign (.const (.slice none 0 0)), type := t, pos := "slices.go:355", after := #[], guard := none }] false)
    (.seq (.seq (.region 1
      #[{ dst := some 3, op := .move (.tmp 0), type := t, pos := "slices.go:357", after := #[], guard := none },
        { dst := some 4, op := .binOp .eql t (.tmp 3) (.const (.slice none 0 0)) t, type := tb, pos := "slices.go:357", after := #[{ on := 0, ground := .data }], guard := none }] false)
      (.cond (.tmp 4) (.seq (.region 2 #[{ dst := some 2, op := .assign (.const (.slice none 0 0)), type := t, pos := "slices.go:358", after := #[], guard := none }] false) .ret) .skip))
      (cloneRest t))
def cloneSt (t : TypeId) : SSt := { env := [.x (.var 0) t, .any, .any, .any, .any, .any, .any, .any], heap := [], nv := 1 }
/-- what the last part comes to -/
def cloneSym (P : Program) (t e : TypeId) (b : Nat) : Bool :=
  match sym { P := P, cs := [] } (cloneRest t) { norm := 4, exits := [], ret := 4 } (cloneSt t) with
  | some (t0, [(.ret, S)]) => t0 == .chk (.fits (.lit .nil) (.var 0) b) (.lf 0) && S.env.getD 2 .any == .own 1 && hget S.heap 1 == .row e (.app (.lit .nil) (.var 0)) true
  | _ => false
def cloneF (ρ : List D) : Option (Nat × List D) := some (0, [.sl (ρ.getD 0 default).toSl])

theorem equalIn_slice {P : Program} {w : World} {t e : TypeId} (ht : P.underlying t = some (.slice e)) (d : Nat) (a : Option Addr) (n c : Nat) : (Op.equalIn (d + 1) t (.slice a n c) (.slice none 0 0)).run P w = .ok a.isNone w := by
  cases a <;> simp [Op.equalIn, run_underlying ht]
theorem slice_nil_run {P : Program} {t e : TypeId} (ht : P.underlying t = some (.slice e)) (x y : Operand) (a : Option Addr) (n c : Nat) (w : World) :
    (do eqGuard .eql t x y (.slice a n c) (.slice none 0 0); binOp .eql t (.slice a n c) (.slice none 0 0)).run P w = .ok (.bool a.isNone) w := by
  rw [eqGuard_at_slice]
  have h : (Op.equal t (.slice a n c) (.slice none 0 0)).run P w = .ok a.isNone w := equalIn_slice ht 9999 a n c
  have := run_eq_nil (P := P) (op := .eql) (.inl rfl) t (.slice a n c) (.slice none 0 0) a.isNone h rfl
  rw [pure_bind]
  exact this
theorem Con.clone {P : Program} {W0 : World} (hmix : P.follows .mixedOrders = true) {f : FuncId} {fn : Func} {t e tb : TypeId} {b : Nat} (hf : P.funcs[f]? = some fn) (hbody : fn.body = some (cloneCode t tb)) (htmps : fn.ntmps = 8) (hres : fn.results = #[.tmp 2])
    (hcall : callOk P f = true) (ht : P.underlying t = some (.slice e)) (hb : bytesOf' P e = some b) (hsym : cloneSym P t e b = true) :
    Con P W0 f { nv := 1, params := [.x (.var 0) t], heap := [], outs := [{ nv := 1, res := .own 0, heap := [.row e (.var 0) true] }] } cloneF := by
  refine ⟨hcall, fun ρ j rs hF => ?_, fun B ρ m w args j rs out hB hlen hS _ hpar hF hout => ?_⟩
  · cases hF; exact ⟨_, rfl, rfl⟩
  cases hF
  simp only [List.getElem?_cons_zero, Option.some.injEq] at hout
  subst hout
  cases args with
  | nil => exact hpar.elim
  | cons v args => cases args with
    | cons _ _ => exact hpar.2.elim
    | nil =>
      have hv := hpar.1
      simp only [RepS, X.den] at hv
      obtain ⟨ed, hsl, a, cap, rfl, hcase⟩ := hv.ofSl ht
      have hx0 : Sim P B [ρ.getD 0 default] [] m w := by
        have hρ : ρ = [ρ.getD 0 default] := by
          have hl : ρ.length = 1 := hlen
          match ρ, hl with
          | [d], _ => rfl
        rw [← hρ]; exact hS
      refine calls_of_wp hf hbody ?_
      rw [htmps]
      unfold cloneCode
      have e8 : ([Value.slice a (ρ.getD 0 default).toSl.length cap].toArray ++ Array.replicate (8 - [Value.slice a (ρ.getD 0 default).toSl.length cap].toArray.size) undef) =
        #[.slice a (ρ.getD 0 default).toSl.length cap, undef, undef, undef, undef, undef, undef, undef] := rfl
      rw [e8]
      have hcmp := slice_nil_run (P := P) ht (.tmp 3) (.const (.slice none 0 0)) a (ρ.getD 0 default).toSl.length cap w
      refine wp_seq (wp_region ?_)
      simp only [List.size_toArray, List.length_cons, List.length_nil, Nat.reduceAdd, List.range, List.range.loop, wpOps, List.getElem?_toArray, List.getElem?_cons_zero, Region.wanted, if_true, Oper.wp, execOp, Act.eval, Sem.run_pure, Oper.upon, Act.put, Exit.then]
      left
      refine wp_seq (wp_seq (wp_region ?_))
      simp only [List.size_toArray, List.length_cons, List.length_nil, Nat.reduceAdd, List.range, List.range.loop, wpOps, List.getElem?_toArray, List.getElem?_cons_zero, List.getElem?_cons_succ, Region.wanted, if_true, Oper.wp, execOp, Act.eval, Sem.run_pure, Oper.upon, Act.put, Exit.then]
      left
      simp only [List.setIfInBounds_toArray, List.set_cons_succ, List.set_cons_zero, Array.getD_eq_getD_getElem?, List.getElem?_toArray, List.getElem?_cons_zero, List.getElem?_cons_succ, Option.getD_some, Sem.run_bind, Sem.run_pure] at hcmp ⊢
      rw [hcmp]
      simp only [Result.andThen_ok]
      -- the rest
      have hlast : ∀ {a : Option Addr}, Rep P w (avOf P m ρ B.fr []) t (.slice a (ρ.getD 0 default).toSl.length cap) (ρ.getD 0 default) → ∀ (x2 x3 x4 x5 x6 x7 x1 : Value),
          Code.wp P (cloneRest t) (bodyPost P fn fun e1 w' => ∃ v m', e1 = .returned v ∧ Ret P B { nv := 1, params := [.x (.var 0) t], heap := [], outs := [{ nv := 1, res := .own 0, heap := [.row e (.var 0) true] }] }
            { nv := 1, res := .own 0, heap := [.row e (.var 0) true] } [.sl (ρ.getD 0 default).toSl] m m' w' v) { tmps := #[.slice a (ρ.getD 0 default).toSl.length cap, x1, x2, x3, x4, x5, x6, x7], defers := [] } w := by
        intro a hva x2 x3 x4 x5 x6 x7 x1
        unfold cloneSym at hsym
        split at hsym
        rotate_left
        · cases hsym
        rename_i t0 S1 hs1
        simp only [Bool.and_eq_true, beq_iff_eq] at hsym
        obtain ⟨⟨rfl, hs2⟩, hs3⟩ := hsym
        have hC : CtxOk { P := P, cs := [] } W0 (fun _ _ => none) := ⟨fun c hc => by (cases hc), List.nodup_nil, fun i hi => by (cases hi), hmix⟩
        obtain ⟨_, hso⟩ := sym_ok hC _ _ _ hs1
        have hfit : ((D.sl []).toSl.length + (ρ.getD 0 default).toSl.length) * b ≤ 140737488355328 := by
          have := hsl.2 b hb
          simpa [D.toSl] using this
        obtain ⟨e1, S2, more, k1, k2, k3, k4⟩ := hso (ρ := [ρ.getD 0 default]) (ρ' := [ρ.getD 0 default]) (j := 0) rfl (by
          simp only [T.den, X.den, D.toBool, D.aggL, List.map_nil]
          rw [decide_eq_true (by simpa [D.toSl] using hfit)]
          rfl)
        simp only [List.getElem?_cons_zero, Option.some.injEq, Prod.mk.injEq] at k1
        obtain ⟨rfl, rfl⟩ := k1
        have hρ : ρ = [ρ.getD 0 default] := by
          have hl : ρ.length = 1 := hlen
          match ρ, hl with
          | [d], _ => rfl
        obtain ⟨h0, h1⟩ := Sim.weaken (Hp := []) (mp := fun _ => none) (ρp := [ρ.getD 0 default]) (g := id) hx0 (fun r hr => (hr (hget_nil r)).elim) (fun r hr => (hr (hget_nil r)).elim) (fun r _ hr => (hr (hget_nil r)).elim)
        refine k4 B (fun _ => none) _ w (fun _ => none) hB ⟨⟨h0, fun i => ?_, rfl, rfl, fun x b hx => by (cases hx)⟩, fun _ _ => rfl, fun i hi => by (cases hi), Nat.zero_le _⟩ _ fun a' w' m' hR => ?_
        · match i with
          | 0 => exact hva.keeps (by rw [hρ] at *; exact h1)
          | 1 | 2 | 3 | 4 | 5 | 6 | 7 => simp [cloneSt, RepS]
          | i + 8 => simp [cloneSt, RepS]
        · have hr2 := hR.mod.env 2
          rw [hs2] at hr2
          have hob := hR.mod.sim.ok 1
          rw [hs3] at hob
          refine ⟨hR.mod.defers, a'.tmps.getD 2 undef, ?_, a'.tmps.getD 2 undef, ?_⟩
          · rw [results_eq, hres]
            simp [resOne]
          · simp only [RepS] at hr2
            obtain ⟨p, hp, hpv, a1, n1, c1, hsv⟩ := hr2
            obtain ⟨s1, s2⟩ := Sim.weaken (Hp := [.row e (.var 0) true]) (mp := fun i => if i = 0 then some p else none) (ρp := [D.sl (ρ.getD 0 default).toSl]) (g := fun _ => 1) hR.mod.sim (fun r hr => by
              cases r with
              | zero => exact .inr ⟨by rw [hs3]; simp, by simp [hp], fun _ => ⟨by rw [hs3]; trivial, fun off _ => by rw [hs3]; trivial⟩⟩
              | succ r => simp [hget] at hr) (fun r hr => by
              cases r with
              | zero =>
                obtain ⟨es, xs, v, o1, o2, o3, o4, o5, o6⟩ := hob
                rw [hp] at o1
                have he : es = (ρ.getD 0 default).toSl := by
                  simp [X.den, D.toSl, D.aggL] at o2
                  exact o2.symm
                subst he
                exact ⟨_, xs, v, by simp [o1], rfl, o3, o4, o5, o6⟩
              | succ r => simp [hget] at hr) (fun r r' hr hr' _ _ _ => by
              cases r <;> cases r' <;> simp [hget] at hr hr' ⊢)
            refine ⟨_, rfl, s1, ?_, fun i hi => by simp at hi, fun i hd => ?_⟩
            · simp only [RepS]
              exact ⟨p, by simp, hpv, a1, n1, c1, hsv⟩
            · cases i with
              | zero => simp [hget] at hd
              | succ i => simp
      cases a with
      | none =>
        simp only [Option.isNone_none]
        have hn : (ρ.getD 0 default).toSl = [] := by
          rcases hcase with h | ⟨_, _, h, _⟩
          · exact h
          · cases h
        left
        refine wp_cond_true rfl (wp_seq (wp_region ?_))
        simp only [List.size_toArray, List.length_cons, List.length_nil, Nat.reduceAdd, List.range, List.range.loop, wpOps, List.getElem?_toArray, List.getElem?_cons_zero, Region.wanted, if_true, Oper.wp, execOp, Act.eval, Sem.run_pure, Oper.upon, Act.put, Exit.then]
        left
        refine wp_ret ⟨rfl, .slice none 0 0, ?_, .slice none 0 0, ?_⟩
        · rw [results_eq, hres]
          simp [resOne]
        · have s1 : Sim P B [D.sl (ρ.getD 0 default).toSl] [.row e (.var 0) true] (fun i => if i = 0 then some nilPlace else none) w := by
            refine (Sim.weaken (g := id) hx0 (fun r hr => ?_) (fun r hr => ?_) (fun r r' hr hr' h1 => ?_)).1
            · cases r with
              | zero => exact .inl rfl
              | succ r => simp [hget] at hr
            · cases r with
              | zero =>
                rw [hn]
                exact ⟨[], [], .slice none 0 0, rfl, rfl, ⟨by simp, by simp⟩, World.ownsRow_nil w 0 e _, by simp, by simp only [rowTys, List.length_nil, List.replicate_zero, List.flatten_nil]; exact .nil⟩
              | succ r => simp [hget] at hr
            · cases r with
              | zero => exact (h1 rfl).elim
              | succ r => simp [hget] at hr
          refine ⟨_, rfl, s1, ?_, fun i hi => by simp at hi, fun i hd => ?_⟩
          · simp only [RepS]
            exact ⟨nilPlace, rfl, rfl, _, _, _, rfl⟩
          · cases i with
            | zero => simp [hget] at hd
            | succ i => simp
      | some a =>
        simp only [Option.isNone_some]
        left
        refine wp_cond_false rfl (wp_skip ?_)
        exact hlast hv _ _ _ _ _ _ _
end Go.RX
namespace Go.RX

/-! What serves the plain laws. -/
theorem loopD_seq {body : List D → Option (Nat × List D)} {st : Nat → List D} : ∀ (n : Nat) {j : Nat} {r : List D}, (∀ i, i < n → body (st i) = some (0, st (i + 1))) → body (st n) = some (j + 1, r) → loopD body (st 0) = some (j + 1, r) := by
  intro n j r h hend
  have key : ∀ (k : Nat) (st : Nat → List D), (∀ i, i < k → body (st i) = some (0, st (i + 1))) → loopD body (st 0) = loopD body (st k) := by
    intro k
    induction k with
    | zero => intro st _; rfl
    | succ k ih =>
      intro st h
      rw [loopD_step (h 0 (Nat.zero_lt_succ k)), ih (fun i => st (i + 1)) (fun i hi => h (i + 1) (by omega))]
  rw [key n st h, loopD_done hend]

theorem pick_eq {k : Nat} {f : List D → Option (Nat × List D)} {l : List (Nat × (List D → Option (Nat × List D)))} (ρ : List D) : pick ((k, f) :: l) k ρ = f ρ := by simp [pick]
theorem pick_ne {k c : Nat} {f : List D → Option (Nat × List D)} {l : List (Nat × (List D → Option (Nat × List D)))} (ρ : List D) (h : c ≠ k) : pick ((k, f) :: l) c ρ = pick l c ρ := by simp [pick, h]

/-- strings, one by one, as a slice's data -/
def D.strs (l : List (List UInt8)) : D := .sl (l.map fun x => [.str x])
def D.ofStrs (es : List (List D)) : List (List UInt8) := es.map fun x => (x.headD default).toStr
theorem ofStrs_strs (l : List (List UInt8)) : D.ofStrs (l.map fun x => [.str x]) = l := by
  unfold D.ofStrs; rw [List.map_map]; exact List.map_id' l
/-- numbers, one by one -/
def D.ints (l : List Int) : D := .sl (l.map fun n => [.int n])

def pickF : List (Nat × (List D → Option (Nat × List D))) → Nat → Option (List D → Option (Nat × List D))
  | [], _ => none
  | (k, f) :: l, c => if c = k then some f else pickF l c
theorem pick_at {l : List (Nat × (List D → Option (Nat × List D)))} {c : Nat} {f : List D → Option (Nat × List D)} {ρ : List D} {r : Option (Nat × List D)} (h : pickF l c = some f) (hf : f ρ = r) : pick l c ρ = r := by
  induction l with
  | nil => cases h
  | cons q l ih =>
    obtain ⟨k, g⟩ := q
    simp only [pickF, pick] at h ⊢
    split
    · rename_i e; rw [if_pos e] at h; cases h; exact hf
    · rename_i e; rw [if_neg e] at h; exact ih h
/-- one step behind the other -/
theorem bind_of {α β : Type} {e : Option α} {f : α → Option β} {r : α} {x : Option β} (h : e = some r) (k : f r = x) : e.bind f = x := by rw [h]; exact k
theorem take_snoc {α : Type} {l : List α} {i : Nat} (hi : i < l.length) : l.take i ++ [l[i]] = l.take (i + 1) := by
  rw [List.take_add_one, List.getElem?_eq_getElem hi]; rfl
theorem map_take_snoc {α β : Type} (f : α → β) {l : List α} {i : Nat} (hi : i < l.length) : (l.take i).map f ++ [f l[i]] = (l.take (i + 1)).map f := by
  rw [← take_snoc hi, List.map_append]; rfl
theorem cond_true' {α : Type} (a b : α) : (bif true then a else b) = a := rfl
theorem cond_false' {α : Type} (a b : α) : (bif false then a else b) = b := rfl
end Go.RX
