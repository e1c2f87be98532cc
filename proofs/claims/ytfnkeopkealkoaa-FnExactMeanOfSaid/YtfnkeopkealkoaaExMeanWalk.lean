/-
  The walk of laws.FnExactMeanOf.
-/
import Derived.Test.YtfnkeopkealkoaaMeanO
import Derived.Test.YtfnkeopkealkoaaList
import Derived.Test.YtfnkeopkealkoaaToInt
namespace Go.Proofs.Ytfnkeopkealkoaa
open Go.RowKit
set_option linter.unusedVariables false

set_option maxHeartbeats 1000000 in
theorem walk_FnExactMeanOf (a0 : Option Addr) (len0 cap0 : Nat) (y0 : List Int) (a1 : Option Addr) (len1 cap1 : Nat) (y1 : List Int) (a2 : Int) (a3 : Int) (w : World) (w0 : IsRow .i64 w a0 len0 cap0 y0) (w1 : IsRow .i64 w a1 len1 cap1 y1) (w2 : (Lit.int .i64 a2).wf = true) (w3 : (Lit.int .i64 a3).wf = true) :
    Calls Try.prog 3 #[.slice a0 len0 cap0, .slice a1 len1 cap1, .int .i64 a2, .int .i64 a3] w fun e w' => e = .returned (.bool true) ∧ Below w.heap.size w w' := by
  have hr0 := w0.reads
  have hlen0 := w0.len
  clear w0
  generalize y0.take len0 = z0 at *
  have hr1 := w1.reads
  have hlen1 := w1.len
  clear w1 w2 w3
  generalize y1.take len1 = z1 at *
  by_cases hbig0 : 1048576 < len0
  · have hbig0' : decide ((1048576 : Int) < (len0 : Int)) = true := decide_eq_true (by omega)
    go_enter Try.func3, Try.ntmps3
    go_wp2_with fail
    go_ret
    exact ⟨rfl, Below.refl _ _⟩
  by_cases hbig1 : 1048576 < len1
  · have hbig1' : decide ((1048576 : Int) < (len1 : Int)) = true := decide_eq_true (by omega)
    go_enter Try.func3, Try.ntmps3
    go_wp2_with fail
    go_ret
    exact ⟨rfl, Below.refl _ _⟩
  have hqq : (mA z0 z1 a2 a3 == mA z0 z1 a2 a3 && mB z0 z1 a2 a3 == mB z0 z1 a2 a3) = true := by simp
  have hqo : (meanOk z0 z1 a2 a3 != meanOk z0 z1 a2 a3) = false := by simp
  have ht0 : decide (z0 = z0) = true := by simp
  have ht1 : decide (z1 = z1) = true := by simp
  go_enter Try.func3, Try.ntmps3
  go_wp2_with fail
  refine (laws_toIntS _ z0 _ hr0 (by omega)).mono ?_
  rintro e w1 ⟨v1, rfl, o1, hb1⟩
  go_wp2_with fail
  refine (laws_toIntS _ z1 _ (hr1.keep hb1) (by omega)).mono ?_
  rintro e w2 ⟨v2, rfl, o2, hb2⟩
  have q2 := hb1.trans (hb2.mono hb1.size)
  go_wp2_with fail
  refine (spec_MeanOf _ z0 _ z1 a2 a3 _ (o1.keep hb2).reads o2.reads).mono ?_; unfold meanV
  rintro e w3 ⟨rfl, hb3⟩
  have q3 := q2.trans (hb3.mono q2.size)
  clear hb1 hb2 hb3 o1 o2 q2
  have ha : Below w3.heap.size w3 (w3.alloc (.cells #[.int .i64 (mA z0 z1 a2 a3), .int .i64 (mB z0 z1 a2 a3)] 24)) := (Below.refl _ _).alloc (Nat.le_refl _) _
  have qa := q3.trans (ha.mono q3.size)
  have p0a : (w3.alloc (.cells #[.int .i64 (mA z0 z1 a2 a3), .int .i64 (mB z0 z1 a2 a3)] 24)).cell? ⟨w3.heap.size, 0, none⟩ = some (.int .i64 (mA z0 z1 a2 a3)) := by simp
  have p1a : (w3.alloc (.cells #[.int .i64 (mA z0 z1 a2 a3), .int .i64 (mB z0 z1 a2 a3)] 24)).cell? ⟨w3.heap.size, 1, none⟩ = some (.int .i64 (mB z0 z1 a2 a3)) := by simp
  have sza : w3.heap.size < (w3.alloc (.cells #[.int .i64 (mA z0 z1 a2 a3), .int .i64 (mB z0 z1 a2 a3)] 24)).heap.size := by simp
  go_wp2_with fail
  refine (laws_toIntS _ z0 _ (hr0.keep qa) (by omega)).mono ?_
  rintro e w4 ⟨v4, rfl, o4, hb4⟩
  have q4 := qa.trans (hb4.mono qa.size)
  have p04 := ((bcell hb4).1 _ _ sza).trans p0a
  have p14 := ((bcell hb4).1 _ _ sza).trans p1a
  have sz4 := Nat.lt_of_lt_of_le sza hb4.size
  clear hb4 p0a p1a sza qa ha
  go_wp2_with fail
  refine (laws_toIntS _ z1 _ (hr1.keep q4) (by omega)).mono ?_
  rintro e w5 ⟨v5, rfl, o5, hb5⟩
  have q5 := q4.trans (hb5.mono q4.size)
  have p05 := ((bcell hb5).1 _ _ sz4).trans p04
  have p15 := ((bcell hb5).1 _ _ sz4).trans p14
  have sz5 := Nat.lt_of_lt_of_le sz4 hb5.size
  have o45 := o4.keep hb5
  clear hb5 p04 p14 sz4 q4 o4
  go_wp2_with fail
  refine (impl_MeanOf _ z0 _ z1 a2 a3 _ o45.reads o5.reads).mono ?_; unfold meanV
  rintro e w6 ⟨rfl, hb6⟩
  have q6 := q5.trans (hb6.mono q5.size)
  have p06 := ((bcell hb6).1 _ _ sz5).trans p05
  have p16 := ((bcell hb6).1 _ _ sz5).trans p15
  have sz6 := Nat.lt_of_lt_of_le sz5 hb6.size
  have o46 := o45.keep hb6
  have o56 := o5.keep hb6
  clear hb6 p05 p15 sz5 q5 o45 o5
  have hb : Below w6.heap.size w6 (w6.alloc (.cells #[.int .i64 (mA z0 z1 a2 a3), .int .i64 (mB z0 z1 a2 a3)] 24)) := (Below.refl _ _).alloc (Nat.le_refl _) _
  have qb := q6.trans (hb.mono q6.size)
  have o4b := o46.keep hb
  have o5b := o56.keep hb
  have p0b := ((bcell hb).1 _ 0 sz6).trans p06
  have p1b := ((bcell hb).1 _ 1 sz6).trans p16
  clear q6 o46 o56 hb
  go_wp2_with fail
  refine (laws_eqFrac _ _ _ _ _).mono ?_; rintro e w7 ⟨rfl, hb7⟩
  have q7 := qb.trans (hb7.mono qb.size)
  have o47 := o4b.keep hb7
  have o57 := o5b.keep hb7
  clear hb7 qb o4b o5b p0b p1b p06 p16 q3
  go_wp2_with fail
  refine (laws_toIntS _ z0 _ (hr0.keep q7) (by omega)).mono ?_
  rintro e w8 ⟨v8, rfl, o8, hb8⟩
  have q8 := q7.trans (hb8.mono q7.size)
  go_wp2_with fail
  refine (laws_eqIntS _ _ _ _ _ (o47.keep hb8).reads o8.reads).mono ?_
  rintro e w9 ⟨rfl, hb9⟩
  have q9 := q8.trans (hb9.mono q8.size)
  have o59 := (o57.keep hb8).keep hb9
  clear hb8 hb9 o8 o47 o57 q7 q8
  go_wp2_with fail
  refine (laws_toIntS _ z1 _ (hr1.keep q9) (by omega)).mono ?_
  rintro e w10 ⟨v10, rfl, o10, hb10⟩
  have q10 := q9.trans (hb10.mono q9.size)
  go_wp2_with fail
  refine (laws_eqIntS _ _ _ _ _ (o59.keep hb10).reads o10.reads).mono ?_
  rintro e w11 ⟨rfl, hb11⟩
  go_wp2_with fail
  go_ret
  exact ⟨rfl, q10.trans (hb11.mono q10.size)⟩
end Go.Proofs.Ytfnkeopkealkoaa
