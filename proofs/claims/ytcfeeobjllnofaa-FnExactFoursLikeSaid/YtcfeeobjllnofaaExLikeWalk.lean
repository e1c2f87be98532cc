/-
  The walk of laws.FnExactFoursLike.
-/
import Derived.Test.YtcfeeobjllnofaaLikeF
namespace Go.Proofs.Ytcfeeobjllnofaa
open Go.RowKit
set_option linter.unusedVariables false

theorem likeV_len (a b c d : Int) : (likeV a b c d).length ≤ 17 := by
  unfold likeV
  split
  · rename_i h
    have := fourB_iff.1 h
    have := likeTo_len a b c d (a + b + 1).toNat
    unfold likeL; omega
  · simp
theorem box_mark {w w' : World} {g B : Nat} {o : Obj} {v : Value} {zs : List Int} (h : w.heap[g]? = some o) (ho : Owns w B v zs) (hg : g < B) (hgrow : w.grownBy w' v.ownBlock) : w'.heap[g]? = some o := by
  refine (hgrow.block g (Array.getElem?_eq_some_iff.1 h).1 ?_).trans h
  intro e
  rcases ho.shape with ⟨rfl, _⟩ | ⟨g', cap, rfl, h1, _⟩
  · simp [Value.ownBlock] at e
  · simp [Value.ownBlock] at e; omega

set_option maxHeartbeats 1000000 in
theorem walk_FnExactFoursLike (a b c d : Int) (w : World) (wa : (Lit.int .i64 a).wf = true) (wb : (Lit.int .i64 b).wf = true) (wc : (Lit.int .i64 c).wf = true) (wd : (Lit.int .i64 d).wf = true) :
    Calls Try.prog 7 #[four a b c d] w fun e w' => e = .returned (.bool true) ∧ Below w.heap.size w w' := by
  have hlr : (likeV a b c d).length ≤ 1048576 := Nat.le_trans (likeV_len a b c d) (by decide)
  have ht : decide (likeV a b c d = likeV a b c d) = true := by simp
  have q0 := below_box w (.cells #[.int .i64 a, .int .i64 b, .int .i64 c, .int .i64 d] 23)
  have e0 := box_new w (.cells #[.int .i64 a, .int .i64 b, .int .i64 c, .int .i64 d] 23)
  generalize hV : likeV a b c d = V at *
  go_enter Try.func7, Try.ntmps7
  go_wp2_with fail
  refine (laws_toFour a b c d _).mono ?_
  rintro e u1 ⟨rfl, ht1⟩
  have p1 := q0.trans (ht1.mono q0.size)
  have f1 := box_keep e0 ht1
  have l1 := (Array.getElem?_eq_some_iff.1 f1).1
  go_wp2_with fail
  refine (spec_FoursLike a b c d _).mono ?_
  rintro e w1 ⟨v1, rfl, o1, hb1⟩
  rw [hV] at o1
  have s1 := hb1.size
  have q1 := p1.trans (hb1.mono p1.size)
  have e1 := box_keep f1 hb1
  obtain ⟨c0, c1, c2, c3⟩ := box_of e1
  go_wp2_with fail
  refine (laws_toFour a b c d _).mono ?_
  rintro e u2 ⟨rfl, ht2⟩
  clear c0 c1 c2 c3
  have x2 := ht2.size
  have p2 := q1.trans (ht2.mono q1.size)
  have f2 := box_keep e1 ht2
  have l2 := (Array.getElem?_eq_some_iff.1 f2).1
  have k1_1 := o1.keep ht2
  go_wp2_with fail
  refine (impl_FoursLike a b c d _).mono ?_
  rintro e w2 ⟨v2, rfl, o2, hb2⟩
  rw [hV] at o2
  have s2 := hb2.size
  have q2 := p2.trans (hb2.mono p2.size)
  have e2 := box_keep f2 hb2
  have k1_2 := k1_1.keep hb2
  go_wp2_with fail
  refine (laws_eqIntS _ _ _ _ _ o2.reads k1_2.reads).mono ?_
  rintro e w3 ⟨rfl, hb3⟩
  have s3 := hb3.size
  have q3 := q2.trans (hb3.mono q2.size)
  have e3 := box_keep e2 hb3
  have k1_3 := k1_2.keep hb3
  have k2_3 := o2.keep hb3
  go_wp2_with fail
  refine (laws_markIntS _ _ _ _ k2_3 (by omega)).mono ?_
  rintro e w4 ⟨rfl, o4, hg4⟩
  have s4 := hg4.size
  have q4 := k2_3.grown hg4 q3 (by omega) q3.size
  have e4 := box_mark e3 k2_3 l2 hg4
  have k1_4 := k1_3.other hg4 (Owns.earlier o1 k2_3 (by omega))
  go_wp2_with fail
  refine (laws_heldIntS _ _ _ o4.reads (by omega)).mono ?_
  rintro e w_ ⟨rfl, rfl⟩
  obtain ⟨c0, c1, c2, c3⟩ := box_of e4
  go_wp2_with fail
  refine (laws_toFour a b c d _).mono ?_
  rintro e u5 ⟨rfl, ht5⟩
  clear c0 c1 c2 c3
  have p5 := q4.trans (ht5.mono q4.size)
  have k1_4a := k1_4.keep ht5
  have o4a := o4.keep ht5
  go_wp2_with fail
  refine (impl_FoursLike a b c d _).mono ?_
  rintro e w5 ⟨v5, rfl, o5, hb5⟩
  rw [hV] at o5
  have s5 := hb5.size
  have q5 := p5.trans (hb5.mono p5.size)
  have k1_5 := k1_4a.keep hb5
  have k2_5 := o4a.keep hb5
  go_wp2_with fail
  refine (laws_eqIntS _ _ _ _ _ o5.reads k1_5.reads).mono ?_
  rintro e w6 ⟨rfl, hb6⟩
  have s6 := hb6.size
  have q6 := q5.trans (hb6.mono q5.size)
  have k1_6 := k1_5.keep hb6
  have k2_6 := k2_5.keep hb6
  have k5_6 := o5.keep hb6
  go_wp2_with fail
  refine (laws_heldIntS _ _ _ k2_6.reads (by omega)).mono ?_
  rintro e w_ ⟨rfl, rfl⟩
  go_wp2_with fail
  go_ret
  exact ⟨rfl, q6⟩
end Go.Proofs.Ytcfeeobjllnofaa
