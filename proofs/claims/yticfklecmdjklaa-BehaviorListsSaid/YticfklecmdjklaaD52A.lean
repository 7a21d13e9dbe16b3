/-
  D52A: contracts of chapter 52's functions.
-/
import Derived.Test.YticfklecmdjklaaC52Code
import Derived.Test.YticfklecmdjklaaGbZB
import Derived.Lib.Bytealg
namespace Go.GB.C52
open Go.GB
set_option linter.unusedSimpArgs false
set_option linter.unusedVariables false
set_option maxRecDepth 100000
structure Pr (P : Program) : Prop where
  mixed : P.follows .mixedOrders = true
  i3 : fnInfo P 3 = some (n3, c3.bare, r3)
  i4 : fnInfo P 4 = some (n4, c4.bare, r4)
  i5 : fnInfo P 5 = some (n5, c5.bare, r5)
  i6 : fnInfo P 6 = some (n6, c6.bare, r6)
  i7 : fnInfo P 7 = some (n7, c7.bare, r7)
  i8 : fnInfo P 8 = some (n8, c8.bare, r8)
  i9 : fnInfo P 9 = some (n9, c9.bare, r9)
  i10 : fnInfo P 10 = some (n10, c10.bare, r10)
  i11 : fnInfo P 11 = some (n11, c11.bare, r11)
  i12 : fnInfo P 12 = some (n12, c12.bare, r12)
  i13 : fnInfo P 13 = some (n13, c13.bare, r13)
  i14 : fnInfo P 14 = some (n14, c14.bare, r14)
  i15 : fnInfo P 15 = some (n15, c15.bare, r15)
  i16 : fnInfo P 16 = some (n16, c16.bare, r16)
  i17 : fnInfo P 17 = some (n17, c17.bare, r17)
  i18 : fnInfo P 18 = some (n18, c18.bare, r18)
  i19 : fnInfo P 19 = some (n19, c19.bare, r19)
  i20 : fnInfo P 20 = some (n20, c20.bare, r20)
  i21 : fnInfo P 21 = some (n21, c21.bare, r21)
  i22 : fnInfo P 22 = some (n22, c22.bare, r22)
  i23 : fnInfo P 23 = some (n23, c23.bare, r23)
  i24 : fnInfo P 24 = some (n24, c24.bare, r24)
  i25 : fnInfo P 25 = some (n25, c25.bare, r25)
  i26 : fnInfo P 26 = some (n26, c26.bare, r26)
  i27 : fnInfo P 27 = some (n27, c27.bare, r27)
  i28 : fnInfo P 28 = some (n28, c28.bare, r28)
  i30 : fnInfo P 30 = some (n30, c30.bare, r30)
  i31 : fnInfo P 31 = some (n31, c31.bare, r31)
  idx : ∀ (s : List UInt8) (c : UInt8), FnOk P 29 [.t (.str s), .t (.str [c])] ⟨[], 0⟩ { v := .t (.int .i64 (Lib.indexByte s c)) }
variable {P : Program}

def letter (c : Int) : Bool := decide (c ≥ 65) && decide (c ≤ 90) || decide (c ≥ 97) && decide (c ≤ 122) || c == 95
theorem letter_ok (H : Pr P) (c : Int) : FnOk P 30 [.t (.int .u8 c)] ⟨[], 0⟩ { v := .t (.bool (letter c)) } := by
  refine FnOk.run H.i30 H.mixed rfl rfl ?_
  repeat (first | refine fR rfl ?_ | refine fM rfl ?_ | refine aL rfl rfl rfl rfl rfl ?_ | refine aN rfl rfl rfl ?_ | refine a64 rfl rfl rfl ?_ | refine s64 rfl rfl rfl ?_ | refine lM rfl rfl rfl ?_ | refine sTo rfl rfl rfl ?_ | refine sFrom rfl rfl rfl ?_ | refine sSub rfl rfl rfl rfl ?_ | refine lTo rfl rfl rfl rfl ?_ | refine lFrom rfl rfl rfl rfl ?_ | refine lMG rfl rfl rfl rfl ?_ | refine aLG rfl rfl rfl rfl rfl rfl ?_ | refine aNG rfl rfl rfl rfl ?_ | refine a64G rfl rfl rfl rfl ?_ | refine s64G rfl rfl rfl rfl ?_ | refine sToG rfl rfl rfl rfl ?_ | refine sFromG rfl rfl rfl rfl ?_ | refine p0 rfl ?_ | refine gr rfl ?_ | refine pu rfl ?_ | fail)
  refine Run.fin rfl (EndOk.go ?_); exact .t rfl
def digit (c : Int) : Bool := decide (c ≥ 48) && decide (c ≤ 57)
theorem digit_ok (H : Pr P) (c : Int) : FnOk P 31 [.t (.int .u8 c)] ⟨[], 0⟩ { v := .t (.bool (digit c)) } := by
  refine FnOk.run H.i31 H.mixed rfl rfl ?_
  repeat (first | refine fR rfl ?_ | refine fM rfl ?_ | refine aL rfl rfl rfl rfl rfl ?_ | refine aN rfl rfl rfl ?_ | refine a64 rfl rfl rfl ?_ | refine s64 rfl rfl rfl ?_ | refine lM rfl rfl rfl ?_ | refine sTo rfl rfl rfl ?_ | refine sFrom rfl rfl rfl ?_ | refine sSub rfl rfl rfl rfl ?_ | refine lTo rfl rfl rfl rfl ?_ | refine lFrom rfl rfl rfl rfl ?_ | refine lMG rfl rfl rfl rfl ?_ | refine aLG rfl rfl rfl rfl rfl rfl ?_ | refine aNG rfl rfl rfl rfl ?_ | refine a64G rfl rfl rfl rfl ?_ | refine s64G rfl rfl rfl rfl ?_ | refine sToG rfl rfl rfl rfl ?_ | refine sFromG rfl rfl rfl rfl ?_ | refine p0 rfl ?_ | refine gr rfl ?_ | refine pu rfl ?_ | fail)
  refine Run.fin rfl (EndOk.go ?_); exact .t rfl

/-- from the i-th letter on -/
def nameL (i : Nat) : List UInt8 → Bool
  | [] => true
  | c :: r => if !letter c.toNat && ((i : Int) == 0 || !digit c.toNat) then false else nameL (i + 1) r
def refName (s : List UInt8) : Bool := if s.length < 1 ∨ s.length > 64 then false else nameL 0 s

theorem refName_ok (H : Pr P) (s : List UInt8) : FnOk P 27 [.t (.str s)] ⟨[], 0⟩ { v := .t (.bool (refName s)) } := by
  refine FnOk.run H.i27 H.mixed rfl rfl ?_
  repeat (first | refine fR rfl ?_ | refine fM rfl ?_ | refine aL rfl rfl rfl rfl rfl ?_ | refine aN rfl rfl rfl ?_ | refine a64 rfl rfl rfl ?_ | refine s64 rfl rfl rfl ?_ | refine lM rfl rfl rfl ?_ | refine sTo rfl rfl rfl ?_ | refine sFrom rfl rfl rfl ?_ | refine sSub rfl rfl rfl rfl ?_ | refine lTo rfl rfl rfl rfl ?_ | refine lFrom rfl rfl rfl rfl ?_ | refine lMG rfl rfl rfl rfl ?_ | refine aLG rfl rfl rfl rfl rfl rfl ?_ | refine aNG rfl rfl rfl rfl ?_ | refine a64G rfl rfl rfl rfl ?_ | refine s64G rfl rfl rfl rfl ?_ | refine sToG rfl rfl rfl rfl ?_ | refine sFromG rfl rfl rfl rfl ?_ | refine p0 rfl ?_ | refine gr rfl ?_ | refine pu rfl ?_ | fail)
  refine Run.cond rfl rfl (fun h => ?_) (fun h => ?_)
  · repeat (first | refine fR rfl ?_ | refine fM rfl ?_ | refine aL rfl rfl rfl rfl rfl ?_ | refine aN rfl rfl rfl ?_ | refine a64 rfl rfl rfl ?_ | refine s64 rfl rfl rfl ?_ | refine lM rfl rfl rfl ?_ | refine sTo rfl rfl rfl ?_ | refine sFrom rfl rfl rfl ?_ | refine sSub rfl rfl rfl rfl ?_ | refine lTo rfl rfl rfl rfl ?_ | refine lFrom rfl rfl rfl rfl ?_ | refine lMG rfl rfl rfl rfl ?_ | refine aLG rfl rfl rfl rfl rfl rfl ?_ | refine aNG rfl rfl rfl rfl ?_ | refine a64G rfl rfl rfl rfl ?_ | refine s64G rfl rfl rfl rfl ?_ | refine sToG rfl rfl rfl rfl ?_ | refine sFromG rfl rfl rfl rfl ?_ | refine p0 rfl ?_ | refine gr rfl ?_ | refine pu rfl ?_ | fail)
    refine Run.fin rfl (EndOk.go ?_); refine .t ?_
    simp at h
    have hs : s.length < 1 ∨ s.length > 64 := by omega
    simp only [refName, hs, if_true]
  · simp at h
    have hl : s.length ≤ 64 := by omega
    repeat (first | refine fR rfl ?_ | refine fM rfl ?_ | refine aL rfl rfl rfl rfl rfl ?_ | refine aN rfl rfl rfl ?_ | refine a64 rfl rfl rfl ?_ | refine s64 rfl rfl rfl ?_ | refine lM rfl rfl rfl ?_ | refine sTo rfl rfl rfl ?_ | refine sFrom rfl rfl rfl ?_ | refine sSub rfl rfl rfl rfl ?_ | refine lTo rfl rfl rfl rfl ?_ | refine lFrom rfl rfl rfl rfl ?_ | refine lMG rfl rfl rfl rfl ?_ | refine aLG rfl rfl rfl rfl rfl rfl ?_ | refine aNG rfl rfl rfl rfl ?_ | refine a64G rfl rfl rfl rfl ?_ | refine s64G rfl rfl rfl rfl ?_ | refine sToG rfl rfl rfl rfl ?_ | refine sFromG rfl rfl rfl rfl ?_ | refine p0 rfl ?_ | refine gr rfl ?_ | refine pu rfl ?_ | fail)
    have h0 : refName s = nameL 0 s := by
      have hs : ¬ (s.length < 1 ∨ s.length > 64) := by omega
      simp only [refName, hs, if_false]
    refine rList s (fun i (_ : Unit) => ⟨[(0, .t (.str s)), (3, .t (.int .i64 i))], ⟨[], 0⟩⟩) (fun r i _ => refName s = nameL i r) 0 () rfl h0 rfl rfl rfl ?_ ?_
    · intro _ hv
      repeat (first | refine fR rfl ?_ | refine fM rfl ?_ | refine aL rfl rfl rfl rfl rfl ?_ | refine aN rfl rfl rfl ?_ | refine a64 rfl rfl rfl ?_ | refine s64 rfl rfl rfl ?_ | refine lM rfl rfl rfl ?_ | refine sTo rfl rfl rfl ?_ | refine sFrom rfl rfl rfl ?_ | refine sSub rfl rfl rfl rfl ?_ | refine lTo rfl rfl rfl rfl ?_ | refine lFrom rfl rfl rfl rfl ?_ | refine lMG rfl rfl rfl rfl ?_ | refine aLG rfl rfl rfl rfl rfl rfl ?_ | refine aNG rfl rfl rfl rfl ?_ | refine a64G rfl rfl rfl rfl ?_ | refine s64G rfl rfl rfl rfl ?_ | refine sToG rfl rfl rfl rfl ?_ | refine sFromG rfl rfl rfl rfl ?_ | refine p0 rfl ?_ | refine gr rfl ?_ | refine pu rfl ?_ | fail)
      refine Run.cond rfl rfl (fun h2 => ?_) (fun h2 => ?_)
      · simp at h2
      repeat (first | refine fR rfl ?_ | refine fM rfl ?_ | refine aL rfl rfl rfl rfl rfl ?_ | refine aN rfl rfl rfl ?_ | refine a64 rfl rfl rfl ?_ | refine s64 rfl rfl rfl ?_ | refine lM rfl rfl rfl ?_ | refine sTo rfl rfl rfl ?_ | refine sFrom rfl rfl rfl ?_ | refine sSub rfl rfl rfl rfl ?_ | refine lTo rfl rfl rfl rfl ?_ | refine lFrom rfl rfl rfl rfl ?_ | refine lMG rfl rfl rfl rfl ?_ | refine aLG rfl rfl rfl rfl rfl rfl ?_ | refine aNG rfl rfl rfl rfl ?_ | refine a64G rfl rfl rfl rfl ?_ | refine s64G rfl rfl rfl rfl ?_ | refine sToG rfl rfl rfl rfl ?_ | refine sFromG rfl rfl rfl rfl ?_ | refine p0 rfl ?_ | refine gr rfl ?_ | refine pu rfl ?_ | fail)
      refine Run.fin rfl (EndOk.go ?_); exact .t (by rw [hv]; rfl)
    · intro i c r _ h1 hi hd hv ih
      repeat (first | refine fR rfl ?_ | refine fM rfl ?_ | refine aL rfl rfl rfl rfl rfl ?_ | refine aN rfl rfl rfl ?_ | refine a64 rfl rfl rfl ?_ | refine s64 rfl rfl rfl ?_ | refine lM rfl rfl rfl ?_ | refine sTo rfl rfl rfl ?_ | refine sFrom rfl rfl rfl ?_ | refine sSub rfl rfl rfl rfl ?_ | refine lTo rfl rfl rfl rfl ?_ | refine lFrom rfl rfl rfl rfl ?_ | refine lMG rfl rfl rfl rfl ?_ | refine aLG rfl rfl rfl rfl rfl rfl ?_ | refine aNG rfl rfl rfl rfl ?_ | refine a64G rfl rfl rfl rfl ?_ | refine s64G rfl rfl rfl rfl ?_ | refine sToG rfl rfl rfl rfl ?_ | refine sFromG rfl rfl rfl rfl ?_ | refine p0 rfl ?_ | refine gr rfl ?_ | refine pu rfl ?_ | fail)
      refine Run.cond rfl rfl (fun h2 => ?_) (fun h2 => ?_)
      · repeat (first | refine fR rfl ?_ | refine fM rfl ?_ | refine aL rfl rfl rfl rfl rfl ?_ | refine aN rfl rfl rfl ?_ | refine a64 rfl rfl rfl ?_ | refine s64 rfl rfl rfl ?_ | refine lM rfl rfl rfl ?_ | refine sTo rfl rfl rfl ?_ | refine sFrom rfl rfl rfl ?_ | refine sSub rfl rfl rfl rfl ?_ | refine lTo rfl rfl rfl rfl ?_ | refine lFrom rfl rfl rfl rfl ?_ | refine lMG rfl rfl rfl rfl ?_ | refine aLG rfl rfl rfl rfl rfl rfl ?_ | refine aNG rfl rfl rfl rfl ?_ | refine a64G rfl rfl rfl rfl ?_ | refine s64G rfl rfl rfl rfl ?_ | refine sToG rfl rfl rfl rfl ?_ | refine sFromG rfl rfl rfl rfl ?_ | refine p0 rfl ?_ | refine gr rfl ?_ | refine pu rfl ?_ | fail)
        refine Mid.byte rfl rfl h1 rfl ?_
        repeat (first | refine fR rfl ?_ | refine fM rfl ?_ | refine aL rfl rfl rfl rfl rfl ?_ | refine aN rfl rfl rfl ?_ | refine a64 rfl rfl rfl ?_ | refine s64 rfl rfl rfl ?_ | refine lM rfl rfl rfl ?_ | refine sTo rfl rfl rfl ?_ | refine sFrom rfl rfl rfl ?_ | refine sSub rfl rfl rfl rfl ?_ | refine lTo rfl rfl rfl rfl ?_ | refine lFrom rfl rfl rfl rfl ?_ | refine lMG rfl rfl rfl rfl ?_ | refine aLG rfl rfl rfl rfl rfl rfl ?_ | refine aNG rfl rfl rfl rfl ?_ | refine a64G rfl rfl rfl rfl ?_ | refine s64G rfl rfl rfl rfl ?_ | refine sToG rfl rfl rfl rfl ?_ | refine sFromG rfl rfl rfl rfl ?_ | refine p0 rfl ?_ | refine gr rfl ?_ | refine pu rfl ?_ | fail)
        refine Mid.call (letter_ok H c.toNat) rfl rfl rfl rfl ?_
        repeat (first | refine fR rfl ?_ | refine fM rfl ?_ | refine aL rfl rfl rfl rfl rfl ?_ | refine aN rfl rfl rfl ?_ | refine a64 rfl rfl rfl ?_ | refine s64 rfl rfl rfl ?_ | refine lM rfl rfl rfl ?_ | refine sTo rfl rfl rfl ?_ | refine sFrom rfl rfl rfl ?_ | refine sSub rfl rfl rfl rfl ?_ | refine lTo rfl rfl rfl rfl ?_ | refine lFrom rfl rfl rfl rfl ?_ | refine lMG rfl rfl rfl rfl ?_ | refine aLG rfl rfl rfl rfl rfl rfl ?_ | refine aNG rfl rfl rfl rfl ?_ | refine a64G rfl rfl rfl rfl ?_ | refine s64G rfl rfl rfl rfl ?_ | refine sToG rfl rfl rfl rfl ?_ | refine sFromG rfl rfl rfl rfl ?_ | refine p0 rfl ?_ | refine gr rfl ?_ | refine pu rfl ?_ | fail)
        refine byG rfl rfl rfl h1 rfl ?_
        repeat (first | refine fR rfl ?_ | refine fM rfl ?_ | refine aL rfl rfl rfl rfl rfl ?_ | refine aN rfl rfl rfl ?_ | refine a64 rfl rfl rfl ?_ | refine s64 rfl rfl rfl ?_ | refine lM rfl rfl rfl ?_ | refine sTo rfl rfl rfl ?_ | refine sFrom rfl rfl rfl ?_ | refine sSub rfl rfl rfl rfl ?_ | refine lTo rfl rfl rfl rfl ?_ | refine lFrom rfl rfl rfl rfl ?_ | refine lMG rfl rfl rfl rfl ?_ | refine aLG rfl rfl rfl rfl rfl rfl ?_ | refine aNG rfl rfl rfl rfl ?_ | refine a64G rfl rfl rfl rfl ?_ | refine s64G rfl rfl rfl rfl ?_ | refine sToG rfl rfl rfl rfl ?_ | refine sFromG rfl rfl rfl rfl ?_ | refine p0 rfl ?_ | refine gr rfl ?_ | refine pu rfl ?_ | fail)
        refine caG rfl rfl (fun hg => ⟨_, rfl, digit_ok H c.toNat, rfl⟩) rfl rfl ?_
        repeat (first | refine fR rfl ?_ | refine fM rfl ?_ | refine aL rfl rfl rfl rfl rfl ?_ | refine aN rfl rfl rfl ?_ | refine a64 rfl rfl rfl ?_ | refine s64 rfl rfl rfl ?_ | refine lM rfl rfl rfl ?_ | refine sTo rfl rfl rfl ?_ | refine sFrom rfl rfl rfl ?_ | refine sSub rfl rfl rfl rfl ?_ | refine lTo rfl rfl rfl rfl ?_ | refine lFrom rfl rfl rfl rfl ?_ | refine lMG rfl rfl rfl rfl ?_ | refine aLG rfl rfl rfl rfl rfl rfl ?_ | refine aNG rfl rfl rfl rfl ?_ | refine a64G rfl rfl rfl rfl ?_ | refine s64G rfl rfl rfl rfl ?_ | refine sToG rfl rfl rfl rfl ?_ | refine sFromG rfl rfl rfl rfl ?_ | refine p0 rfl ?_ | refine gr rfl ?_ | refine pu rfl ?_ | fail)
        refine Run.cond rfl rfl (fun h3 => ?_) (fun h3 => ?_)
        · repeat (first | refine fR rfl ?_ | refine fM rfl ?_ | refine aL rfl rfl rfl rfl rfl ?_ | refine aN rfl rfl rfl ?_ | refine a64 rfl rfl rfl ?_ | refine s64 rfl rfl rfl ?_ | refine lM rfl rfl rfl ?_ | refine sTo rfl rfl rfl ?_ | refine sFrom rfl rfl rfl ?_ | refine sSub rfl rfl rfl rfl ?_ | refine lTo rfl rfl rfl rfl ?_ | refine lFrom rfl rfl rfl rfl ?_ | refine lMG rfl rfl rfl rfl ?_ | refine aLG rfl rfl rfl rfl rfl rfl ?_ | refine aNG rfl rfl rfl rfl ?_ | refine a64G rfl rfl rfl rfl ?_ | refine s64G rfl rfl rfl rfl ?_ | refine sToG rfl rfl rfl rfl ?_ | refine sFromG rfl rfl rfl rfl ?_ | refine p0 rfl ?_ | refine gr rfl ?_ | refine pu rfl ?_ | fail)
          refine Run.fin rfl (EndOk.go ?_); exact .t (by rw [hv]; simp only [nameL, h3, if_true])
        · repeat (first | refine fR rfl ?_ | refine fM rfl ?_ | refine aL rfl rfl rfl rfl rfl ?_ | refine aN rfl rfl rfl ?_ | refine a64 rfl rfl rfl ?_ | refine s64 rfl rfl rfl ?_ | refine lM rfl rfl rfl ?_ | refine sTo rfl rfl rfl ?_ | refine sFrom rfl rfl rfl ?_ | refine sSub rfl rfl rfl rfl ?_ | refine lTo rfl rfl rfl rfl ?_ | refine lFrom rfl rfl rfl rfl ?_ | refine lMG rfl rfl rfl rfl ?_ | refine aLG rfl rfl rfl rfl rfl rfl ?_ | refine aNG rfl rfl rfl rfl ?_ | refine a64G rfl rfl rfl rfl ?_ | refine s64G rfl rfl rfl rfl ?_ | refine sToG rfl rfl rfl rfl ?_ | refine sFromG rfl rfl rfl rfl ?_ | refine p0 rfl ?_ | refine gr rfl ?_ | refine pu rfl ?_ | fail)
          exact rWeak 0 rfl (ih () (by rw [hv]; simp only [nameL, h3, if_false, Bool.false_eq_true])) rfl rfl rfl
      · simp at h2; omega
end Go.GB.C52
