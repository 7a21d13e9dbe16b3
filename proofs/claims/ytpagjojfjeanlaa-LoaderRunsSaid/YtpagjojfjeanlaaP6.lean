/-
  YtpagjojfjeanlaaP6: lemmas of this proof (part 6). No conditions.
-/
import Derived.Test.YtpagjojfjeanlaaP4
import Derived.Test.YtpagjojfjeanlaaP5

/-
  L35A: chapter 35: values are copied, measured and compared.
-/
namespace Go.GB.C35
open Go.GB
set_option linter.unusedSimpArgs false
set_option linter.unusedVariables false
set_option maxRecDepth 100000
set_option maxHeartbeats 4000000
structure Pr (P : Program) : Prop where
  mixed : P.follows .mixedOrders = true
  i3 : fnInfo P 3 = some (n3, c3.bare, r3)
  i7 : fnInfo P 7 = some (n7, c7.bare, r7)
  i8 : fnInfo P 8 = some (n8, c8.bare, r8)
  i9 : fnInfo P 9 = some (n9, c9.bare, r9)
  i10 : fnInfo P 10 = some (n10, c10.bare, r10)
  i11 : fnInfo P 11 = some (n11, c11.bare, r11)
  i12 : fnInfo P 12 = some (n12, c12.bare, r12)
  i13 : fnInfo P 13 = some (n13, c13.bare, r13)
  i14 : fnInfo P 14 = some (n14, c14.bare, r14)
  i15 : fnInfo P 15 = some (n15, c15.bare, r15)
  i16 : fnInfo P 16 = some (n16, c16.bare, r16)
  i17 : fnInfo P 17 = some (n17, c17.bare, r17)
  i18 : fnInfo P 18 = some (n18, c18.bare, r18)
  i19 : fnInfo P 19 = some (n19, c19.bare, r19)
  i20 : fnInfo P 20 = some (n20, c20.bare, r20)
  i23 : fnInfo P 23 = some (n23, c23.bare, r23)
  i24 : fnInfo P 24 = some (n24, c24.bare, r24)
  i25 : fnInfo P 25 = some (n25, c25.bare, r25)
  i26 : fnInfo P 26 = some (n26, c26.bare, r26)
  i27 : fnInfo P 27 = some (n27, c27.bare, r27)
  i28 : fnInfo P 28 = some (n28, c28.bare, r28)
  i29 : fnInfo P 29 = some (n29, c29.bare, r29)
  i30 : fnInfo P 30 = some (n30, c30.bare, r30)
  i31 : fnInfo P 31 = some (n31, c31.bare, r31)
  i32 : fnInfo P 32 = some (n32, c32.bare, r32)
  i33 : fnInfo P 33 = some (n33, c33.bare, r33)
  i34 : fnInfo P 34 = some (n34, c34.bare, r34)
  i35 : fnInfo P 35 = some (n35, c35.bare, r35)
  i36 : fnInfo P 36 = some (n36, c36.bare, r36)
  i37 : fnInfo P 37 = some (n37, c37.bare, r37)
  i38 : fnInfo P 38 = some (n38, c38.bare, r38)
  i39 : fnInfo P 39 = some (n39, c39.bare, r39)
  i40 : fnInfo P 40 = some (n40, c40.bare, r40)
  i41 : fnInfo P 41 = some (n41, c41.bare, r41)
  i42 : fnInfo P 42 = some (n42, c42.bare, r42)
  i43 : fnInfo P 43 = some (n43, c43.bare, r43)
  i44 : fnInfo P 44 = some (n44, c44.bare, r44)
  i45 : fnInfo P 45 = some (n45, c45.bare, r45)
  i46 : fnInfo P 46 = some (n46, c46.bare, r46)
  i47 : fnInfo P 47 = some (n47, c47.bare, r47)
  i48 : fnInfo P 48 = some (n48, c48.bare, r48)
variable {P : Program}
theorem clone_ok (H : Pr P) (l : List Str) (hl : l.length * 16 ≤ 140737488355328) : FnOk P 40 [.t (.lst (l.map sE))] ⟨[], 0⟩ { v := .t (.lst (l.map sE)) } := by
  refine FnOk.run H.i40 H.mixed rfl rfl ?_
  refine fR rfl ?_
  refine p0 rfl ?_
  refine fM rfl ?_
  refine Run.condU rfl rfl (fun h => ?_) (fun _ => ?_)
  · have hn : l = [] := by
      cases l with
      | nil => rfl
      | cons x r =>
        have := h (sE x) (by simp)
        simp [sE] at this
    subst hn
    refine fR rfl ?_
    refine Run.fin rfl (EndOk.go ?_); exact .nil rfl
  · refine fR rfl ?_
    refine apN sE l rfl rfl rfl ?_ (h1 := hl) (h2 := by omega)
    refine fM rfl ?_
    refine Run.fin rfl (EndOk.go ?_); exact .own rfl

def CopyC (P : Program) (v : Val) : Prop := FnOk P 33 [v.v] ⟨[], 0⟩ { v := v.v }
theorem copies_step (H : Pr P) (l : List Val) (hl : l.length * 80 ≤ 140737488355328) (hrec : ∀ x, x ∈ l → CopyC P x) : FnOk P 39 [.t (.lst (l.map Val.enc))] ⟨[], 0⟩ { v := .t (.lst (l.map Val.enc)) } := by
  refine FnOk.run H.i39 H.mixed rfl rfl ?_
  refine fR rfl ?_
  refine lM rfl rfl rfl ?_
  refine fM rfl ?_
  refine rList l (fun i (B : List Val) => { env := [(3, .own 0 5 (B.map Val.enc)), (6, .t (.lst (l.map Val.enc))), (7, .t (.int .i64 l.length)), (8, .t (.int .i64 i))], s := ⟨[(0, .arr B.length)], 1⟩ }) (fun r i B => B.length = i ∧ B ++ r = l) 0 [] rfl ⟨rfl, rfl⟩ rfl rfl rfl ?_ ?_
  · rintro B ⟨hBl, hB⟩
    have e : B = l := by rw [← hB]; simp
    refine fR rfl ?_
    refine Run.condF rfl rfl (by simp) ?_
    refine fR rfl ?_
    refine Run.fin rfl (EndOk.go ?_); exact .own (by rw [e])
  · rintro i x r B h1 hi hd ⟨hBl, hB⟩ ih
    have hBl' : B.length = i := hBl
    have hc := hrec x (List.mem_of_getElem? h1)
    unfold CopyC at hc
    refine fR rfl ?_
    refine Run.condT rfl rfl (by simp; omega) ?_
    refine fR rfl ?_
    refine Mid.elemMapC (Val.enc_eq x) rfl rfl rfl h1 rfl rfl ?_
    refine fM rfl ?_
    refine Mid.call (hc) rfl rfl rfl rfl ?_
    refine fM rfl ?_
    refine apM Val.enc B [x] rfl (congrArg (fun c => some (T.lst [c])) (Val.enc_eq x).symm) rfl rfl rfl ?_ (hl := fun x => (congrArg List.length (Val.enc_eq x)).trans rfl)
    refine fM rfl ?_
    refine aL rfl rfl rfl rfl rfl ?_
    refine fM rfl ?_
    exact rWeak 1 rfl (ih (B ++ [x]) ⟨by simp; omega, by rw [← hB]; simp⟩) rfl rfl rfl
theorem copy_step (H : Pr P) (v : Val) (hv : v.Ok) (hrec : ∀ x, x ∈ v.items → CopyC P x) : CopyC P v := by
  have hil := hv.il
  have hkl := hv.kl
  unfold CopyC
  refine FnOk.run H.i33 H.mixed rfl rfl ?_
  refine fR rfl ?_
  refine Mid.call (copies_step H v.items hil hrec) rfl rfl rfl rfl ?_
  refine fM rfl ?_
  refine Mid.call (clone_ok H v.keys hkl) rfl rfl rfl rfl ?_
  refine fM rfl ?_
  refine Run.fin rfl (EndOk.go ?_); exact .le (.same rfl)
theorem copy_ok' (H : Pr P) : ∀ (k : Nat) (v : Val), SizeOf.sizeOf v ≤ k → v.Ok → CopyC P v
  | 0, v, h, _ => by cases v; simp at h
  | k + 1, v, h, hv => copy_step H v hv fun x hx => copy_ok' H k x (by have := Val.size_items v hx; omega) (hv.it x hx)
theorem copy_ok (H : Pr P) (v : Val) (hv : v.Ok) : FnOk P 33 [v.v] ⟨[], 0⟩ { v := v.v } := copy_ok' H _ v (Nat.le_refl _) hv

def RCopyC (P : Program) (v : Val) : Prop := FnOk P 36 [v.v] ⟨[], 0⟩ { v := v.v }
theorem rcopies_step (H : Pr P) (l : List Val) (hl : l.length * 80 ≤ 140737488355328) (hrec : ∀ x, x ∈ l → RCopyC P x) : FnOk P 35 [.t (.lst (l.map Val.enc))] ⟨[], 0⟩ { v := .t (.lst (l.map Val.enc)) } := by
  refine FnOk.run H.i35 H.mixed rfl rfl ?_
  refine fR rfl ?_
  refine rList l (fun i (B : List Val) => { env := [(0, .t (.lst (l.map Val.enc))), (3, .own 0 5 (B.map Val.enc)), (4, .t (.int .i64 i))], s := ⟨[(0, .arr B.length)], 1⟩ }) (fun r i B => B.length = i ∧ B ++ r = l) 0 [] rfl ⟨rfl, rfl⟩ rfl rfl rfl ?_ ?_
  · rintro B ⟨hBl, hB⟩
    have e : B = l := by rw [← hB]; simp
    refine fR rfl ?_
    refine lM rfl rfl rfl ?_
    refine fM rfl ?_
    refine Run.condF rfl rfl (by simp) ?_
    refine fR rfl ?_
    refine Run.fin rfl (EndOk.go ?_); exact .own (by rw [e])
  · rintro i x r B h1 hi hd ⟨hBl, hB⟩ ih
    have hBl' : B.length = i := hBl
    have hc := hrec x (List.mem_of_getElem? h1)
    unfold RCopyC at hc
    refine fR rfl ?_
    refine lM rfl rfl rfl ?_
    refine fM rfl ?_
    refine Run.condT rfl rfl (by simp; omega) ?_
    refine fR rfl ?_
    refine Mid.elemMapC (Val.enc_eq x) rfl rfl rfl h1 rfl rfl ?_
    refine fM rfl ?_
    refine Mid.call (hc) rfl rfl rfl rfl ?_
    refine fM rfl ?_
    refine apM Val.enc B [x] rfl (congrArg (fun c => some (T.lst [c])) (Val.enc_eq x).symm) rfl rfl rfl ?_ (hl := fun x => (congrArg List.length (Val.enc_eq x)).trans rfl)
    refine fM rfl ?_
    refine aL rfl rfl rfl rfl rfl ?_
    refine fM rfl ?_
    exact rWeak 1 rfl (ih (B ++ [x]) ⟨by simp; omega, by rw [← hB]; simp⟩) rfl rfl rfl
theorem rcopy_step (H : Pr P) (v : Val) (hv : v.Ok) (hrec : ∀ x, x ∈ v.items → RCopyC P x) : RCopyC P v := by
  have hil := hv.il
  have hkl := hv.kl
  unfold RCopyC
  refine FnOk.run H.i36 H.mixed rfl rfl ?_
  refine fR rfl ?_
  refine Mid.call (rcopies_step H v.items hil hrec) rfl rfl rfl rfl ?_
  refine fM rfl ?_
  refine apN sE v.keys rfl rfl rfl ?_ (h1 := by first | omega | (simp; omega) | (simp; done)) (h2 := by first | omega | (simp; omega) | (simp; done))
  refine fM rfl ?_
  refine Run.fin rfl (EndOk.go ?_); exact .agg (.cons (.t rfl) (.cons (.t rfl) (.cons (.t rfl) (.cons (.t rfl) (.cons (.own rfl) .nil)))))
theorem rcopy_ok' (H : Pr P) : ∀ (k : Nat) (v : Val), SizeOf.sizeOf v ≤ k → v.Ok → RCopyC P v
  | 0, v, h, _ => by cases v; simp at h
  | k + 1, v, h, hv => rcopy_step H v hv fun x hx => rcopy_ok' H k x (by have := Val.size_items v hx; omega) (hv.it x hx)
theorem rcopy_ok (H : Pr P) (v : Val) (hv : v.Ok) : FnOk P 36 [v.v] ⟨[], 0⟩ { v := v.v } := rcopy_ok' H _ v (Nat.le_refl _) hv

theorem zeroR {m : Nat} {s : S} : LeR m s (.agg [.t (.int .i64 0), .t (.int .i64 0), .t (.str []), .nils, .nils]) Val.zero.v := .agg (.cons (.t rfl) (.cons (.t rfl) (.cons (.t rfl) (.cons (.nil rfl) (.cons (.nil rfl) .nil)))))
mutual
def szV : Val → Int
  | .mk _ _ _ its _ => szL 1 its
def szL : Int → List Val → Int
  | n, [] => n
  | n, x :: r => szL (IntKind.i64.wrap (n + szV x)) r
end
theorem szV_eq (v : Val) : szV v = szL 1 v.items := by cases v; rfl
def SizeC (P : Program) (v : Val) : Prop := FnOk P 9 [v.v] ⟨[], 0⟩ { v := .t (.int .i64 (szV v)) }
theorem size_step (H : Pr P) (v : Val) (hv : v.Ok) (hrec : ∀ x, x ∈ v.items → SizeC P x) : SizeC P v := by
  have hil := hv.il
  unfold SizeC
  rw [szV_eq]
  refine FnOk.run H.i9 H.mixed rfl rfl ?_
  refine fR rfl ?_
  refine rList v.items (fun i (n : Int) => { env := [(1, .ptr 0 0), (3, .t (.int .i64 n)), (4, .t (.int .i64 i))], s := ⟨[(0, (.cells [.t (.int .i64 v.kind), .t (.int .i64 v.int), .t (.str v.text), .t (.lst (v.items.map Val.enc)), .t (.lst (v.keys.map sE))]))], 1⟩ }) (fun r i n => szL 1 v.items = szL n r) 1 (1 : Int) rfl rfl rfl rfl rfl ?_ ?_
  · rintro n hinv
    rw [hinv]
    refine fR rfl ?_
    refine lM rfl rfl rfl ?_
    refine fM rfl ?_
    refine Run.condF rfl rfl (by simp) ?_
    refine fR rfl ?_
    refine Run.fin rfl (EndOk.go ?_); exact .t rfl
  · rintro i x r n h1 hi hd hinv ih
    have hc := hrec x (List.mem_of_getElem? h1)
    unfold SizeC at hc
    refine fR rfl ?_
    refine lM rfl rfl rfl ?_
    refine fM rfl ?_
    refine Run.condT rfl rfl (by simp; omega) ?_
    refine fR rfl ?_
    refine Mid.elemMapC (Val.enc_eq x) rfl rfl rfl h1 rfl rfl ?_
    refine fM rfl ?_
    refine Mid.call (hc) rfl rfl rfl rfl ?_
    refine p0 rfl ?_
    refine fM rfl ?_
    refine aL rfl rfl rfl rfl rfl ?_
    refine fM rfl ?_
    exact rWeak 1 rfl (ih (IntKind.i64.wrap (n + szV x)) (by rw [hinv]; simp only [szL])) rfl rfl rfl
theorem size_ok' (H : Pr P) : ∀ (k : Nat) (v : Val), SizeOf.sizeOf v ≤ k → v.Ok → SizeC P v
  | 0, v, h, _ => by cases v; simp at h
  | k + 1, v, h, hv => size_step H v hv fun x hx => size_ok' H k x (by have := Val.size_items v hx; omega) (hv.it x hx)
theorem size_ok (H : Pr P) (v : Val) (hv : v.Ok) : FnOk P 9 [v.v] ⟨[], 0⟩ { v := .t (.int .i64 (szV v)) } := size_ok' H _ v (Nat.le_refl _) hv
end Go.GB.C35


/-
  L35B: chapter 35: the order of values, as the reference and as the program compare them.
-/
namespace Go.GB.C35
open Go.GB
set_option linter.unusedSimpArgs false
set_option linter.unusedVariables false
set_option maxRecDepth 100000
set_option maxHeartbeats 4000000
variable {P : Program}
def cmpI (a b : Int) : Int := if a < b then -1 else if a > b then 1 else 0
def cmpS (a b : Str) : Int := if Op.bytesLess a b = true then -1 else if a = b then 0 else 1
theorem cmpI_zero {a b : Int} : cmpI a b = 0 ↔ a = b := by
  unfold cmpI
  split
  · constructor
    · intro h; omega
    · intro h; omega
  · split
    · constructor
      · intro h; omega
      · intro h; omega
    · constructor
      · intro _; omega
      · intro _; rfl
theorem less_irrefl : ∀ s : List UInt8, Op.bytesLess s s = false
  | [] => rfl
  | a :: r => by simp [Op.bytesLess, less_irrefl r]
theorem cmpS_zero {a b : Str} : cmpS a b = 0 ↔ a = b := by
  unfold cmpS
  constructor
  · intro h
    split at h
    · omega
    · split at h
      · assumption
      · omega
  · rintro rfl
    simp [less_irrefl]
theorem nz {p q : Int} : (if p ≠ 0 then p else q) = 0 ↔ p = 0 ∧ q = 0 := by
  by_cases h : p = 0
  · simp [h]
  · simp [h]
theorem cmpB_zero : ∀ {a b : Str}, Go.Lib.compareBytes a b = 0 ↔ a = b
  | [], [] => by simp [Go.Lib.compareBytes]
  | [], y :: s => by simp [Go.Lib.compareBytes]
  | x :: r, [] => by simp [Go.Lib.compareBytes]
  | x :: r, y :: s => by
    unfold Go.Lib.compareBytes
    by_cases h3 : x < y
    · simp only [h3, if_true]
      constructor
      · intro h; omega
      · intro h; cases h; exact absurd h3 (UInt8.lt_irrefl _)
    · by_cases h4 : y < x
      · simp only [h3, h4, if_true, if_false]
        constructor
        · intro h; omega
        · intro h; cases h; exact absurd h4 (UInt8.lt_irrefl _)
      · have e : x = y := UInt8.le_antisymm (UInt8.not_lt.1 h4) (UInt8.not_lt.1 h3)
        subst e
        simp only [h3, if_false, cmpB_zero (a := r) (b := s), List.cons.injEq, true_and]
def keyA (l : List Str) (i : Nat) : Str := (l[i]?).getD []
mutual
def cmpV (c : Str → Str → Int) : Val → Val → Int
  | .mk k i t its ks, b => if cmpI k b.kind ≠ 0 then cmpI k b.kind else if cmpI i b.int ≠ 0 then cmpI i b.int else if c t b.text ≠ 0 then c t b.text else cmpVs c its b.items ks b.keys 0 (cmpI its.length b.items.length)
def cmpVs (c : Str → Str → Int) : List Val → List Val → List Str → List Str → Nat → Int → Int
  | [], _, _, _, _, z => z
  | x :: r, l, ka, kb, j, z =>
    match l with
    | [] => z
    | y :: s => if c (keyA ka j) (keyA kb j) ≠ 0 then c (keyA ka j) (keyA kb j) else if cmpV c x y ≠ 0 then cmpV c x y else cmpVs c r s ka kb (j + 1) z
end
theorem cmpV_eq (c : Str → Str → Int) (a b : Val) : cmpV c a b = if cmpI a.kind b.kind ≠ 0 then cmpI a.kind b.kind else if cmpI a.int b.int ≠ 0 then cmpI a.int b.int else if c a.text b.text ≠ 0 then c a.text b.text else cmpVs c a.items b.items a.keys b.keys 0 (cmpI a.items.length b.items.length) := by
  cases a; rfl
/-- the same value, as far as comparing goes -/
def sameS (a b : Str) : Int := if a = b then 0 else 1
theorem sameS_zero {a b : Str} : sameS a b = 0 ↔ a = b := by unfold sameS; split <;> simp_all
def sameV (a b : Val) : Bool := decide (cmpV sameS a b = 0)
theorem cmp_any {c d : Str → Str → Int} (hc : ∀ {a b}, c a b = 0 ↔ a = b) (hd : ∀ {a b}, d a b = 0 ↔ a = b) : ∀ k : Nat, (∀ a b : Val, SizeOf.sizeOf a ≤ k → (cmpV c a b = 0 ↔ cmpV d a b = 0)) ∧
    ∀ (l m : List Val) (ka kb : List Str) (j : Nat) (z : Int), SizeOf.sizeOf l ≤ k → (cmpVs c l m ka kb j z = 0 ↔ cmpVs d l m ka kb j z = 0)
  | 0 => ⟨fun a b h => by cases a; simp at h, fun l m ka kb j z h => by cases l <;> simp at h⟩
  | k + 1 => by
    have ih := cmp_any (c := c) (d := d) hc hd k
    have hcd : ∀ a b, c a b = 0 ↔ d a b = 0 := fun a b => hc.trans hd.symm
    refine ⟨fun a b h => ?_, fun l m ka kb j z h => ?_⟩
    · have h2 := ih.2 a.items b.items a.keys b.keys 0 (cmpI a.items.length b.items.length) (by cases a; simp only [Val.items]; simp only [Val.mk.sizeOf_spec] at h; omega)
      rw [cmpV_eq, cmpV_eq]
      simp only [nz, h2, hcd]
    · cases l with
      | nil => simp [cmpVs]
      | cons x r =>
        cases m with
        | nil => simp [cmpVs]
        | cons y s =>
          have h1 := ih.1 x y (by simp only [List.cons.sizeOf_spec] at h; omega)
          have h2 := ih.2 r s ka kb (j + 1) z (by simp only [List.cons.sizeOf_spec] at h; omega)
          simp only [cmpVs, nz, h1, h2, hcd]
theorem sameV_of {c : Str → Str → Int} (hc : ∀ {a b}, c a b = 0 ↔ a = b) (a b : Val) : (cmpV c a b == 0) = sameV a b := by
  have := (cmp_any (c := c) (d := sameS) hc sameS_zero _).1 a b (Nat.le_refl _)
  rw [Bool.eq_iff_iff]
  simp [sameV, this]
/- the walks -/
theorem ints_ok (H : Pr P) (a b : Int) : FnOk P 41 [.t (.int .i64 a), .t (.int .i64 b)] ⟨[], 0⟩ { v := .t (.int .i64 (cmpI a b)) } := by
  refine FnOk.run H.i41 H.mixed rfl rfl ?_
  refine fR rfl ?_
  by_cases h1 : a < b
  · refine Run.condT rfl rfl (by simp [h1]) ?_
    refine fR rfl ?_
    refine Run.fin rfl (EndOk.go ?_); exact .t (by simp [cmpI, h1])
  · refine Run.condF rfl rfl (by simp; omega) ?_
    refine fR rfl ?_
    by_cases h2 : b < a
    · refine Run.condT rfl rfl (by simp [h2]) ?_
      refine fR rfl ?_
      refine Run.fin rfl (EndOk.go ?_); exact .t (by simp [cmpI, h1, h2])
    · refine Run.condF rfl rfl (by simp; omega) ?_
      refine fR rfl ?_
      refine Run.fin rfl (EndOk.go ?_); exact .t (by simp [cmpI, h1, h2])
theorem strings_ok (H : Pr P) (a b : Str) : FnOk P 42 [.t (.str a), .t (.str b)] ⟨[], 0⟩ { v := .t (.int .i64 (cmpS a b)) } := by
  refine FnOk.run H.i42 H.mixed rfl rfl ?_
  refine fR rfl ?_
  by_cases h1 : Op.bytesLess a b = true
  · refine Run.condT rfl rfl h1 ?_
    refine fR rfl ?_
    refine Run.fin rfl (EndOk.go ?_); exact .t (by simp [cmpS, h1])
  · refine Run.condF rfl rfl (by simpa using h1) ?_
    refine fR rfl ?_
    by_cases h2 : a = b
    · refine Run.condF rfl rfl (by simp [h1, h2]) ?_
      refine fR rfl ?_
      refine Run.fin rfl (EndOk.go ?_); exact .t (by simp [cmpS, h2, less_irrefl])
    · refine Run.condT rfl rfl (by simp [h1, h2]) ?_
      refine fR rfl ?_
      refine Run.fin rfl (EndOk.go ?_); exact .t (by simp [cmpS, h1, h2])
theorem key_ok (H : Pr P) (v : Val) (hv : v.Ok) (i : Nat) (hi : i ≤ 140737488355328) : FnOk P 43 [v.v, .t (.int .i64 i)] ⟨[], 0⟩ { v := .t (.str (keyA v.keys i)) } := by
  have hkl := hv.kl
  refine FnOk.run H.i43 H.mixed rfl rfl ?_
  refine fR rfl ?_
  refine lM rfl rfl rfl ?_
  refine fM rfl ?_
  refine Run.cond rfl rfl (fun h => ?_) (fun h => ?_)
  · have h' : i < v.keys.length := by simpa using h
    have h1 : v.keys[i]? = some (v.keys[i]'h') := by simp
    have hk : keyA v.keys i = v.keys[i]'h' := by simp [keyA, h1]
    generalize v.keys[i]'h' = x at h1 hk
    refine fR rfl ?_
    refine Mid.elemMap rfl rfl rfl h1 rfl rfl ?_
    refine fM rfl ?_
    refine Run.fin rfl (EndOk.go ?_); exact .t (by simp [hk])
  · have h' : ¬ i < v.keys.length := by simpa using h
    have hk : keyA v.keys i = [] := by simp [keyA, List.getElem?_eq_none (Nat.le_of_not_lt h')]
    refine fR rfl ?_
    refine Run.fin rfl (EndOk.go ?_); exact .t (by simp [hk])
theorem pkey_ok (H : Pr P) (v : Val) (hv : v.Ok) (i : Nat) (hi : i ≤ 140737488355328) : FnOk P 46 [v.v, .t (.int .i64 i)] ⟨[], 0⟩ { v := .t (.str (keyA v.keys i)) } := by
  have hkl := hv.kl
  refine FnOk.run H.i46 H.mixed rfl rfl ?_
  refine fR rfl ?_
  refine lM rfl rfl rfl ?_
  refine fM rfl ?_
  refine Run.cond rfl rfl (fun h => ?_) (fun h => ?_)
  · have h' : i < v.keys.length := by simpa using h
    have h1 : v.keys[i]? = some (v.keys[i]'h') := by simp
    have hk : keyA v.keys i = v.keys[i]'h' := by simp [keyA, h1]
    generalize v.keys[i]'h' = x at h1 hk
    refine fR rfl ?_
    refine Mid.elemMap rfl rfl rfl h1 rfl rfl ?_
    refine fM rfl ?_
    refine Run.fin rfl (EndOk.go ?_); exact .t (by simp [hk])
  · have h' : ¬ i < v.keys.length := by simpa using h
    have hk : keyA v.keys i = [] := by simp [keyA, List.getElem?_eq_none (Nat.le_of_not_lt h')]
    refine fR rfl ?_
    refine Run.fin rfl (EndOk.go ?_); exact .t (by simp [hk])
theorem nan_ok (H : Pr P) (a : Int) : FnOk P 47 [.t (.int .i64 a)] ⟨[], 0⟩ { v := .t (.bool false) } := by
  refine FnOk.run H.i47 H.mixed rfl rfl ?_
  refine fR rfl ?_
  refine Run.fin rfl (EndOk.go ?_); exact .t (by simp)
theorem compare_ok (H : Pr P) (a b : Int) : FnOk P 44 [.t (.int .i64 a), .t (.int .i64 b)] ⟨[], 0⟩ { v := .t (.int .i64 (cmpI a b)) } := by
  refine FnOk.run H.i44 H.mixed rfl rfl ?_
  refine fR rfl ?_
  refine Mid.call (nan_ok H a) rfl rfl rfl rfl ?_
  refine fM rfl ?_
  refine Mid.call (nan_ok H b) rfl rfl rfl rfl ?_
  refine fM rfl ?_
  refine Run.condF rfl rfl rfl ?_
  refine fR rfl ?_
  refine Run.condF rfl rfl rfl ?_
  refine fR rfl ?_
  by_cases h1 : a < b
  · refine Run.condT rfl rfl (by simp [h1]) ?_
    refine fR rfl ?_
    refine Run.fin rfl (EndOk.go ?_); exact .t (by simp [cmpI, h1])
  · refine Run.condF rfl rfl (by simp; omega) ?_
    refine fR rfl ?_
    by_cases h2 : b < a
    · refine Run.condT rfl rfl (by simp [h2]) ?_
      refine fR rfl ?_
      refine Run.fin rfl (EndOk.go ?_); exact .t (by simp [cmpI, h1, h2])
    · refine Run.condF rfl rfl (by simp; omega) ?_
      refine fR rfl ?_
      refine Run.fin rfl (EndOk.go ?_); exact .t (by simp [cmpI, h1, h2])
theorem bcompare_ok (H : Pr P) (a b : Str) : FnOk P 48 [.t (.str a), .t (.str b)] ⟨[], 0⟩ { v := .t (.int .i64 (Go.Lib.compareBytes a b)) } := by
  refine FnOk.run H.i48 H.mixed rfl rfl ?_
  refine fR rfl ?_
  refine p0 rfl ?_
  refine fM rfl ?_
  refine Run.fin rfl (EndOk.go ?_); exact .t rfl
theorem scompare_ok (H : Pr P) (a b : Str) : FnOk P 45 [.t (.str a), .t (.str b)] ⟨[], 0⟩ { v := .t (.int .i64 (Go.Lib.compareBytes a b)) } := by
  refine FnOk.run H.i45 H.mixed rfl rfl ?_
  refine fR rfl ?_
  refine Mid.call (bcompare_ok H a b) rfl rfl rfl rfl ?_
  refine fM rfl ?_
  refine Run.fin rfl (EndOk.go ?_); exact .t rfl
end Go.GB.C35


/-
  L35C: chapter 35: comparing values.
-/
namespace Go.GB.C35
open Go.GB
set_option linter.unusedSimpArgs false
set_option linter.unusedVariables false
set_option maxRecDepth 100000
set_option maxHeartbeats 8000000
variable {P : Program}
theorem drop_at {α : Type} {l : List α} {i : Nat} {x : α} (h : l[i]? = some x) : l.drop i = x :: l.drop (i + 1) := by
  obtain ⟨h1, rfl⟩ := List.getElem?_eq_some_iff.1 h
  exact List.drop_eq_getElem_cons h1
theorem cmpVs_end {c : Str → Str → Int} {l m : List Val} {ka kb : List Str} {j : Nat} {z : Int} (h : l = [] ∨ m = []) : cmpVs c l m ka kb j z = z := by
  rcases h with rfl | rfl
  · simp [cmpVs]
  · cases l <;> simp [cmpVs]
theorem zip_end {l m : List Val} {i : Nat} (h : i = (l.zip m).length) : l.drop i = [] ∨ m.drop i = [] := by
  simp only [List.length_zip] at h
  by_cases h2 : l.length ≤ m.length
  · exact .inl (List.drop_eq_nil_of_le (by omega))
  · exact .inr (List.drop_eq_nil_of_le (by omega))
theorem cmpVs_at {c : Str → Str → Int} {l m : List Val} {ka kb : List Str} {i : Nat} {z : Int} {x y : Val} (h1 : l[i]? = some x) (h2 : m[i]? = some y) : cmpVs c (l.drop i) (m.drop i) ka kb i z = if c (keyA ka i) (keyA kb i) ≠ 0 then c (keyA ka i) (keyA kb i) else if cmpV c x y ≠ 0 then cmpV c x y else cmpVs c (l.drop (i + 1)) (m.drop (i + 1)) ka kb (i + 1) z := by
  rw [drop_at h1, drop_at h2]; simp only [cmpVs]
def RCmpC (P : Program) (a : Val) : Prop := ∀ b : Val, b.Ok → FnOk P 34 [a.v, b.v] ⟨[], 0⟩ { v := .t (.int .i64 (cmpV cmpS a b)) }
theorem rcmp_step (H : Pr P) (a : Val) (ha : a.Ok) (hrec : ∀ x, x ∈ a.items → RCmpC P x) : RCmpC P a := by
  intro b hb
  have hil := ha.il
  have hil2 := hb.il
  have hk := ints_ok H a.kind b.kind
  have hi := ints_ok H a.int b.int
  have ht := strings_ok H a.text b.text
  have hz := ints_ok H (a.items.length : Nat) (b.items.length : Nat)
  have hR := cmpV_eq cmpS a b
  generalize cmpV cmpS a b = R at hR ⊢
  refine FnOk.run H.i34 H.mixed rfl rfl ?_
  refine fR rfl ?_
  by_cases h1 : cmpI a.kind b.kind = 0
  · rw [h1] at hk hR
    rw [if_neg (by simp)] at hR
    refine Mid.call (hk) rfl rfl rfl rfl ?_
    refine fM rfl ?_
    refine Run.condT rfl rfl rfl ?_
    refine fR rfl ?_
    by_cases h2 : cmpI a.int b.int = 0
    · rw [h2] at hi hR
      rw [if_neg (by simp)] at hR
      refine Mid.call (hi) rfl rfl rfl rfl ?_
      refine fM rfl ?_
      refine Run.condT rfl rfl rfl ?_
      refine fR rfl ?_
      by_cases h3 : cmpS a.text b.text = 0
      · rw [h3] at ht hR
        rw [if_neg (by simp)] at hR
        generalize cmpI (a.items.length : Nat) (b.items.length : Nat) = z at hz hR
        refine Mid.call (ht) rfl rfl rfl rfl ?_
        refine fM rfl ?_
        refine rList (a.items.zip b.items) (fun i (_ : Unit) => { env := [(2, .ptr 0 0), (3, .ptr 1 0), (5, .t (.int .i64 0)), (6, .t (.int .i64 i))], s := ⟨[(0, .cells [.t (.int .i64 a.kind), .t (.int .i64 a.int), .t (.str a.text), .t (.lst (a.items.map Val.enc)), .t (.lst (a.keys.map sE))]), (1, .cells [.t (.int .i64 b.kind), .t (.int .i64 b.int), .t (.str b.text), .t (.lst (b.items.map Val.enc)), .t (.lst (b.keys.map sE))])], 2⟩ }) (fun r i _ => R = cmpVs cmpS (a.items.drop i) (b.items.drop i) a.keys b.keys i z) 2 () rfl hR rfl rfl rfl ?_ ?_
        · intro _ hinv
          rw [cmpVs_end (zip_end rfl)] at hinv
          subst hinv
          refine fR rfl ?_
          refine Run.condT rfl rfl (by simp) ?_
          refine fR rfl ?_
          refine lM rfl rfl rfl ?_
          refine fM rfl ?_
          refine lMG rfl rfl rfl rfl ?_
          refine fM rfl ?_
          refine Run.condT rfl rfl (by simp [List.length_zip]; omega) ?_
          refine fR rfl ?_
          refine lM rfl rfl rfl ?_
          refine fM rfl ?_
          refine lM rfl rfl rfl ?_
          refine Mid.call (hz) rfl rfl rfl rfl ?_
          refine fM rfl ?_
          refine Run.fin rfl (EndOk.go ?_); exact .t rfl
        · intro i p r _ g1 gi gd hinv ih
          obtain ⟨e1, e2⟩ := List.getElem?_zip_eq_some.1 g1
          obtain ⟨x, y⟩ := p
          simp only at e1 e2
          have b1 := (List.getElem?_eq_some_iff.1 e1).1
          have b2 := (List.getElem?_eq_some_iff.1 e2).1
          rw [cmpVs_at e1 e2] at hinv
          have hc := hrec x (List.mem_of_getElem? e1) y (hb.it y (List.mem_of_getElem? e2))
          have hs := strings_ok H (keyA a.keys i) (keyA b.keys i)
          refine fR rfl ?_
          refine Run.condT rfl rfl (by simp) ?_
          refine fR rfl ?_
          refine lM rfl rfl rfl ?_
          refine fM rfl ?_
          refine lMG rfl rfl rfl rfl ?_
          refine fM rfl ?_
          refine Run.condF rfl rfl (by simp; omega) ?_
          refine fR rfl ?_
          refine Mid.call (key_ok H a ha i (by omega)) rfl rfl rfl rfl ?_
          refine fM rfl ?_
          refine Mid.call (key_ok H b hb i (by omega)) rfl rfl rfl rfl ?_
          skip
          by_cases h4 : cmpS (keyA a.keys i) (keyA b.keys i) = 0
          · rw [h4] at hs hinv
            rw [if_neg (by simp)] at hinv
            refine Mid.call (hs) rfl rfl rfl rfl ?_
            refine fM rfl ?_
            refine Run.condT rfl rfl rfl ?_
            refine fR rfl ?_
            refine Mid.elemMapC (Val.enc_eq x) rfl rfl rfl e1 rfl rfl ?_
            refine fM rfl ?_
            refine Mid.elemMapC (Val.enc_eq y) rfl rfl rfl e2 rfl rfl ?_
            refine fM rfl ?_
            by_cases h5 : cmpV cmpS x y = 0
            · rw [h5] at hc hinv
              rw [if_neg (by simp)] at hinv
              refine Mid.call (hc) rfl rfl rfl rfl ?_
              refine fM rfl ?_
              refine aL rfl rfl rfl rfl rfl ?_
              refine fM rfl ?_
              exact rWeak 2 rfl (ih () hinv) rfl rfl rfl
            · rw [if_pos h5] at hinv
              refine Mid.call (hc) rfl rfl rfl rfl ?_
              refine fM rfl ?_
              refine aL rfl rfl rfl rfl rfl ?_
              refine fM rfl ?_
              skip
              refine Run.adv 200 rfl (Run.unroll ?_)
              refine fR rfl ?_
              refine Run.condF rfl rfl (by simpa using h5) ?_
              refine fR rfl ?_
              refine Run.fin rfl (EndOk.go ?_); exact .t (by rw [hinv])
          · rw [if_pos h4] at hinv
            refine Mid.call (hs) rfl rfl rfl rfl ?_
            refine fM rfl ?_
            refine Run.condF rfl rfl (by simpa using h4) ?_
            refine fR rfl ?_
            refine aL rfl rfl rfl rfl rfl ?_
            refine fM rfl ?_
            refine Run.adv 200 rfl (Run.unroll ?_)
            refine fR rfl ?_
            refine Run.condF rfl rfl (by simpa using h4) ?_
            refine fR rfl ?_
            refine Run.fin rfl (EndOk.go ?_); exact .t (by rw [hinv])
      · rw [if_pos h3] at hR
        refine Mid.call (ht) rfl rfl rfl rfl ?_
        refine fM rfl ?_
        skip
        refine Run.loop rfl ?_
        refine Run.unroll ?_
        refine fR rfl ?_
        refine Run.condF rfl rfl (by simpa using h3) ?_
        refine fR rfl ?_
        refine Run.fin rfl (EndOk.go ?_); exact .t (by rw [hR])
    · rw [if_pos h2] at hR
      refine Mid.call (hi) rfl rfl rfl rfl ?_
      refine fM rfl ?_
      refine Run.condF rfl rfl (by simpa using h2) ?_
      refine fR rfl ?_
      refine Run.loop rfl ?_
      refine Run.unroll ?_
      refine fR rfl ?_
      refine Run.condF rfl rfl (by simpa using h2) ?_
      refine fR rfl ?_
      refine Run.fin rfl (EndOk.go ?_); exact .t (by rw [hR])
  · rw [if_pos h1] at hR
    refine Mid.call (hk) rfl rfl rfl rfl ?_
    refine fM rfl ?_
    refine Run.condF rfl rfl (by simpa using h1) ?_
    refine fR rfl ?_
    refine Run.condF rfl rfl (by simpa using h1) ?_
    refine fR rfl ?_
    refine Run.loop rfl ?_
    refine Run.unroll ?_
    refine fR rfl ?_
    refine Run.condF rfl rfl (by simpa using h1) ?_
    refine fR rfl ?_
    refine Run.fin rfl (EndOk.go ?_); exact .t (by rw [hR])
theorem rcmp_ok' (H : Pr P) : ∀ (k : Nat) (v : Val), SizeOf.sizeOf v ≤ k → v.Ok → RCmpC P v
  | 0, v, h, _ => by cases v; simp at h
  | k + 1, v, h, hv => rcmp_step H v hv fun x hx => rcmp_ok' H k x (by have := Val.size_items v hx; omega) (hv.it x hx)
theorem rsame_ok (H : Pr P) (a b : Val) (ha : a.Ok) (hb : b.Ok) : FnOk P 20 [a.v, b.v] ⟨[], 0⟩ { v := .t (.bool (sameV a b)) } := by
  have h := rcmp_ok' H _ a (Nat.le_refl _) ha b hb
  have e := sameV_of (fun {a b} => cmpS_zero (a := a) (b := b)) a b
  refine FnOk.run H.i20 H.mixed rfl rfl ?_
  refine fR rfl ?_
  refine Mid.call (h) rfl rfl rfl rfl ?_
  refine fM rfl ?_
  refine Run.fin rfl (EndOk.go ?_); exact .t (by rw [← e])
def PCmpC (P : Program) (a : Val) : Prop := ∀ b : Val, b.Ok → FnOk P 38 [a.v, b.v] ⟨[], 0⟩ { v := .t (.int .i64 (cmpV Go.Lib.compareBytes a b)) }
theorem pcmp_step (H : Pr P) (a : Val) (ha : a.Ok) (hrec : ∀ x, x ∈ a.items → PCmpC P x) : PCmpC P a := by
  intro b hb
  have hil := ha.il
  have hil2 := hb.il
  have hk := compare_ok H a.kind b.kind
  have hi := compare_ok H a.int b.int
  have ht := scompare_ok H a.text b.text
  have hz := compare_ok H (a.items.length : Nat) (b.items.length : Nat)
  have hR := cmpV_eq Go.Lib.compareBytes a b
  generalize cmpV Go.Lib.compareBytes a b = R at hR ⊢
  refine FnOk.run H.i38 H.mixed rfl rfl ?_
  refine fR rfl ?_
  refine Run.loop rfl ?_
  refine Run.unroll ?_
  refine fR rfl ?_
  refine Run.condT rfl rfl (by simp) ?_
  refine fR rfl ?_
  by_cases h1 : a.kind = b.kind
  · rw [if_neg (by simpa using cmpI_zero.2 h1)] at hR
    refine Run.condF rfl rfl (by simpa using h1) ?_
    refine fR rfl ?_
    by_cases h2 : a.int = b.int
    · rw [if_neg (by simpa using cmpI_zero.2 h2)] at hR
      refine Run.condF rfl rfl (by simpa using h2) ?_
      refine fR rfl ?_
      by_cases h3 : a.text = b.text
      · rw [if_neg (by simpa using cmpB_zero.2 h3)] at hR
        refine Run.condF rfl rfl (by simpa using h3) ?_
        generalize cmpI (a.items.length : Nat) (b.items.length : Nat) = z at hz hR
        refine fR rfl ?_
        refine lM rfl rfl rfl ?_
        refine fM rfl ?_
        refine lM rfl rfl rfl ?_
        refine fM rfl ?_
        have hm : (if (b.items.length : Int) < (a.items.length : Int) then (b.items.length : Int) else (a.items.length : Int)) = ((a.items.zip b.items).length : Nat) := by
          rw [List.length_zip]
          split <;> omega
        rw [hm]
        refine rList (a.items.zip b.items) (fun i (_ : Unit) => { env := [(2, .ptr 0 0), (3, .ptr 1 0), (7, .t (.int .i64 0)), (48, .t (.int .i64 (a.items.zip b.items).length)), (49, .t (.int .i64 i))], s := ⟨[(0, .cells [.t (.int .i64 a.kind), .t (.int .i64 a.int), .t (.str a.text), .t (.lst (a.items.map Val.enc)), .t (.lst (a.keys.map sE))]), (1, .cells [.t (.int .i64 b.kind), .t (.int .i64 b.int), .t (.str b.text), .t (.lst (b.items.map Val.enc)), .t (.lst (b.keys.map sE))])], 2⟩ }) (fun r i _ => R = cmpVs Go.Lib.compareBytes (a.items.drop i) (b.items.drop i) a.keys b.keys i z) 2 () rfl hR rfl rfl rfl ?_ ?_
        · intro _ hinv
          rw [cmpVs_end (zip_end rfl)] at hinv
          subst hinv
          refine fR rfl ?_
          refine Run.condF rfl rfl (by simp) ?_
          refine fR rfl ?_
          refine lM rfl rfl rfl ?_
          refine fM rfl ?_
          refine lM rfl rfl rfl ?_
          refine Mid.call (hz) rfl rfl rfl rfl ?_
          refine fM rfl ?_
          refine a64 rfl rfl rfl ?_
          refine fM rfl ?_
          refine Run.adv 200 rfl (Run.unroll ?_)
          refine fR rfl ?_
          refine Run.condF rfl rfl (by simp) ?_
          refine fR rfl ?_
          refine Run.fin rfl (EndOk.go ?_); exact .t rfl
        · intro i p r _ g1 gi gd hinv ih
          obtain ⟨e1, e2⟩ := List.getElem?_zip_eq_some.1 g1
          obtain ⟨x, y⟩ := p
          simp only at e1 e2
          have b1 := (List.getElem?_eq_some_iff.1 e1).1
          have b2 := (List.getElem?_eq_some_iff.1 e2).1
          rw [cmpVs_at e1 e2] at hinv
          have hc := hrec x (List.mem_of_getElem? e1) y (hb.it y (List.mem_of_getElem? e2))
          have hs := scompare_ok H (keyA a.keys i) (keyA b.keys i)
          refine fR rfl ?_
          refine Run.condT rfl rfl (by simp [List.length_zip]; omega) ?_
          refine fR rfl ?_
          refine Mid.call (pkey_ok H a ha i (by omega)) rfl rfl rfl rfl ?_
          refine fM rfl ?_
          refine Mid.call (pkey_ok H b hb i (by omega)) rfl rfl rfl rfl ?_
          skip
          by_cases h4 : Go.Lib.compareBytes (keyA a.keys i) (keyA b.keys i) = 0
          · rw [h4] at hs hinv
            rw [if_neg (by simp)] at hinv
            refine Mid.call (hs) rfl rfl rfl rfl ?_
            refine fM rfl ?_
            refine Run.condF rfl rfl rfl ?_
            refine fR rfl ?_
            refine Mid.elemMapC (Val.enc_eq x) rfl rfl rfl e1 rfl rfl ?_
            refine fM rfl ?_
            refine Mid.elemMapC (Val.enc_eq y) rfl rfl rfl e2 rfl rfl ?_
            refine fM rfl ?_
            by_cases h5 : cmpV Go.Lib.compareBytes x y = 0
            · rw [h5] at hc hinv
              rw [if_neg (by simp)] at hinv
              refine Mid.call (hc) rfl rfl rfl rfl ?_
              refine fM rfl ?_
              refine Run.condF rfl rfl rfl ?_
              refine fR rfl ?_
              refine aL rfl rfl rfl rfl rfl ?_
              refine fM rfl ?_
              exact rWeak 2 rfl (ih () hinv) rfl rfl rfl
            · rw [if_pos h5] at hinv
              refine Mid.call (hc) rfl rfl rfl rfl ?_
              refine fM rfl ?_
              refine Run.condT rfl rfl (by simpa using h5) ?_
              refine fR rfl ?_
              refine Run.fin rfl (EndOk.go ?_); exact .t (by rw [hinv])
          · rw [if_pos h4] at hinv
            refine Mid.call (hs) rfl rfl rfl rfl ?_
            refine fM rfl ?_
            refine Run.condT rfl rfl (by simpa using h4) ?_
            refine fR rfl ?_
            refine Run.fin rfl (EndOk.go ?_); exact .t (by rw [hinv])
      · rw [if_pos (by simpa using fun e => h3 (cmpB_zero.1 e))] at hR
        refine Run.condT rfl rfl (by simpa using h3) ?_
        refine fR rfl ?_
        refine Mid.call (ht) rfl rfl rfl rfl ?_
        refine fM rfl ?_
        refine Run.fin rfl (EndOk.go ?_); exact .t (by rw [hR])
    · rw [if_pos (by simpa using fun e => h2 (cmpI_zero.1 e))] at hR
      refine Run.condT rfl rfl (by simpa using h2) ?_
      refine fR rfl ?_
      refine Mid.call (hi) rfl rfl rfl rfl ?_
      refine fM rfl ?_
      refine Run.fin rfl (EndOk.go ?_); exact .t (by rw [hR])
  · rw [if_pos (by simpa using fun e => h1 (cmpI_zero.1 e))] at hR
    refine Run.condT rfl rfl (by simpa using h1) ?_
    refine fR rfl ?_
    refine Mid.call (hk) rfl rfl rfl rfl ?_
    refine fM rfl ?_
    refine Run.fin rfl (EndOk.go ?_); exact .t (by rw [hR])
theorem pcmp_ok' (H : Pr P) : ∀ (k : Nat) (v : Val), SizeOf.sizeOf v ≤ k → v.Ok → PCmpC P v
  | 0, v, h, _ => by cases v; simp at h
  | k + 1, v, h, hv => pcmp_step H v hv fun x hx => pcmp_ok' H k x (by have := Val.size_items v hx; omega) (hv.it x hx)
theorem psame_ok (H : Pr P) (a b : Val) (ha : a.Ok) (hb : b.Ok) : FnOk P 32 [a.v, b.v] ⟨[], 0⟩ { v := .t (.bool (sameV a b)) } := by
  have h := pcmp_ok' H _ a (Nat.le_refl _) ha b hb
  have e := sameV_of (fun {a b} => cmpB_zero (a := a) (b := b)) a b
  refine FnOk.run H.i32 H.mixed rfl rfl ?_
  refine fR rfl ?_
  refine Mid.call (h) rfl rfl rfl rfl ?_
  refine fM rfl ?_
  refine Run.fin rfl (EndOk.go ?_); exact .t (by rw [← e])
end Go.GB.C35


/-
  L35D: chapter 35: lists of values; the law's small functions.
-/
namespace Go.GB.C35
open Go.GB
set_option linter.unusedSimpArgs false
set_option linter.unusedVariables false
set_option maxRecDepth 100000
set_option maxHeartbeats 4000000
variable {P : Program}
def sameL : List Val → List Val → Bool
  | [], [] => true
  | x :: r, y :: s => sameV x y && sameL r s
  | _, _ => false
theorem sameL_len : ∀ {l m : List Val}, l.length ≠ m.length → sameL l m = false
  | [], [], h => by simp at h
  | [], y :: s, h => rfl
  | x :: r, [], h => rfl
  | x :: r, y :: s, h => by
    simp only [sameL]
    rw [sameL_len (l := r) (m := s) (by simpa using h), Bool.and_false]
theorem same_ok (H : Pr P) (l m : List Val) (hl : l.length ≤ 140737488355328) (hm : m.length ≤ 140737488355328) (ho : ∀ x, x ∈ l → x.Ok) (hp : ∀ x, x ∈ m → x.Ok) : FnOk P 24 [.t (.lst (l.map Val.enc)), .t (.lst (m.map Val.enc))] ⟨[], 0⟩ { v := .t (.bool (sameL l m)) } := by
  refine FnOk.run H.i24 H.mixed rfl rfl ?_
  refine fR rfl ?_
  refine lM rfl rfl rfl ?_
  refine fM rfl ?_
  refine lM rfl rfl rfl ?_
  refine fM rfl ?_
  by_cases h : l.length = m.length
  · refine Run.condF rfl rfl (by simp [h]) ?_
    refine fR rfl ?_
    refine rList l (fun i (_ : Unit) => { env := [(0, .t (.lst (l.map Val.enc))), (1, .t (.lst (m.map Val.enc))), (5, .t (.int .i64 i))], s := ⟨[], 0⟩ }) (fun r i _ => sameL l m = sameL r (m.drop i)) 0 () rfl (by simp) rfl rfl rfl ?_ ?_
    · intro _ hinv
      rw [h, List.drop_length] at hinv
      rw [hinv]
      refine fR rfl ?_
      refine lM rfl rfl rfl ?_
      refine fM rfl ?_
      refine Run.condF rfl rfl (by simp) ?_
      refine fR rfl ?_
      refine Run.fin rfl (EndOk.go ?_); exact .t rfl
    · intro i x r _ h1 hi hd hinv ih
      have hi2 : i < m.length := by omega
      obtain ⟨y, h2⟩ : ∃ y, m[i]? = some y := ⟨m[i], by simp [hi2]⟩
      rw [drop_at h2] at hinv
      simp only [sameL] at hinv
      have hc := rsame_ok H x y (ho x (List.mem_of_getElem? h1)) (hp y (List.mem_of_getElem? h2))
      refine fR rfl ?_
      refine lM rfl rfl rfl ?_
      refine fM rfl ?_
      refine Run.condT rfl rfl (by simp; omega) ?_
      refine fR rfl ?_
      refine Mid.elemMapC (Val.enc_eq x) rfl rfl rfl h1 rfl rfl ?_
      refine fM rfl ?_
      refine Mid.elemMapC (Val.enc_eq y) rfl rfl rfl h2 rfl rfl ?_
      refine fM rfl ?_
      cases hs : sameV x y with
      | true =>
        rw [hs] at hc
        rw [hs, Bool.true_and] at hinv
        refine Mid.call (hc) rfl rfl rfl rfl ?_
        refine fM rfl ?_
        refine Run.condF rfl rfl rfl ?_
        refine fR rfl ?_
        refine aL rfl rfl rfl rfl rfl ?_
        refine fM rfl ?_
        exact rWeak 0 rfl (ih () hinv) rfl rfl rfl
      | false =>
        rw [hs] at hc
        rw [hs, Bool.false_and] at hinv
        refine Mid.call (hc) rfl rfl rfl rfl ?_
        refine fM rfl ?_
        refine Run.condT rfl rfl rfl ?_
        refine fR rfl ?_
        refine Run.fin rfl (EndOk.go ?_); exact .t (by rw [hinv])
  · rw [sameL_len h]
    refine Run.condT rfl rfl (by simpa using fun e => h (by omega)) ?_
    refine fR rfl ?_
    refine Run.fin rfl (EndOk.go ?_); exact .t rfl
def mkI (n : Int) : Val := .mk 2 n [] [] []
def mkT (s : Str) : Val := .mk 3 0 s [] []
def mkL (l : List Val) : Val := .mk 5 0 [] l []
theorem mkI_ok (H : Pr P) (n : Int) : FnOk P 25 [.t (.int .i64 n)] ⟨[], 0⟩ { v := (mkI n).v } := by
  refine FnOk.run H.i25 H.mixed rfl rfl ?_
  refine fR rfl ?_
  refine Run.fin rfl (EndOk.go ?_); exact .agg (.cons (.t rfl) (.cons (.t rfl) (.cons (.t rfl) (.cons (.nil rfl) (.cons (.nil rfl) .nil)))))
theorem mkT_ok (H : Pr P) (s : Str) : FnOk P 26 [.t (.str s)] ⟨[], 0⟩ { v := (mkT s).v } := by
  refine FnOk.run H.i26 H.mixed rfl rfl ?_
  refine fR rfl ?_
  refine Run.fin rfl (EndOk.go ?_); exact .agg (.cons (.t rfl) (.cons (.t rfl) (.cons (.t rfl) (.cons (.nil rfl) (.cons (.nil rfl) .nil)))))
theorem mkL_ok (H : Pr P) (l : List Val) (hl : l.length * 80 ≤ 140737488355328) (ho : ∀ x, x ∈ l → x.Ok) : FnOk P 23 [.t (.lst (l.map Val.enc))] ⟨[], 0⟩ { v := (mkL l).v } := by
  refine FnOk.run H.i23 H.mixed rfl rfl ?_
  refine fR rfl ?_
  refine Mid.call (rcopies_step H l hl (fun x hx => rcopy_ok H x (ho x hx))) rfl rfl rfl rfl ?_
  refine fM rfl ?_
  refine Run.fin rfl (EndOk.go ?_); exact .agg (.cons (.t rfl) (.cons (.t rfl) (.cons (.t rfl) (.cons (.t rfl) (.cons (.nil rfl) .nil)))))
end Go.GB.C35


/-
  GbZJ: the driver's rules for maps whose values are pointers.
-/
namespace Go.GB
set_option linter.unusedVariables false
set_option linter.unusedSectionVars false
section
variable {P : Program} {n m : Nat} {R : St → Prop}
variable {draw : Bool} {all : List AO} {after : List (List Nat)} {live : List Nat} {k : List It} {b : Nat} {fl : List (Bool × Bool)} {ops : List AO} {st st' : St} {d : Option Nat} {b' : Nat}
variable {ks : List KSh} {kag : Bool} {es es' : List (List T × V)} {sx : Option (Nat × List Nat)} {zv vk : V} {q : Nat} {x y zz : Ar} {p1 p2 : List Bool} {cs : List T}

/-- what a map has at a key -/
theorem Mid.lookV (w : V) (hx : rd true st x = (.mp q, [])) (hq : aget st.s.sto q = some (.map kag es sx)) (hk : rd true st y = (vk, [])) (hc : keyC ks kag vk = some cs) (ho : keysOk ks es = true) (hw : (mget cs es).getD zv = w)
    (hs : stepV st d w some = some st')
    (h' : Mid P n m R draw all after live k b ((true, false) :: fl) ops st') : Mid P n m R draw all after live k b fl (⟨d, none, .nw (.lookup ks kag zv false x y)⟩ :: ops) st := by
  subst hw
  refine Mid.valL (v := (mget cs es).getD zv) (ps := [true, true]) ?_ (looksV_mp hx) ⟨rfl, rfl, trivial⟩ hs h'
  simp only [evalE, evalN, hx, hk, hc, hq, ho]
  cases mget cs es <;> simp [okV]
theorem Mid.lookVG {sl : Nat} {want gc : Bool} (w : V) (hg : gcondF want (look st.env sl) = some gc) (hx : rd gc st x = (.mp q, p1)) (hq : aget st.s.sto q = some (.map kag es sx)) (hk : rd gc st y = (vk, p2)) (hc : keyC ks kag vk = some cs) (ho : keysOk ks es = true) (hw : (mget cs es).getD zv = w)
    (hp1 : pall (p1.map fun p => !gc || p)) (hp2 : pall (p2.map fun p => !gc || p)) (hs : stepV st d (.gd gc w) some = some st')
    (h' : Mid P n m R draw all after live k b ((true, false) :: fl) ops st') : Mid P n m R draw all after live k b fl (⟨d, some (sl, want), .nw (.lookup ks kag zv false x y)⟩ :: ops) st := by
  subst hw
  refine Mid.valLG (v := (mget cs es).getD zv) (ps := p1 ++ (p2 ++ [true, true])) hg ?_ (looksV_mp hx) (by simp only [List.map_append, pall_app]; exact ⟨hp1, hp2, by simp [pall]⟩) hs h'
  simp only [evalE, evalN, hx, hk, hc, hq, ho]
  cases mget cs es <;> simp [okV]
/-- a map is written -/
theorem Mid.mapV (hx : x.u st = .mp q) (hq : aget st.s.sto q = some (.map kag es sx)) (hc : keyC ks kag (y.u st) = some cs) (ho : keysOk ks es = true) (hes : mset cs (zz.u st) es = es')
    (hst : stepS0 b st d { v := .top, ob := [(q, .map kag es' none)], rd := true } (fun b' st' => some (b', st')) = some (b', st'))
    (h' : Mid P n m R draw all after live k b' ((true, true) :: fl) ops st') : Mid P n m R draw all after live k b fl (⟨d, none, .nw (.mupd ks kag x y zz)⟩ :: ops) st := by
  subst hes
  refine Mid.opX rfl ?_
  simp only [stepS0_eq, Option.some.injEq, Prod.mk.injEq] at hst
  obtain ⟨rfl, rfl⟩ := hst
  simp only [evX, evXN, hx, hc, hq]
  exact ⟨⟨trivial, ho⟩, h'⟩
/-- a map is emptied -/
theorem Mid.clrV (hx : x.u st = .mp q) (hq : aget st.s.sto q = some (.map kag es sx))
    (hst : stepS0 b st d { v := .top, ob := [(q, .map kag [] none)], rd := true } (fun b' st' => some (b', st')) = some (b', st'))
    (h' : Mid P n m R draw all after live k b' ((true, true) :: fl) ops st') : Mid P n m R draw all after live k b fl (⟨d, none, .nw (.mclr x)⟩ :: ops) st := by
  refine Mid.opX rfl ?_
  simp only [stepS0_eq, Option.some.injEq, Prod.mk.injEq] at hst
  obtain ⟨rfl, rfl⟩ := hst
  simp only [evX, evXN, hx, hq]
  exact h'
/-- how many entries a map has -/
theorem Mid.lenmV (l0 : Nat) (hx : x.u st = .mp q) (hq : aget st.s.sto q = some (.map kag es sx)) (hl : es.length = l0) (hs : stepV st d (.t (.int .i64 l0)) some = some st')
    (h' : Mid P n m R draw all after live k b ((true, false) :: fl) ops st') : Mid P n m R draw all after live k b fl (⟨d, none, .lenm x⟩ :: ops) st := by
  subst hl
  simp only [stepV, V.force_eq, setEnv_eq, St.forceS_eq, Option.some.injEq] at hs
  have e : st' = st.app d { v := .t (.int .i64 es.length), rd := true } := by rw [← hs]; cases d <;> rfl
  rw [e] at h'
  refine Mid.opX rfl ?_
  simp only [evX, hx, hq]
  exact h'
/-- a new map -/
theorem Mid.mkmapV {vag : Bool} (hst : stepS0 b st d { v := .mp b, ob := [(b, .map kag [] (some (0, [])))], n := 1 } (fun b' st' => some (b', st')) = some (b', st'))
    (h' : Mid P n m R draw all after live k b' ((false, true) :: fl) ops st') : Mid P n m R draw all after live k b fl (⟨d, none, .mkmap kag vag⟩ :: ops) st :=
  Mid.mkmapT (κ := Nat) (ν := Nat) (fun _ => []) (fun _ => .nilp) hst h'
/- ---------- families of objects ---------- -/
/-- a new object of a family -/
theorem Mid.boxF {nn : Nat} {os : List (List V)} {vs : List V} (q : Nat) (hq : aget st.s.sto q = some (.fobs os)) (hv : (x.u st).parts = some vs) (hn : Nat.beq vs.length nn = true) (hc : vs.all V.cellOk = true)
    (hst : stepS0 b st d { v := .fpt q os.length 0, ob := [(q, .fobs (os ++ [vs]))], rd := true } (fun b' st' => some (b', st')) = some (b', st'))
    (h' : Mid P n m R draw all after live k b' ((true, true) :: fl) ops st') : Mid P n m R draw all after live k b fl (⟨d, none, .box nn x⟩ :: ops) st := by
  simp only [stepS0_eq, Option.some.injEq, Prod.mk.injEq] at hst
  obtain ⟨rfl, rfl⟩ := hst
  exact Mid.opY rfl (.boxF hq hv (Nat.eq_of_beq_eq_true hn) hc) h'
/-- an object of a family changes -/
theorem Mid.stF {nn i o : Nat} {os : List (List V)} {cs vs : List V} (hx : x.u st = .fpt q i o) (hq : aget st.s.sto q = some (.fobs os)) (hi : os[i]? = some cs) (hv : (y.u st).parts = some vs) (hn : Nat.beq vs.length nn = true) (ho : o + nn ≤ cs.length) (hc : vs.all V.cellOk = true)
    (hst : stepS0 b st d { v := .top, ob := [(q, .fobs (os.set i (setAt cs o vs)))], rd := true } (fun b' st' => some (b', st')) = some (b', st'))
    (h' : Mid P n m R draw all after live k b' ((true, true) :: fl) ops st') : Mid P n m R draw all after live k b fl (⟨d, none, .st nn x y⟩ :: ops) st := by
  simp only [stepS0_eq, Option.some.injEq, Prod.mk.injEq] at hst
  obtain ⟨rfl, rfl⟩ := hst
  exact Mid.opY rfl (.stF hx hq hi hv (Nat.eq_of_beq_eq_true hn) ho hc) h'
theorem looksV_fpt {gc : Bool} {x : Ar} {q i o : Nat} {p : List Bool} (hx : rd gc st x = (.fpt q i o, p)) : looksV (x.v st) = true := by
  unfold rd at hx
  generalize x.v st = u at hx ⊢
  cases u <;> simp only [V.un, Prod.mk.injEq] at hx <;> simp_all [looksV]
/-- loads from an object of a family -/
theorem Mid.ldF {nn i o : Nat} {os : List (List V)} {cs : List V} (w : V) (hx : rd true st x = (.fpt q i o, [])) (hq : aget st.s.sto q = some (.fobs os)) (hi : os[i]? = some cs) (hw : cs[o]? = some w) (hs : stepV st d w some = some st')
    (h' : Mid P n m R draw all after live k b ((true, false) :: fl) ops st') : Mid P n m R draw all after live k b fl (⟨d, none, .ld false nn x⟩ :: ops) st :=
  Mid.valL (v := w) (ps := []) (by simp only [evalE, hx, hq, hi, hw]; rfl) (looksV_fpt hx) trivial hs h'
theorem Mid.ldFA {nn i o : Nat} {os : List (List V)} {cs ds : List V} (hx : rd true st x = (.fpt q i o, [])) (hq : aget st.s.sto q = some (.fobs os)) (hi : os[i]? = some cs) (ho : o + nn ≤ cs.length) (hw : (cs.drop o).take nn = ds) (hs : stepV st d (.agg ds) some = some st')
    (h' : Mid P n m R draw all after live k b ((true, false) :: fl) ops st') : Mid P n m R draw all after live k b fl (⟨d, none, .ld true nn x⟩ :: ops) st :=
  Mid.valL (v := .agg ds) (ps := []) (by subst hw; simp only [evalE, hx, hq, hi, if_true]; rw [if_pos ho]) (looksV_fpt hx) trivial hs h'
end
end Go.GB


/-
  L35E: chapter 35: a new loader.
-/
namespace Go.GB.C35
open Go.GB
set_option linter.unusedSimpArgs false
set_option linter.unusedVariables false
set_option maxRecDepth 100000
set_option maxHeartbeats 4000000
variable {P : Program}
theorem new_ok (H : Pr P) (n : Int) (h1 : 1 ≤ n) (h2 : n ≤ 1024) : FnOk P 7 [.t (.int .i64 n)] ⟨[], 0⟩ { v := .tup [.ptr 1 0, .t (.int .i64 0)], ob := [(0, .map false [] (some (0, []))), (1, .cells [.t (.int .i64 n), .mp 0, .t (.int .i64 0), .t (.int .i64 0)])], n := 2 } := by
  refine FnOk.run H.i7 H.mixed rfl rfl ?_
  refine fR rfl ?_
  refine Run.condF rfl rfl (by simp; omega) ?_
  refine fR rfl ?_
  refine Mid.mkmapV rfl ?_
  refine fM rfl ?_
  refine Run.fin rfl (EndOk.chg rfl rfl ?_ ?_)
  · exact .le (.same rfl)
  · exact (by repeat' (first | exact trivial | exact LeX.t | exact LeX.top | exact LeX.nilOwn (Nat.le_of_ble_eq_true rfl) (Nat.le_of_ble_eq_true rfl) | exact LeX.ownT | exact LeX.nilT | exact LeX.same rfl | exact LeX.tEq (by simp) | exact LeX.ownEq (by simp) (Nat.le_of_ble_eq_true rfl) | exact LeX.tEq (by congr 1 <;> omega) | exact Or.inr ⟨Nat.le_of_ble_eq_true rfl, Nat.le_of_ble_eq_true rfl, rfl⟩ | refine Or.inl ⟨Nat.le_of_ble_eq_true rfl, _, rfl, ?_⟩ | refine LeO.cells ?_ | exact LeO.arr rfl | exact LeO.arr (by simp) | exact LeO.mE (by first | rfl | simp) (by first | exact Or.inl rfl | exact Or.inr rfl) | exact LeO.cE (by first | rfl | simp) | exact LeXs.cE (by first | rfl | simp) | refine LeO.map (by first | rfl | simp) ?_ (by first | exact Or.inl rfl | exact Or.inr rfl) | exact LeO.iter (by first | rfl | simp) (Nat.le_of_ble_eq_true rfl) | refine LeXs.cons ?_ ?_ | exact LeXs.nil | refine And.intro ?_ ?_))
end Go.GB.C35


/-
  L35F: chapter 35: the methods of a loader that is none.
-/
namespace Go.GB.C35
open Go.GB
set_option linter.unusedSimpArgs false
set_option linter.unusedVariables false
set_option maxRecDepth 100000
set_option maxHeartbeats 4000000
variable {P : Program}
theorem none_nil (H : Pr P) : FnOk P 31 [.t .nilp] ⟨[], 0⟩ { v := .t (.bool true) } := by
  refine FnOk.run H.i31 H.mixed rfl rfl ?_
  refine fR rfl ?_
  refine Mid.grdF rfl rfl rfl rfl rfl ?_
  refine Mid.grdF rfl rfl rfl rfl rfl ?_
  refine Mid.grdF rfl rfl rfl rfl rfl ?_
  refine Mid.grdF rfl rfl rfl rfl rfl ?_
  refine fM rfl ?_
  refine Run.fin rfl (EndOk.go ?_); exact .t rfl
theorem none_zero (H : Pr P) : FnOk P 31 [.ptr 0 0] ⟨[(0, .cells [.t (.int .i64 0), .t .nilm, .t (.int .i64 0), .t (.int .i64 0)])], 1⟩ { v := .t (.bool true), rd := true } := by
  refine FnOk.run H.i31 H.mixed rfl rfl ?_
  refine fR rfl ?_
  refine Run.fin rfl (EndOk.sameX rfl rfl rfl (by first | exact rfl | exact nSto_bd | exact tSto_bd) (.t (rfl)))
theorem add_nil (H : Pr P) (f : Int) (v : Val) : FnOk P 16 [.t .nilp, .t (.int .i64 f), v.v] ⟨[], 0⟩ { v := .tup [.t (.int .i64 0), .t (.int .i64 1)] } := by
  refine FnOk.run H.i16 H.mixed rfl rfl ?_
  refine fR rfl ?_
  refine Mid.call (none_nil H) rfl rfl rfl rfl ?_
  refine fM rfl ?_
  refine Run.condT rfl rfl rfl ?_
  refine fR rfl ?_
  refine Run.fin rfl (EndOk.go ?_); exact .tup2 (.t rfl) (.t rfl)
theorem add_zero (H : Pr P) (f : Int) (v : Val) : FnOk P 16 [.ptr 0 0, .t (.int .i64 f), v.v] ⟨[(0, .cells [.t (.int .i64 0), .t .nilm, .t (.int .i64 0), .t (.int .i64 0)])], 1⟩ { v := .tup [.t (.int .i64 0), .t (.int .i64 1)], rd := true } := by
  refine FnOk.run H.i16 H.mixed rfl rfl ?_
  refine fR rfl ?_
  refine Mid.callRd [0] (none_zero H) rfl rfl rfl rfl rfl (by repeat' (first | exact trivial | exact rfl | refine And.intro ?_ ?_ | exact (congrArg some (AObj.ren_mE _ _ _ _ _ _)).symm | exact (congrArg some (AObj.ren_cE _ _ _)).symm | (refine (congrArg some (AObj.ren_gE ?_ _ _)).symm; intro _; rfl))) rfl ?_
  refine fM rfl ?_
  refine Run.condT rfl rfl rfl ?_
  refine fR rfl ?_
  refine Run.fin rfl (EndOk.sameX rfl rfl rfl rfl ?_)
  exact .tup (.cons (.t rfl) (.cons (.t rfl) .nil))
theorem next_nil (H : Pr P) (f : Int) : FnOk P 17 [.t .nilp, .t (.int .i64 f)] ⟨[], 0⟩ { v := .tup [.t (.lst []), .t (.bool false)] } := by
  refine FnOk.run H.i17 H.mixed rfl rfl ?_
  refine fR rfl ?_
  refine Mid.call (none_nil H) rfl rfl rfl rfl ?_
  refine fM rfl ?_
  refine Mid.grdF rfl rfl rfl rfl rfl ?_
  refine Mid.grdF rfl rfl rfl rfl rfl ?_
  refine Mid.grdF rfl rfl rfl rfl rfl ?_
  refine fM rfl ?_
  refine Mid.grdF rfl rfl rfl rfl rfl ?_
  refine Mid.grdF rfl rfl rfl rfl rfl ?_
  refine fM rfl ?_
  refine Run.condT rfl rfl rfl ?_
  refine fR rfl ?_
  refine Run.fin rfl (EndOk.go ?_); exact .tup2 (.nil rfl) (.t rfl)
theorem done_nil (H : Pr P) (f : Int) (xs : List (List T)) : FnOk P 18 [.t .nilp, .t (.int .i64 f), .t (.lst xs)] ⟨[], 0⟩ { v := .t (.int .i64 1) } := by
  refine FnOk.run H.i18 H.mixed rfl rfl ?_
  refine fR rfl ?_
  refine Mid.call (none_nil H) rfl rfl rfl rfl ?_
  refine fM rfl ?_
  refine Run.condT rfl rfl rfl ?_
  refine fR rfl ?_
  refine Run.fin rfl (EndOk.go ?_); exact .t rfl
theorem take_nil (H : Pr P) (f n : Int) : FnOk P 19 [.t .nilp, .t (.int .i64 f), .t (.int .i64 n)] ⟨[], 0⟩ { v := .tup [Val.zero.v, .t (.bool false)] } := by
  refine FnOk.run H.i19 H.mixed rfl rfl ?_
  refine fR rfl ?_
  refine Mid.call (none_nil H) rfl rfl rfl rfl ?_
  refine fM rfl ?_
  refine Mid.grdF rfl rfl rfl rfl rfl ?_
  refine Mid.grdF rfl rfl rfl rfl rfl ?_
  refine Mid.grdF rfl rfl rfl rfl rfl ?_
  refine fM rfl ?_
  refine Mid.grdF rfl rfl rfl rfl rfl ?_
  refine Mid.grdF rfl rfl rfl rfl rfl ?_
  refine fM rfl ?_
  refine Mid.grdF rfl rfl rfl rfl rfl ?_
  refine Mid.grdF rfl rfl rfl rfl rfl ?_
  refine Mid.grdF rfl rfl rfl rfl rfl ?_
  refine fM rfl ?_
  refine Mid.grdF rfl rfl rfl rfl rfl ?_
  refine Mid.grdF rfl rfl rfl rfl rfl ?_
  refine Mid.grdF rfl rfl rfl rfl rfl ?_
  refine Mid.grdF rfl rfl rfl rfl rfl ?_
  refine Mid.grdF rfl rfl rfl rfl rfl ?_
  refine Mid.grdF rfl rfl rfl rfl rfl ?_
  refine fM rfl ?_
  refine Run.condT rfl rfl rfl ?_
  refine fR rfl ?_
  refine Run.fin rfl (EndOk.go ?_); exact .tup2 zeroR (.t rfl)
theorem take_zero (H : Pr P) (f n : Int) : FnOk P 19 [.ptr 0 0, .t (.int .i64 f), .t (.int .i64 n)] ⟨[(0, .cells [.t (.int .i64 0), .t .nilm, .t (.int .i64 0), .t (.int .i64 0)])], 1⟩ { v := .tup [Val.zero.v, .t (.bool false)], rd := true } := by
  refine FnOk.run H.i19 H.mixed rfl rfl ?_
  refine fR rfl ?_
  refine Mid.callRd [0] (none_zero H) rfl rfl rfl rfl rfl (by repeat' (first | exact trivial | exact rfl | refine And.intro ?_ ?_ | exact (congrArg some (AObj.ren_mE _ _ _ _ _ _)).symm | exact (congrArg some (AObj.ren_cE _ _ _)).symm | (refine (congrArg some (AObj.ren_gE ?_ _ _)).symm; intro _; rfl))) rfl ?_
  refine fM rfl ?_
  refine gr rfl ?_
  refine fM rfl ?_
  refine gr rfl ?_
  refine Mid.grdF rfl rfl rfl rfl rfl ?_
  refine Mid.grdF rfl rfl rfl rfl rfl ?_
  refine Mid.grdF rfl rfl rfl rfl rfl ?_
  refine Mid.grdF rfl rfl rfl rfl rfl ?_
  refine Mid.grdF rfl rfl rfl rfl rfl ?_
  refine fM rfl ?_
  refine Run.condT rfl rfl rfl ?_
  refine fR rfl ?_
  refine Run.fin rfl (EndOk.sameX rfl rfl rfl rfl ?_)
  exact .tup (.cons (.agg (.cons (.t rfl) (.cons (.t rfl) (.cons (.t rfl) (.cons (.nil rfl) (.cons (.nil rfl) .nil)))))) (.cons (.t rfl) .nil))
theorem calls_nil (H : Pr P) : FnOk P 12 [.t .nilp] ⟨[], 0⟩ { v := .t (.int .i64 0) } := by
  refine FnOk.run H.i12 H.mixed rfl rfl ?_
  refine fR rfl ?_
  refine Mid.call (none_nil H) rfl rfl rfl rfl ?_
  refine fM rfl ?_
  refine Run.condT rfl rfl rfl ?_
  refine fR rfl ?_
  refine Run.fin rfl (EndOk.go ?_); exact .t rfl
theorem saved_nil (H : Pr P) : FnOk P 14 [.t .nilp] ⟨[], 0⟩ { v := .t (.int .i64 0) } := by
  refine FnOk.run H.i14 H.mixed rfl rfl ?_
  refine fR rfl ?_
  refine Mid.call (none_nil H) rfl rfl rfl rfl ?_
  refine fM rfl ?_
  refine Run.condT rfl rfl rfl ?_
  refine fR rfl ?_
  refine Run.fin rfl (EndOk.go ?_); exact .t rfl
end Go.GB.C35


/-
  L35G: chapter 35: the law of a loader that is none.
-/
namespace Go.GB.C35
open Go.GB
set_option linter.unusedSimpArgs false
set_option linter.unusedVariables false
set_option maxRecDepth 100000
set_option maxHeartbeats 8000000
variable {P : Program}
theorem cmp_refl : ∀ k : Nat, (∀ a : Val, SizeOf.sizeOf a ≤ k → cmpV sameS a a = 0) ∧ ∀ (l : List Val) (ka : List Str) (j : Nat), SizeOf.sizeOf l ≤ k → cmpVs sameS l l ka ka j 0 = 0
  | 0 => ⟨fun a h => by cases a; simp at h, fun l ka j h => by cases l <;> simp at h⟩
  | k + 1 => by
    have ih := cmp_refl k
    refine ⟨fun a h => ?_, fun l ka j h => ?_⟩
    · have h2 := ih.2 a.items a.keys 0 (by cases a; simp only [Val.items]; simp only [Val.mk.sizeOf_spec] at h; omega)
      rw [cmpV_eq]
      have e : cmpI (a.items.length : Nat) (a.items.length : Nat) = 0 := cmpI_zero.2 rfl
      rw [e]
      simp only [nz]
      exact ⟨cmpI_zero.2 rfl, cmpI_zero.2 rfl, sameS_zero.2 rfl, h2⟩
    · cases l with
      | nil => simp [cmpVs]
      | cons x r =>
        have h1 := ih.1 x (by simp only [List.cons.sizeOf_spec] at h; omega)
        have h2 := ih.2 r ka (j + 1) (by simp only [List.cons.sizeOf_spec] at h; omega)
        simp only [cmpVs, nz]
        exact ⟨sameS_zero.2 rfl, h1, h2⟩
theorem sameV_refl (a : Val) : sameV a a = true := by
  unfold sameV
  simpa using (cmp_refl _).1 a (Nat.le_refl _)
end Go.GB.C35


/-
  L35H: chapter 35: the state of a loader with one queue; adding a representation.
-/
namespace Go.GB
theorem AObj.leSame {m m' : Nat} {o : AObj} (h : o.bd m = true) : LeO m m' o o := by
  cases o with
  | cells cs => exact .cells (.same h)
  | map kag es st => exact .map rfl (.same h) (.inr rfl)
  | arr n => exact .arr rfl
  | iter q s seen c => exact .iter rfl (of_decide_eq_true h)
  | gro r cs => exact .gro (.same h)
  | fobs os =>
    refine .fobs rfl fun i cs ds h1 h2 => ?_
    rw [h1] at h2; simp only [Option.some.injEq] at h2; subst h2
    exact .same (List.all_eq_true.1 h cs (List.mem_of_getElem? h1))
  | farr ns => exact .farr rfl
  | memo kag I => exact .memo fun _ _ h => h
  | abs J => exact .abs rfl
theorem LeO.fobsPush {m m' : Nat} {os ps qs : List (List V)} {x y : List V} (e : qs = ps ++ [y]) (e2 : os = ps) (h : os.all (V.bds m) = true) (hx : LeXs m m' x y) : LeO m m' (.fobs (os ++ [x])) (.fobs qs) := by
  subst e; subst e2
  refine .fobs (by simp) fun i cs ds h1 h2 => ?_
  by_cases hi : i < os.length
  · rw [List.getElem?_append_left hi] at h1 h2
    rw [h1] at h2; simp only [Option.some.injEq] at h2; subst h2
    exact .same (List.all_eq_true.1 h cs (List.mem_of_getElem? h1))
  · rw [List.getElem?_append_right (by omega)] at h1 h2
    cases hj : i - os.length with
    | zero => rw [hj] at h1 h2; simp at h1 h2; subst h1; subst h2; exact hx
    | succ j => rw [hj] at h1; simp at h1
end Go.GB
namespace Go.GB.C35
open Go.GB
set_option linter.unusedSimpArgs false
set_option linter.unusedVariables false
set_option maxRecDepth 100000
set_option maxHeartbeats 8000000
variable {P : Program}
/-- a place: its representation, its result, whether it is loaded -/
structure Pl where
  rep : Val
  res : Val
  ld : Bool
def Pl.cs (p : Pl) : List V := [.t (.int .i64 p.rep.kind), .t (.int .i64 p.rep.int), .t (.str p.rep.text), .t (.lst (p.rep.items.map Val.enc)), .t (.lst (p.rep.keys.map sE)), .t (.int .i64 p.res.kind), .t (.int .i64 p.res.int), .t (.str p.res.text), .t (.lst (p.res.items.map Val.enc)), .t (.lst (p.res.keys.map sE)), .t (.bool p.ld)]
structure Pl.Ok (p : Pl) : Prop where
  r : p.rep.Ok
  s : p.res.Ok
theorem pls_bd (m : Nat) (ps : List Pl) : (ps.map Pl.cs).all (V.bds m) = true := by
  simp only [List.all_map, List.all_eq_true, Function.comp_apply]
  intro p _
  simp [Pl.cs, V.bds, V.bd]
/-- the numbers of the places -/
def pl (ps : List Pl) : List Nat := List.range ps.length
theorem pl_length (ps : List Pl) : (pl ps).length = ps.length := by simp [pl]
theorem pl_push (ps : List Pl) (p : Pl) : pl (ps ++ [p]) = pl ps ++ [ps.length] := by simp [pl, List.range_succ]
theorem pl_at {ps : List Pl} {i x : Nat} (h : (pl ps)[i]? = some x) : x = i ∧ i < ps.length := by
  obtain ⟨h1, h2⟩ := List.getElem?_eq_some_iff.1 h
  simp only [pl, List.getElem_range] at h2
  exact ⟨h2.symm, by simpa [pl] using h1⟩
theorem pl_some {ps : List Pl} {i : Nat} (h : i < ps.length) : (pl ps)[i]? = some i := by simp [pl, h]
def pE (F i : Nat) : List V := [V.fpt F i 0]
/-- what Add does -/
def fnd (ps : List Pl) (v : Val) : Option Nat := ps.findIdx? fun p => sameV p.rep v
def addAt (ps : List Pl) (v : Val) : Nat := (fnd ps v).getD ps.length
def addPs (ps : List Pl) (v : Val) : List Pl := if (fnd ps v).isSome then ps else ps ++ [⟨v, Val.zero, false⟩]
def addS (ps : List Pl) (v : Val) : Int := if (fnd ps v).isSome then 1 else 0
theorem fnd_cons (p : Pl) (r : List Pl) (v : Val) : fnd (p :: r) v = if sameV p.rep v then some 0 else (fnd r v).map (· + 1) := by
  simp only [fnd, List.findIdx?_cons]
theorem gE_bd {m F : Nat} (h : F < m) (l : List Nat) : V.bds m (gE (pE F) l) = true := V.bds_gE (fun x => by simp [pE, V.bds, V.bd, h]) l
theorem none_ok (H : Pr P) (m c s : Int) (q : AObj) (hq : stoBd 2 [(1, q)] = true) : FnOk P 31 [.ptr 0 0] ⟨[(0, .cells [.t (.int .i64 m), .mp 1, .t (.int .i64 c), .t (.int .i64 s)]), (1, q)], 2⟩ { v := .t (.bool false), rd := true } := by
  have hb : stoBd 2 [(0, .cells [.t (.int .i64 m), .mp 1, .t (.int .i64 c), .t (.int .i64 s)]), (1, q)] = true := by
    simp [stoBd] at hq ⊢
    exact ⟨rfl, hq⟩
  refine FnOk.run H.i31 H.mixed rfl rfl ?_
  refine fR rfl ?_
  refine Run.fin rfl (EndOk.sameX rfl rfl rfl hb (.t rfl))
theorem add_first (H : Pr P) (m c s f : Int) (hf : 0 ≤ f) (v : Val) (hv : v.Ok) (sx : Option (Nat × List Nat)) : FnOk P 16 [.ptr 1 0, .t (.int .i64 f), v.v] ⟨[(0, .map false [] sx), (1, .cells [.t (.int .i64 m), .mp 0, .t (.int .i64 c), .t (.int .i64 s)])], 2⟩ { v := .tup [.t (.int .i64 0), .t (.int .i64 0)], ob := [(0, .map false [([.int .i64 f], .ptr 4 0)] none), (3, .map false [] none), (4, .cells [.own 8 1 ([(0 : Int)].map nE), .gsl 7 (pl [⟨v, Val.zero, false⟩]).length 0 (pl [⟨v, Val.zero, false⟩]).length 1, .t (.int .i64 0), .mp 3]), (5, .fobs ([⟨v, Val.zero, false⟩].map Pl.cs)), (7, .gro (pl [⟨v, Val.zero, false⟩]).length (gE (pE 5) (pl [⟨v, Val.zero, false⟩]))), (8, .arr [(0 : Int)].length)], n := 7 } := by
  refine FnOk.run H.i16 H.mixed rfl rfl ?_
  refine fR rfl ?_
  refine Mid.callRd [1, 0] (none_ok H m c s (.map false [] sx) rfl) rfl rfl rfl rfl rfl (by repeat' (first | exact trivial | exact rfl | refine And.intro ?_ ?_ | exact (congrArg some (AObj.ren_mE _ _ _ _ _ _)).symm | exact (congrArg some (AObj.ren_cE _ _ _)).symm | (refine (congrArg some (AObj.ren_gE ?_ _ _)).symm; intro _; rfl))) rfl ?_
  refine fM rfl ?_
  refine Run.condF rfl rfl rfl ?_
  refine fR rfl ?_
  refine Run.condF rfl rfl (by simp; omega) ?_
  refine fR rfl ?_
  refine pu rfl ?_
  refine fM rfl ?_
  refine Run.condT rfl rfl rfl ?_
  refine fR rfl ?_
  refine Mid.mkmapV rfl ?_
  refine fM rfl ?_
  refine Mid.mapV (es' := [([.int .i64 f], .ptr 4 0)]) rfl rfl rfl rfl rfl rfl ?_
  refine fM rfl ?_
  refine p0 rfl ?_
  refine fM rfl ?_
  refine Run.loop rfl ?_
  refine Run.unroll ?_
  refine fR rfl ?_
  refine Run.condF rfl rfl rfl ?_
  refine fR rfl ?_
  refine Run.condT rfl rfl rfl ?_
  refine rWeakC 5 rfl (st' := { env := [(5, .ptr 2 0), (8, .ptr 4 0), (9, .t (.int .i64 (-1)))], s := ⟨[(0, .map false [([.int .i64 f], .ptr 4 0)] none), (1, .cells [.t (.int .i64 m), .mp 0, .t (.int .i64 c), .t (.int .i64 s)]), (2, .cells [.t (.int .i64 v.kind), .t (.int .i64 v.int), .t (.str v.text), .t (.lst (v.items.map Val.enc)), .t (.lst (v.keys.map sE))]), (3, .map false [] (some (0, []))), (4, .cells [.nils, .nils, .t (.int .i64 0), .mp 3]), (5, .fobs [])], 6⟩ }) ?_ rfl rfl rfl
  refine fR rfl ?_
  refine p0 rfl ?_
  refine fM rfl ?_
  refine Mid.call (copy_ok H v hv) rfl rfl rfl rfl ?_
  refine Mid.fast (f := 1) rfl (by (repeat' (first | exact trivial | exact Bool.not_or_self _ | exact grd1 _ | exact grd2 _ | exact grd3 _ _ | exact grd4 _ _ | refine And.intro ?_ ?_ | exact rfl | (simp; done) | (simp <;> omega))); done) ?_
  refine Mid.boxF (os := []) 5 rfl rfl rfl rfl rfl ?_
  refine Mid.bslO (cs := [.fpt 5 0 0]) rfl rfl ?_
  refine Mid.appGN (pE 5) [0] rfl rfl (fun _ => rfl) (by decide) (by decide) rfl ?_
  refine fM rfl ?_
  refine apN nE [(0 : Int)] rfl rfl rfl ?_ (h1 := by first | omega | (simp; omega) | (simp; done)) (h2 := by first | omega | (simp; omega) | (simp; done))
  refine fM rfl ?_
  refine lM rfl rfl rfl ?_
  refine p0 rfl ?_
  refine fM rfl ?_
  refine Run.fin rfl (EndOk.chg rfl rfl ?_ ?_)
  · exact .tup (.cons (.t rfl) (.cons (.t rfl) .nil))
  · refine ⟨?_, ?_, ?_, ?_, ?_, ?_, ?_, trivial⟩
    · exact .inl ⟨Nat.le_of_ble_eq_true rfl, _, rfl, AObj.leSame rfl⟩
    · exact .inl ⟨Nat.le_of_ble_eq_true rfl, _, rfl, AObj.leSame rfl⟩
    · exact .inl ⟨Nat.le_of_ble_eq_true rfl, _, rfl, .map rfl (.same rfl) (.inl rfl)⟩
    · exact .inl ⟨Nat.le_of_ble_eq_true rfl, _, rfl, AObj.leSame rfl⟩
    · exact .inl ⟨Nat.le_of_ble_eq_true rfl, _, rfl, .fobsPush (ps := []) rfl rfl rfl (.cons .t (.cons .t (.cons .t (.cons .t (.cons .t (.cons .t (.cons .t (.cons .t (.cons .nilT (.cons .nilT (.cons .t .nil)))))))))))⟩
    · exact .inl ⟨Nat.le_of_ble_eq_true rfl, _, rfl, AObj.leSame rfl⟩
    · exact .inl ⟨Nat.le_of_ble_eq_true rfl, _, rfl, .arr rfl⟩
end Go.GB.C35


/-
  L35I: chapter 35: adding a representation to a queue.
-/
namespace Go.GB.C35
open Go.GB
set_option linter.unusedSimpArgs false
set_option linter.unusedVariables false
set_option maxRecDepth 100000
set_option maxHeartbeats 8000000
variable {P : Program}
theorem fnd_at {ps : List Pl} {i : Nat} {p : Pl} {v : Val} (h : ps[i]? = some p) : fnd (ps.drop i) v = if sameV p.rep v then some 0 else (fnd (ps.drop (i + 1)) v).map (· + 1) := by
  rw [drop_at h, fnd_cons]
theorem stoBd_cons {m k : Nat} {o : AObj} {r : List (Nat × AObj)} (h1 : k < m) (h2 : o.bd m = true) (h3 : stoBd m r = true) : stoBd m ((k, o) :: r) = true := by
  simp [stoBd, h1, h2, h3]
theorem none_ga (H : Pr P) (m c s : Int) (o : AObj) (r : List (Nat × AObj)) (hb : stoBd 9 ((0, o) :: (1, .cells [.t (.int .i64 m), .mp 0, .t (.int .i64 c), .t (.int .i64 s)]) :: r) = true) : FnOk P 31 [.ptr 1 0] ⟨(0, o) :: (1, .cells [.t (.int .i64 m), .mp 0, .t (.int .i64 c), .t (.int .i64 s)]) :: r, 9⟩ { v := .t (.bool false), rd := true } := by
  refine FnOk.run H.i31 H.mixed rfl rfl ?_
  refine fR rfl ?_
  refine Run.fin rfl (EndOk.sameX rfl (List.append_nil _).symm rfl hb (.t rfl))
theorem none_gb (H : Pr P) (m c s : Int) (o : AObj) (r : List (Nat × AObj)) (hb : stoBd 10 ((0, o) :: (1, .cells [.t (.int .i64 m), .mp 0, .t (.int .i64 c), .t (.int .i64 s)]) :: r) = true) : FnOk P 31 [.ptr 1 0] ⟨(0, o) :: (1, .cells [.t (.int .i64 m), .mp 0, .t (.int .i64 c), .t (.int .i64 s)]) :: r, 10⟩ { v := .t (.bool false), rd := true } := by
  refine FnOk.run H.i31 H.mixed rfl rfl ?_
  refine fR rfl ?_
  refine Run.fin rfl (EndOk.sameX rfl (List.append_nil _).symm rfl hb (.t rfl))
theorem add_ok (H : Pr P) (m c s f nx : Int) (tk : List Int) (ps : List Pl) (op es : List (List T × V)) (hf : 0 ≤ f) (v : Val) (hv : v.Ok) (hs : 0 ≤ s ∧ s < 1000000) (ht : tk.length < 1000000) (hpl : ps.length < 1000000) (hpo : ∀ p, p ∈ ps → p.Ok) (hk : keysOk [.int .i64] es = true) (hg : mget [.int .i64 f] es = some (.ptr 4 0)) (hb : ∀ k, 9 ≤ k → V.bds k (es.map (·.2)) = true) (hob : ∀ k, 9 ≤ k → V.bds k (op.map (·.2)) = true) : FnOk P 16 [.ptr 1 0, .t (.int .i64 f), v.v] ⟨[(0, .map false es none), (1, .cells [.t (.int .i64 m), .mp 0, .t (.int .i64 c), .t (.int .i64 s)]), (3, .map false op none), (4, .cells [.own 8 1 (tk.map nE), .gsl 7 (pl ps).length 0 (pl ps).length 1, .t (.int .i64 nx), .mp 3]), (5, .fobs (ps.map Pl.cs)), (7, .gro (pl ps).length (gE (pE 5) (pl ps))), (8, .arr tk.length)], 9⟩ { v := .tup [.t (.int .i64 tk.length), .t (.int .i64 0)], ob := [(1, .cells [.t (.int .i64 m), .mp 0, .t (.int .i64 c), .t (.int .i64 (s + addS ps v))]), (4, .cells [.own 8 1 ((tk ++ [(addAt ps v : Int)]).map nE), .gsl 7 (pl (addPs ps v)).length 0 (pl (addPs ps v)).length 1, .t (.int .i64 nx), .mp 3]), (5, .fobs ((addPs ps v).map Pl.cs)), (7, .gro (pl (addPs ps v)).length (gE (pE 5) (pl (addPs ps v)))), (8, .arr (tk ++ [(addAt ps v : Int)]).length)], n := 0, rd := true } := by
  have hsb : stoBd 10 [(0, .map false es none), (1, .cells [.t (.int .i64 m), .mp 0, .t (.int .i64 c), .t (.int .i64 s)]), (3, .map false op none), (4, .cells [.own 8 1 (tk.map nE), .gsl 7 (pl ps).length 0 (pl ps).length 1, .t (.int .i64 nx), .mp 3]), (5, .fobs (ps.map Pl.cs)), (7, .gro (pl ps).length (gE (pE 5) (pl ps))), (8, .arr tk.length), (9, .cells [.t (.int .i64 v.kind), .t (.int .i64 v.int), .t (.str v.text), .t (.lst (v.items.map Val.enc)), .t (.lst (v.keys.map sE))])] = true := (by repeat' (first | exact (rfl : stoBd _ [] = true) | refine stoBd_cons (Nat.le_of_ble_eq_true rfl) ?_ ?_ | exact (by first | rfl | exact hb _ (Nat.le_of_ble_eq_true rfl) | exact hob _ (Nat.le_of_ble_eq_true rfl) | (refine open_bd ?_ _ _; exact Nat.le_of_ble_eq_true rfl) | exact pls_bd _ _ | (refine gE_bd ?_ _; exact Nat.le_of_ble_eq_true rfl))))
  have hR : fnd ps v = fnd (ps.drop 0) v := rfl
  refine FnOk.run H.i16 H.mixed rfl rfl ?_
  refine fR rfl ?_
  refine Mid.callS (none_gb H m c s _ _ hsb) rfl rfl hsb rfl ?_
  refine fM rfl ?_
  refine Run.condF rfl rfl rfl ?_
  refine fR rfl ?_
  refine Run.condF rfl rfl (by simp; omega) ?_
  refine fR rfl ?_
  refine Mid.lookV (.ptr 4 0) rfl rfl rfl rfl hk (by rw [hg]; rfl) rfl ?_
  refine fM rfl ?_
  refine Run.condF rfl rfl rfl ?_
  refine fR rfl ?_
  refine pu rfl ?_
  refine fM rfl ?_
  refine rList (pl ps) (fun i (_ : Unit) => { env := [(0, .ptr 1 0), (5, .ptr 9 0), (8, .ptr 4 0), (9, .t (.int .i64 (-1))), (38, .gsl 7 (pl ps).length 0 (pl ps).length 1), (39, .t (.int .i64 (pl ps).length)), (40, .t (.int .i64 i))], s := ⟨[(0, .map false es none), (1, .cells [.t (.int .i64 m), .mp 0, .t (.int .i64 c), .t (.int .i64 s)]), (3, .map false op none), (4, .cells [.own 8 1 (tk.map nE), .gsl 7 (pl ps).length 0 (pl ps).length 1, .t (.int .i64 nx), .mp 3]), (5, .fobs (ps.map Pl.cs)), (7, .gro (pl ps).length (gE (pE 5) (pl ps))), (8, .arr tk.length), (9, .cells [.t (.int .i64 v.kind), .t (.int .i64 v.int), .t (.str v.text), .t (.lst (v.items.map Val.enc)), .t (.lst (v.keys.map sE))])], 10⟩ }) (fun r i _ => fnd ps v = (fnd (ps.drop i) v).map (· + i)) 10 () rfl (by simp) rfl rfl rfl ?_ ?_ (he := (by repeat' (first | exact trivial | exact LeX.t | exact LeX.top | exact LeX.nilOwn (Nat.le_of_ble_eq_true rfl) (Nat.le_of_ble_eq_true rfl) | exact LeX.ownT | exact LeX.nilT | exact LeX.same rfl | exact LeX.tEq (by simp) | exact LeX.ownEq (by simp) (Nat.le_of_ble_eq_true rfl) | exact LeX.tEq (by congr 1 <;> omega) | exact Or.inr ⟨Nat.le_of_ble_eq_true rfl, Nat.le_of_ble_eq_true rfl, rfl⟩ | refine Or.inl ⟨Nat.le_of_ble_eq_true rfl, _, rfl, ?_⟩ | refine LeO.cells ?_ | exact LeO.arr rfl | exact LeO.arr (by simp) | exact LeO.mE (by first | rfl | simp) (by first | exact Or.inl rfl | exact Or.inr rfl) | exact LeO.cE (by first | rfl | simp) | exact LeXs.cE (by first | rfl | simp) | refine LeO.map (by first | rfl | simp) ?_ (by first | exact Or.inl rfl | exact Or.inr rfl) | exact LeO.iter (by first | rfl | simp) (Nat.le_of_ble_eq_true rfl) | refine LeXs.cons ?_ ?_ | exact LeXs.nil | refine And.intro ?_ ?_))) (hs := (by repeat' (first | exact trivial | refine And.intro ?_ ?_ | exact Or.inr ⟨Nat.le_of_ble_eq_true rfl, Nat.le_of_ble_eq_true rfl, rfl⟩ | exact Or.inl ⟨(Nat.le_of_ble_eq_true rfl), _, rfl, AObj.leSame (by first | rfl | exact hb _ (Nat.le_of_ble_eq_true rfl) | exact hob _ (Nat.le_of_ble_eq_true rfl) | (refine open_bd ?_ _ _; exact Nat.le_of_ble_eq_true rfl) | exact pls_bd _ _ | (refine gE_bd ?_ _; exact Nat.le_of_ble_eq_true rfl))⟩)))
  · intro _ hinv
    rw [pl_length, List.drop_length] at hinv
    simp [fnd] at hinv
    have hn : fnd ps v = none := by simpa [fnd] using hinv
    have e1 : addAt ps v = ps.length := by simp [addAt, hn]
    have e2 : addPs ps v = ps ++ [⟨v, Val.zero, false⟩] := by simp [addPs, hn]
    have e3 : addS ps v = 0 := by simp [addS, hn]
    rw [e1, e2, e3]
    refine fR rfl ?_
    refine Run.condF rfl rfl (by simp) ?_
    refine fR rfl ?_
    refine Run.condT rfl rfl rfl ?_
    refine fR rfl ?_
    refine pu rfl ?_
    refine fM rfl ?_
    refine Mid.call (copy_ok H v hv) rfl rfl rfl rfl ?_
    refine Mid.fast (f := 1) rfl (by (repeat' (first | exact trivial | exact Bool.not_or_self _ | exact grd1 _ | exact grd2 _ | exact grd3 _ _ | exact grd4 _ _ | refine And.intro ?_ ?_ | exact rfl | (simp; done) | (simp <;> omega))); done) ?_
    refine Mid.boxF (os := ps.map Pl.cs) 5 rfl rfl rfl rfl rfl ?_
    refine Mid.bslO (cs := [.fpt 5 (ps.map Pl.cs).length 0]) rfl rfl ?_
    refine Mid.appGG (pE 5) (pl ps) [(ps.map Pl.cs).length] rfl rfl rfl (fun _ => rfl) (fun _ => rfl) (by simp [pl_length]; omega) (by simp [pl_length]; omega) rfl ?_
    refine fM rfl ?_
    refine apM nE tk [((pl ps).length : Int)] rfl rfl rfl rfl rfl ?_ (h1 := by first | omega | (simp; omega) | (simp; done)) (h2 := by first | omega | (simp; omega) | (simp; done))
    refine fM rfl ?_
    refine lM rfl rfl rfl ?_
    refine p0 rfl ?_
    refine fM rfl ?_
    refine Run.fin rfl (EndOk.chg rfl rfl ?_ ?_)
    · exact .tup (.cons (.t (congrArg _ ((wrap64 (by first | omega | (simp; omega) | (simp; done)) (by first | omega | (simp; omega) | (simp; done))).trans (by simp)))) (.cons (.t rfl) .nil))
    · have eq : pl ps ++ [(ps.map Pl.cs).length] = pl (ps ++ [⟨v, Val.zero, false⟩]) := by rw [pl_push, List.length_map]
      have el : (pl ps).length + 1 = (pl (ps ++ [⟨v, Val.zero, false⟩])).length := by simp [pl_length]
      refine ⟨?_, ?_, ?_, ?_, ?_, ?_, ?_, trivial⟩
      · exact .inl ⟨(Nat.le_of_ble_eq_true rfl), _, rfl, AObj.leSame (by first | rfl | exact hb _ (Nat.le_of_ble_eq_true rfl) | exact hob _ (Nat.le_of_ble_eq_true rfl) | (refine open_bd ?_ _ _; exact Nat.le_of_ble_eq_true rfl) | exact pls_bd _ _ | (refine gE_bd ?_ _; exact Nat.le_of_ble_eq_true rfl))⟩
      · exact .inl ⟨Nat.le_of_ble_eq_true rfl, _, rfl, .cells (.cons .t (.cons (.same rfl) (.cons .t (.cons (.tEq (by simp)) .nil))))⟩
      · exact .inl ⟨(Nat.le_of_ble_eq_true rfl), _, rfl, AObj.leSame (by first | rfl | exact hb _ (Nat.le_of_ble_eq_true rfl) | exact hob _ (Nat.le_of_ble_eq_true rfl) | (refine open_bd ?_ _ _; exact Nat.le_of_ble_eq_true rfl) | exact pls_bd _ _ | (refine gE_bd ?_ _; exact Nat.le_of_ble_eq_true rfl))⟩
      · exact .inl ⟨Nat.le_of_ble_eq_true rfl, _, rfl, .cells (.cons (.ownEq (by simp [pl_length]) (Nat.le_of_ble_eq_true rfl)) (.cons (.gslEq el rfl (by rw [eq]) (Nat.le_of_ble_eq_true rfl)) (.cons .t (.cons (.same rfl) .nil))))⟩
      · exact .inl ⟨Nat.le_of_ble_eq_true rfl, _, rfl, .fobsPush (ps := ps.map Pl.cs) (by simp; rfl) rfl (pls_bd _ _) (.cons .t (.cons .t (.cons .t (.cons .t (.cons .t (.cons .t (.cons .t (.cons .t (.cons .nilT (.cons .nilT (.cons .t .nil)))))))))))⟩
      · exact .inl ⟨Nat.le_of_ble_eq_true rfl, _, rfl, .groE el (.gE eq fun x => rfl)⟩
      · exact .inl ⟨Nat.le_of_ble_eq_true rfl, _, rfl, .arr (by simp)⟩
  · intro i x r _ g1 gi gd hinv ih
    obtain ⟨rfl, hlt⟩ := pl_at g1
    have hpos : 0 < (pl ps).length := by rw [pl_length]; omega
    obtain ⟨p, hp⟩ : ∃ p, ps[x]? = some p := ⟨_, List.getElem?_eq_getElem hlt⟩
    have hpk := hpo p (List.mem_of_getElem? hp)
    rw [fnd_at hp] at hinv
    refine fR rfl ?_
    refine Run.condT rfl rfl (by simp; omega) ?_
    refine fR rfl ?_
    refine pu rfl ?_
    refine Mid.ldG (x) 0 (sz := 1) rfl rfl (by omega) (by omega) (fun _ => rfl) (g1) rfl rfl ?_
    refine p0 rfl ?_
    refine p0 rfl ?_
    have hpc : (ps.map Pl.cs)[x]? = some p.cs := by simp [hp]
    refine Mid.fast (f := 1) rfl (by (repeat' (first | exact trivial | exact Bool.not_or_self _ | exact grd1 _ | exact grd2 _ | exact grd3 _ _ | exact grd4 _ _ | refine And.intro ?_ ?_ | exact rfl | (simp; done) | (simp <;> omega))); done) ?_
    refine Run.fast (f := 4) rfl (by (repeat' (first | exact trivial | exact Bool.not_or_self _ | exact grd1 _ | exact grd2 _ | exact grd3 _ _ | exact grd4 _ _ | refine And.intro ?_ ?_ | exact rfl | (simp; done) | (simp <;> omega))); done) ?_
    refine Mid.ldFA (cs := p.cs) rfl rfl hpc (by simp [Pl.cs]) rfl rfl ?_
    refine fM rfl ?_
    refine Mid.call (psame_ok H p.rep v hpk.r hv) rfl rfl rfl rfl ?_
    refine fM rfl ?_
    by_cases hsm : sameV p.rep v = true
    · rw [if_pos hsm] at hinv
      have hn : fnd ps v = some x := by simpa using hinv
      have e1 : addAt ps v = x := by simp [addAt, hn]
      have e2 : addPs ps v = ps := by simp [addPs, hn]
      have e3 : addS ps v = 1 := by simp [addS, hn]
      rw [e1, e2, e3]
      refine Run.condT rfl rfl (by simpa using hsm) ?_
      refine fR rfl ?_
      refine Run.condF rfl rfl (by simp) ?_
      refine fR rfl ?_
      refine a64 rfl rfl rfl ?_
      refine fM rfl ?_
      refine apM nE tk [(x : Int)] rfl rfl rfl rfl rfl ?_ (h1 := by first | omega | (simp; omega) | (simp; done)) (h2 := by first | omega | (simp; omega) | (simp; done))
      refine fM rfl ?_
      refine lM rfl rfl rfl ?_
      refine p0 rfl ?_
      refine fM rfl ?_
      refine Run.fin rfl (EndOk.chg rfl rfl ?_ ?_)
      · exact .tup (.cons (.t (congrArg _ ((wrap64 (by first | omega | (simp; omega) | (simp; done)) (by first | omega | (simp; omega) | (simp; done))).trans (by simp)))) (.cons (.t rfl) .nil))
      · refine ⟨?_, ?_, ?_, ?_, ?_, ?_, ?_, trivial⟩
        · exact .inl ⟨(Nat.le_of_ble_eq_true rfl), _, rfl, AObj.leSame (by first | rfl | exact hb _ (Nat.le_of_ble_eq_true rfl) | exact hob _ (Nat.le_of_ble_eq_true rfl) | (refine open_bd ?_ _ _; exact Nat.le_of_ble_eq_true rfl) | exact pls_bd _ _ | (refine gE_bd ?_ _; exact Nat.le_of_ble_eq_true rfl))⟩
        · exact .inl ⟨Nat.le_of_ble_eq_true rfl, _, rfl, .cells (.cons .t (.cons (.same rfl) (.cons .t (.cons (.tEq (by simp)) .nil))))⟩
        · exact .inl ⟨(Nat.le_of_ble_eq_true rfl), _, rfl, AObj.leSame (by first | rfl | exact hb _ (Nat.le_of_ble_eq_true rfl) | exact hob _ (Nat.le_of_ble_eq_true rfl) | (refine open_bd ?_ _ _; exact Nat.le_of_ble_eq_true rfl) | exact pls_bd _ _ | (refine gE_bd ?_ _; exact Nat.le_of_ble_eq_true rfl))⟩
        · exact .inl ⟨Nat.le_of_ble_eq_true rfl, _, rfl, .cells (.cons (.ownEq (by simp) (Nat.le_of_ble_eq_true rfl)) (.cons (.same rfl) (.cons .t (.cons (.same rfl) .nil))))⟩
        · exact .inl ⟨(Nat.le_of_ble_eq_true rfl), _, rfl, AObj.leSame (by first | rfl | exact hb _ (Nat.le_of_ble_eq_true rfl) | exact hob _ (Nat.le_of_ble_eq_true rfl) | (refine open_bd ?_ _ _; exact Nat.le_of_ble_eq_true rfl) | exact pls_bd _ _ | (refine gE_bd ?_ _; exact Nat.le_of_ble_eq_true rfl))⟩
        · exact .inl ⟨(Nat.le_of_ble_eq_true rfl), _, rfl, AObj.leSame (by first | rfl | exact hb _ (Nat.le_of_ble_eq_true rfl) | exact hob _ (Nat.le_of_ble_eq_true rfl) | (refine open_bd ?_ _ _; exact Nat.le_of_ble_eq_true rfl) | exact pls_bd _ _ | (refine gE_bd ?_ _; exact Nat.le_of_ble_eq_true rfl))⟩
        · exact .inl ⟨Nat.le_of_ble_eq_true rfl, _, rfl, .arr (by simp)⟩
    · rw [if_neg hsm] at hinv
      refine Run.condF rfl rfl (by simpa using hsm) ?_
      refine fR rfl ?_
      refine aL rfl rfl rfl rfl rfl ?_
      refine fM rfl ?_
      have hi2 : fnd ps v = Option.map (fun y => y + (x + 1)) (fnd (ps.drop (x + 1)) v) := by
        rw [hinv, Option.map_map]; congr 1; funext y; simp; omega
      exact rWeak 10 rfl (ih () hi2) rfl rfl rfl (he := (by repeat' (first | exact trivial | exact LeX.t | exact LeX.top | exact LeX.nilOwn (Nat.le_of_ble_eq_true rfl) (Nat.le_of_ble_eq_true rfl) | exact LeX.ownT | exact LeX.nilT | exact LeX.same rfl | exact LeX.tEq (by simp) | exact LeX.ownEq (by simp) (Nat.le_of_ble_eq_true rfl) | exact LeX.tEq (by congr 1 <;> omega) | exact Or.inr ⟨Nat.le_of_ble_eq_true rfl, Nat.le_of_ble_eq_true rfl, rfl⟩ | refine Or.inl ⟨Nat.le_of_ble_eq_true rfl, _, rfl, ?_⟩ | refine LeO.cells ?_ | exact LeO.arr rfl | exact LeO.arr (by simp) | exact LeO.mE (by first | rfl | simp) (by first | exact Or.inl rfl | exact Or.inr rfl) | exact LeO.cE (by first | rfl | simp) | exact LeXs.cE (by first | rfl | simp) | refine LeO.map (by first | rfl | simp) ?_ (by first | exact Or.inl rfl | exact Or.inr rfl) | exact LeO.iter (by first | rfl | simp) (Nat.le_of_ble_eq_true rfl) | refine LeXs.cons ?_ ?_ | exact LeXs.nil | refine And.intro ?_ ?_))) (hs := (by repeat' (first | exact trivial | refine And.intro ?_ ?_ | exact Or.inr ⟨Nat.le_of_ble_eq_true rfl, Nat.le_of_ble_eq_true rfl, rfl⟩ | exact Or.inl ⟨(Nat.le_of_ble_eq_true rfl), _, rfl, AObj.leSame (by first | rfl | exact hb _ (Nat.le_of_ble_eq_true rfl) | exact hob _ (Nat.le_of_ble_eq_true rfl) | (refine open_bd ?_ _ _; exact Nat.le_of_ble_eq_true rfl) | exact pls_bd _ _ | (refine gE_bd ?_ _; exact Nat.le_of_ble_eq_true rfl))⟩)))
end Go.GB.C35


/-
  L35J: chapter 35: the next batch.
-/
namespace Go.GB.C35
open Go.GB
set_option linter.unusedSimpArgs false
set_option linter.unusedVariables false
set_option maxRecDepth 100000
set_option maxHeartbeats 8000000
variable {P : Program}
def opF (F nx j : Nat) : List T × V := ([.int .i64 (j : Int)], .fpt F (nx + j) 0)
def openE (F nx n : Nat) : List (List T × V) := (List.range n).map (opF F nx)
theorem open_len (F nx n : Nat) : (openE F nx n).length = n := by simp [openE]
theorem open_keys (F nx n : Nat) : keysOk [.int .i64] (openE F nx n) = true := by
  simp [openE, keysOk, opF, keyOk, KSh.ok]
theorem keyI (a b : Nat) : keyEq [.int .i64 (a : Int)] [.int .i64 (b : Int)] = decide (a = b) := by
  simp only [keyEq, T.eqb, Bool.and_true]
  by_cases h : a = b
  · subst h; simp
  · simp [h]; omega
theorem mset_opF (F nx n : Nat) : ∀ (l : List Nat), n ∉ l → mset [.int .i64 (n : Int)] (.fpt F (nx + n) 0) (l.map (opF F nx)) = l.map (opF F nx) ++ [opF F nx n]
  | [], _ => rfl
  | x :: r, h => by
    have h1 : n ≠ x := fun e => h (by simp [e])
    have ih := mset_opF F nx n r (fun e => h (by simp [e]))
    simp only [List.map_cons, mset, opF, keyI, h1, decide_false, if_false, Bool.false_eq_true, List.cons_append]
    simp only [opF] at ih
    rw [ih]
theorem mset_open (F nx n : Nat) : mset [.int .i64 (n : Int)] (.fpt F (nx + n) 0) (openE F nx n) = openE F nx (n + 1) := by
  unfold openE
  rw [mset_opF F nx n _ (by simp), List.range_succ, List.map_append]; rfl
theorem mget_opF (F nx n : Nat) : ∀ (l : List Nat), n ∈ l → mget [.int .i64 (n : Int)] (l.map (opF F nx)) = some (.fpt F (nx + n) 0)
  | [], h => by simp at h
  | x :: r, h => by
    simp only [List.map_cons, mget, opF, keyI]
    by_cases h1 : n = x
    · subst h1; simp
    · have ih := mget_opF F nx n r (by simpa [h1] using h)
      simp [h1, ih]
theorem mget_open {F nx n j : Nat} (h : j < n) : mget [.int .i64 (j : Int)] (openE F nx n) = some (.fpt F (nx + j) 0) := mget_opF F nx j _ (by simpa using h)
theorem open_bd {k : Nat} {F : Nat} (h : F < k) (nx n : Nat) : V.bds k ((openE F nx n).map (·.2)) = true := by
  unfold openE
  generalize List.range n = l
  induction l with
  | nil => rfl
  | cons x r ih => simp [opF, V.bds, V.bd, h]; simpa [Function.comp_def, opF] using ih
def batch (m : Int) (nx : Nat) (ps : List Pl) : Nat := min m.toNat (ps.length - nx)
def reps (nx k : Nat) (ps : List Pl) : List Val := ((ps.drop nx).take k).map Pl.rep
theorem reps_at {nx k i : Nat} {ps : List Pl} {v : Val} (h : (reps nx k ps)[i]? = some v) : ∃ p, ps[nx + i]? = some p ∧ p.rep = v ∧ i < k := by
  simp only [reps, List.getElem?_map, Option.map_eq_some_iff] at h
  obtain ⟨p, h1, h2⟩ := h
  rw [List.getElem?_take] at h1
  split at h1
  · rw [List.getElem?_drop] at h1; exact ⟨p, h1, h2, by assumption⟩
  · cases h1
theorem next_ok (H : Pr P) (m c s f : Int) (nx : Nat) (tk : List Int) (ps : List Pl) (es : List (List T × V)) (hc : 0 ≤ c ∧ c < 1000000) (hm : 1 ≤ m ∧ m ≤ 1024) (hpl : ps.length < 1000000) (hnx : nx ≤ ps.length) (hpo : ∀ p, p ∈ ps → p.Ok) (hk : keysOk [.int .i64] es = true) (hg : mget [.int .i64 f] es = some (.ptr 4 0)) (hb : ∀ k, 9 ≤ k → V.bds k (es.map (·.2)) = true) : FnOk P 17 [.ptr 1 0, .t (.int .i64 f)] ⟨[(0, .map false es none), (1, .cells [.t (.int .i64 m), .mp 0, .t (.int .i64 c), .t (.int .i64 s)]), (3, .map false [] none), (4, .cells [.own 8 1 (tk.map nE), .gsl 7 (pl ps).length 0 (pl ps).length 1, .t (.int .i64 nx), .mp 3]), (5, .fobs (ps.map Pl.cs)), (7, .gro (pl ps).length (gE (pE 5) (pl ps))), (8, .arr tk.length)], 9⟩ { v := .tup [.t (.lst ((reps nx (batch m nx ps) ps).map Val.enc)), .t (.bool (decide (nx < ps.length)))], ob := [(1, .cells [.t (.int .i64 m), .mp 0, .t (.int .i64 (c + if nx < ps.length then 1 else 0)), .t (.int .i64 s)]), (3, .map false (openE 5 nx (batch m nx ps)) none), (4, .cells [.own 8 1 (tk.map nE), .gsl 7 (pl ps).length 0 (pl ps).length 1, .t (.int .i64 (nx + batch m nx ps : Nat)), .mp 3])], n := 0, rd := true } := by
  have hsa : stoBd 9 [(0, .map false es none), (1, .cells [.t (.int .i64 m), .mp 0, .t (.int .i64 c), .t (.int .i64 s)]), (3, .map false [] none), (4, .cells [.own 8 1 (tk.map nE), .gsl 7 (pl ps).length 0 (pl ps).length 1, .t (.int .i64 nx), .mp 3]), (5, .fobs (ps.map Pl.cs)), (7, .gro (pl ps).length (gE (pE 5) (pl ps))), (8, .arr tk.length)] = true := (by repeat' (first | exact (rfl : stoBd _ [] = true) | refine stoBd_cons (Nat.le_of_ble_eq_true rfl) ?_ ?_ | exact (by first | rfl | exact hb _ (Nat.le_of_ble_eq_true rfl) | exact hob _ (Nat.le_of_ble_eq_true rfl) | (refine open_bd ?_ _ _; exact Nat.le_of_ble_eq_true rfl) | exact pls_bd _ _ | (refine gE_bd ?_ _; exact Nat.le_of_ble_eq_true rfl))))
  generalize hk0 : batch m nx ps = k
  have hk1 : k ≤ m := by simp only [batch] at hk0; omega
  have hk2 : nx + k ≤ ps.length := by simp only [batch] at hk0; omega
  have hk3 : k = m ∨ nx + k = ps.length := by simp only [batch] at hk0; omega
  refine FnOk.run H.i17 H.mixed rfl rfl ?_
  refine fR rfl ?_
  refine Mid.callS (none_ga H m c s _ _ hsa) rfl rfl hsa rfl ?_
  refine fM rfl ?_
  refine Mid.lookVG (gc := true) (.ptr 4 0) rfl rfl rfl rfl rfl hk (by rw [hg]; rfl) ⟨rfl, trivial⟩ ⟨rfl, trivial⟩ rfl ?_
  refine fM rfl ?_
  refine Run.condF rfl rfl rfl ?_
  refine fR rfl ?_
  refine Mid.lookV (.ptr 4 0) rfl rfl rfl rfl hk (by rw [hg]; rfl) rfl ?_
  refine fM rfl ?_
  refine Mid.lenmV 0 rfl rfl rfl rfl ?_
  refine fM rfl ?_
  refine Run.condT rfl rfl rfl ?_
  skip
  refine rList (List.range k) (fun i (_ : Unit) => { env := [(0, .ptr 1 0), (6, .ptr 4 0)], s := ⟨[(0, .map false es none), (1, .cells [.t (.int .i64 m), .mp 0, .t (.int .i64 c), .t (.int .i64 s)]), (3, .map false (openE 5 nx i) none), (4, .cells [.own 8 1 (tk.map nE), .gsl 7 (pl ps).length 0 (pl ps).length 1, .t (.int .i64 (nx + i : Nat)), .mp 3]), (5, .fobs (ps.map Pl.cs)), (7, .gro (pl ps).length (gE (pE 5) (pl ps))), (8, .arr tk.length)], 9⟩ }) (fun r i _ => True) 9 () rfl trivial rfl rfl rfl ?_ ?_ (he := (by repeat' (first | exact trivial | exact LeX.t | exact LeX.top | exact LeX.nilOwn (Nat.le_of_ble_eq_true rfl) (Nat.le_of_ble_eq_true rfl) | exact LeX.ownT | exact LeX.nilT | exact LeX.same rfl | exact LeX.tEq (by simp) | exact LeX.ownEq (by simp) (Nat.le_of_ble_eq_true rfl) | exact LeX.tEq (by congr 1 <;> omega) | exact Or.inr ⟨Nat.le_of_ble_eq_true rfl, Nat.le_of_ble_eq_true rfl, rfl⟩ | refine Or.inl ⟨Nat.le_of_ble_eq_true rfl, _, rfl, ?_⟩ | refine LeO.cells ?_ | exact LeO.arr rfl | exact LeO.arr (by simp) | exact LeO.mE (by first | rfl | simp) (by first | exact Or.inl rfl | exact Or.inr rfl) | exact LeO.cE (by first | rfl | simp) | exact LeXs.cE (by first | rfl | simp) | refine LeO.map (by first | rfl | simp) ?_ (by first | exact Or.inl rfl | exact Or.inr rfl) | exact LeO.iter (by first | rfl | simp) (Nat.le_of_ble_eq_true rfl) | refine LeXs.cons ?_ ?_ | exact LeXs.nil | refine And.intro ?_ ?_))) (hs := (by repeat' (first | exact trivial | refine And.intro ?_ ?_ | exact Or.inr ⟨Nat.le_of_ble_eq_true rfl, Nat.le_of_ble_eq_true rfl, rfl⟩ | exact Or.inl ⟨(Nat.le_of_ble_eq_true rfl), _, rfl, AObj.leSame (by first | rfl | exact hb _ (Nat.le_of_ble_eq_true rfl) | exact hob _ (Nat.le_of_ble_eq_true rfl) | (refine open_bd ?_ _ _; exact Nat.le_of_ble_eq_true rfl) | exact pls_bd _ _ | (refine gE_bd ?_ _; exact Nat.le_of_ble_eq_true rfl))⟩)))
  · intro _ hinv
    rw [List.length_range]
    refine fR rfl ?_
    refine Mid.lenmV k rfl rfl (open_len _ _ _) rfl ?_
    refine fM rfl ?_
    refine gr rfl ?_
    refine fM rfl ?_
    refine Run.condF rfl rfl (by simp [pl_length]; intro _; omega) ?_
    refine fR rfl ?_
    refine Mid.lenmV k rfl rfl (open_len _ _ _) rfl ?_
    refine fM rfl ?_
    by_cases hk9 : k = 0
    · refine Run.condT rfl rfl (by simp; omega) ?_
      refine fR rfl ?_
      have hn : nx = ps.length := by omega
      refine Run.fin rfl (EndOk.chg rfl rfl ?_ ?_)
      · exact .tup (.cons (.nil (by subst hk9; simp [reps])) (.cons (.t (by simp [hn])) .nil))
      · refine ⟨?_, ?_, ?_, ?_, ?_, ?_, ?_, trivial⟩
        · exact .inl ⟨(Nat.le_of_ble_eq_true rfl), _, rfl, AObj.leSame (by first | rfl | exact hb _ (Nat.le_of_ble_eq_true rfl) | exact hob _ (Nat.le_of_ble_eq_true rfl) | (refine open_bd ?_ _ _; exact Nat.le_of_ble_eq_true rfl) | exact pls_bd _ _ | (refine gE_bd ?_ _; exact Nat.le_of_ble_eq_true rfl))⟩
        · exact .inl ⟨Nat.le_of_ble_eq_true rfl, _, rfl, .cells (.cons .t (.cons (.same rfl) (.cons (.tEq (by simp [hn])) (.cons .t .nil))))⟩
        · exact .inl ⟨(Nat.le_of_ble_eq_true rfl), _, rfl, AObj.leSame (by first | rfl | exact hb _ (Nat.le_of_ble_eq_true rfl) | exact hob _ (Nat.le_of_ble_eq_true rfl) | (refine open_bd ?_ _ _; exact Nat.le_of_ble_eq_true rfl) | exact pls_bd _ _ | (refine gE_bd ?_ _; exact Nat.le_of_ble_eq_true rfl))⟩
        · exact .inl ⟨(Nat.le_of_ble_eq_true rfl), _, rfl, AObj.leSame (by first | rfl | exact hb _ (Nat.le_of_ble_eq_true rfl) | exact hob _ (Nat.le_of_ble_eq_true rfl) | (refine open_bd ?_ _ _; exact Nat.le_of_ble_eq_true rfl) | exact pls_bd _ _ | (refine gE_bd ?_ _; exact Nat.le_of_ble_eq_true rfl))⟩
        · exact .inl ⟨(Nat.le_of_ble_eq_true rfl), _, rfl, AObj.leSame (by first | rfl | exact hb _ (Nat.le_of_ble_eq_true rfl) | exact hob _ (Nat.le_of_ble_eq_true rfl) | (refine open_bd ?_ _ _; exact Nat.le_of_ble_eq_true rfl) | exact pls_bd _ _ | (refine gE_bd ?_ _; exact Nat.le_of_ble_eq_true rfl))⟩
        · exact .inl ⟨(Nat.le_of_ble_eq_true rfl), _, rfl, AObj.leSame (by first | rfl | exact hb _ (Nat.le_of_ble_eq_true rfl) | exact hob _ (Nat.le_of_ble_eq_true rfl) | (refine open_bd ?_ _ _; exact Nat.le_of_ble_eq_true rfl) | exact pls_bd _ _ | (refine gE_bd ?_ _; exact Nat.le_of_ble_eq_true rfl))⟩
        · exact .inl ⟨(Nat.le_of_ble_eq_true rfl), _, rfl, AObj.leSame (by first | rfl | exact hb _ (Nat.le_of_ble_eq_true rfl) | exact hob _ (Nat.le_of_ble_eq_true rfl) | (refine open_bd ?_ _ _; exact Nat.le_of_ble_eq_true rfl) | exact pls_bd _ _ | (refine gE_bd ?_ _; exact Nat.le_of_ble_eq_true rfl))⟩
    · have hl : (reps nx k ps).length = k := by simp [reps]; omega
      have hlt : nx < ps.length := by omega
      refine Run.condF rfl rfl (by simp; omega) ?_
      refine fR rfl ?_
      refine a64 rfl rfl rfl ?_
      refine fM rfl ?_
      refine Mid.lenmV k rfl rfl (open_len _ _ _) rfl ?_
      refine fM rfl ?_
      refine rList (reps nx k ps) (fun i (B : List Val) => { env := [(6, .ptr 4 0), (7, .own 9 5 (B.map Val.enc)), (97, .t (.int .i64 k)), (98, .t (.int .i64 i))], s := ⟨[(0, .map false es none), (1, .cells [.t (.int .i64 m), .mp 0, .t (.int .i64 (c + 1)), .t (.int .i64 s)]), (3, .map false (openE 5 nx k) none), (4, .cells [.own 8 1 (tk.map nE), .gsl 7 (pl ps).length 0 (pl ps).length 1, .t (.int .i64 (nx + k : Nat)), .mp 3]), (5, .fobs (ps.map Pl.cs)), (7, .gro (pl ps).length (gE (pE 5) (pl ps))), (8, .arr tk.length), (9, .arr B.length)], 10⟩ }) (fun r i B => B.length = i ∧ B ++ r = reps nx k ps) 9 [] rfl ⟨rfl, rfl⟩ rfl rfl rfl ?_ ?_ (hs := (by repeat' (first | exact trivial | refine And.intro ?_ ?_ | exact Or.inr ⟨Nat.le_of_ble_eq_true rfl, Nat.le_of_ble_eq_true rfl, rfl⟩ | exact Or.inl ⟨(Nat.le_of_ble_eq_true rfl), _, rfl, AObj.leSame (by first | rfl | exact hb _ (Nat.le_of_ble_eq_true rfl) | exact hob _ (Nat.le_of_ble_eq_true rfl) | (refine open_bd ?_ _ _; exact Nat.le_of_ble_eq_true rfl) | exact pls_bd _ _ | (refine gE_bd ?_ _; exact Nat.le_of_ble_eq_true rfl))⟩)))
      · rintro B ⟨hBl, hB⟩
        have e : B = reps nx k ps := by rw [← hB]; simp
        refine fR rfl ?_
        refine Run.condF rfl rfl (by simp; omega) ?_
        refine fR rfl ?_
        refine Run.fin rfl (EndOk.chg rfl rfl ?_ ?_)
        · exact .tup (.cons (.own (by rw [e])) (.cons (.t (by simp [hlt])) .nil))
        · refine ⟨?_, ?_, ?_, ?_, ?_, ?_, ?_, trivial⟩
          · exact .inl ⟨(Nat.le_of_ble_eq_true rfl), _, rfl, AObj.leSame (by first | rfl | exact hb _ (Nat.le_of_ble_eq_true rfl) | exact hob _ (Nat.le_of_ble_eq_true rfl) | (refine open_bd ?_ _ _; exact Nat.le_of_ble_eq_true rfl) | exact pls_bd _ _ | (refine gE_bd ?_ _; exact Nat.le_of_ble_eq_true rfl))⟩
          · exact .inl ⟨Nat.le_of_ble_eq_true rfl, _, rfl, .cells (.cons .t (.cons (.same rfl) (.cons (.tEq (by simp [hlt])) (.cons .t .nil))))⟩
          · exact .inl ⟨(Nat.le_of_ble_eq_true rfl), _, rfl, AObj.leSame (by first | rfl | exact hb _ (Nat.le_of_ble_eq_true rfl) | exact hob _ (Nat.le_of_ble_eq_true rfl) | (refine open_bd ?_ _ _; exact Nat.le_of_ble_eq_true rfl) | exact pls_bd _ _ | (refine gE_bd ?_ _; exact Nat.le_of_ble_eq_true rfl))⟩
          · exact .inl ⟨(Nat.le_of_ble_eq_true rfl), _, rfl, AObj.leSame (by first | rfl | exact hb _ (Nat.le_of_ble_eq_true rfl) | exact hob _ (Nat.le_of_ble_eq_true rfl) | (refine open_bd ?_ _ _; exact Nat.le_of_ble_eq_true rfl) | exact pls_bd _ _ | (refine gE_bd ?_ _; exact Nat.le_of_ble_eq_true rfl))⟩
          · exact .inl ⟨(Nat.le_of_ble_eq_true rfl), _, rfl, AObj.leSame (by first | rfl | exact hb _ (Nat.le_of_ble_eq_true rfl) | exact hob _ (Nat.le_of_ble_eq_true rfl) | (refine open_bd ?_ _ _; exact Nat.le_of_ble_eq_true rfl) | exact pls_bd _ _ | (refine gE_bd ?_ _; exact Nat.le_of_ble_eq_true rfl))⟩
          · exact .inl ⟨(Nat.le_of_ble_eq_true rfl), _, rfl, AObj.leSame (by first | rfl | exact hb _ (Nat.le_of_ble_eq_true rfl) | exact hob _ (Nat.le_of_ble_eq_true rfl) | (refine open_bd ?_ _ _; exact Nat.le_of_ble_eq_true rfl) | exact pls_bd _ _ | (refine gE_bd ?_ _; exact Nat.le_of_ble_eq_true rfl))⟩
          · exact .inl ⟨(Nat.le_of_ble_eq_true rfl), _, rfl, AObj.leSame (by first | rfl | exact hb _ (Nat.le_of_ble_eq_true rfl) | exact hob _ (Nat.le_of_ble_eq_true rfl) | (refine open_bd ?_ _ _; exact Nat.le_of_ble_eq_true rfl) | exact pls_bd _ _ | (refine gE_bd ?_ _; exact Nat.le_of_ble_eq_true rfl))⟩
      · rintro i v r B h1 hi hd ⟨hBl, hB⟩ ih
        have hBl' : B.length = i := hBl
        obtain ⟨p, hp, rfl, hik⟩ := reps_at h1
        have hpk := hpo p (List.mem_of_getElem? hp)
        have hpc : (ps.map Pl.cs)[nx + i]? = some p.cs := by simp [hp]
        refine fR rfl ?_
        refine Run.condT rfl rfl (by simp; omega) ?_
        refine fR rfl ?_
        refine Mid.lookV (.fpt 5 (nx + i) 0) rfl rfl rfl rfl (open_keys _ _ _) (by rw [mget_open hik]; rfl) rfl ?_
        refine Mid.fast (f := 2) rfl (by (repeat' (first | exact trivial | exact Bool.not_or_self _ | exact grd1 _ | exact grd2 _ | exact grd3 _ _ | exact grd4 _ _ | refine And.intro ?_ ?_ | exact rfl | (simp; done) | (simp <;> omega))); done) ?_
        refine Mid.ldFA (cs := p.cs) rfl rfl hpc (by simp [Pl.cs]) rfl rfl ?_
        skip
        refine Mid.call (copy_ok H p.rep hpk.r) rfl rfl rfl rfl ?_
        refine fM rfl ?_
        refine apM Val.enc B [p.rep] rfl (congrArg (fun c => some (T.lst [c])) (Val.enc_eq p.rep).symm) rfl rfl rfl ?_ (hl := fun x => (congrArg List.length (Val.enc_eq x)).trans rfl)
        refine fM rfl ?_
        refine aL rfl rfl rfl rfl rfl ?_
        refine fM rfl ?_
        exact rWeak 10 rfl (ih (B ++ [p.rep]) ⟨by simp; omega, by rw [← hB]; simp⟩) rfl rfl rfl (hs := (by repeat' (first | exact trivial | refine And.intro ?_ ?_ | exact Or.inl ⟨(Nat.le_of_ble_eq_true rfl), _, rfl, LeO.arr (by simp)⟩ | exact Or.inr ⟨Nat.le_of_ble_eq_true rfl, Nat.le_of_ble_eq_true rfl, rfl⟩ | exact Or.inl ⟨(Nat.le_of_ble_eq_true rfl), _, rfl, AObj.leSame (by first | rfl | exact hb _ (Nat.le_of_ble_eq_true rfl) | exact hob _ (Nat.le_of_ble_eq_true rfl) | (refine open_bd ?_ _ _; exact Nat.le_of_ble_eq_true rfl) | exact pls_bd _ _ | (refine gE_bd ?_ _; exact Nat.le_of_ble_eq_true rfl))⟩)))
  · intro i x r _ g1 gi gd hinv ih
    obtain ⟨rfl, _⟩ : x = i ∧ i < k := by
      obtain ⟨h1, h2⟩ := List.getElem?_eq_some_iff.1 g1
      simp only [List.getElem_range] at h2
      exact ⟨h2.symm, by simpa using h1⟩
    have hpos : 0 < (pl ps).length := by rw [pl_length]; omega
    have hix : nx + x < (pl ps).length := by rw [pl_length]; omega
    refine fR rfl ?_
    refine Mid.lenmV x rfl rfl (open_len _ _ _) rfl ?_
    refine fM rfl ?_
    refine gr rfl ?_
    refine fM rfl ?_
    refine Run.condT rfl rfl (by simp [pl_length]; omega) ?_
    refine fR rfl ?_
    refine Mid.lenmV x rfl rfl (open_len _ _ _) rfl ?_
    refine fM rfl ?_
    refine pu rfl ?_
    refine Mid.ldG ((nx + x)) 0 (sz := 1) rfl rfl (by omega) (by omega) (fun _ => rfl) (pl_some (by omega)) rfl rfl ?_
    skip
    refine Mid.mapV (es' := openE 5 nx (x + 1)) rfl rfl rfl (open_keys _ _ _) (mset_open _ _ _) rfl ?_
    refine fM rfl ?_
    refine aL rfl rfl rfl rfl rfl ?_
    refine fM rfl ?_
    exact rWeak 9 rfl (ih () trivial) rfl rfl rfl (he := (by repeat' (first | exact trivial | exact LeX.t | exact LeX.top | exact LeX.nilOwn (Nat.le_of_ble_eq_true rfl) (Nat.le_of_ble_eq_true rfl) | exact LeX.ownT | exact LeX.nilT | exact LeX.same rfl | exact LeX.tEq (by simp) | exact LeX.ownEq (by simp) (Nat.le_of_ble_eq_true rfl) | exact LeX.tEq (by congr 1 <;> omega) | exact Or.inr ⟨Nat.le_of_ble_eq_true rfl, Nat.le_of_ble_eq_true rfl, rfl⟩ | refine Or.inl ⟨Nat.le_of_ble_eq_true rfl, _, rfl, ?_⟩ | refine LeO.cells ?_ | exact LeO.arr rfl | exact LeO.arr (by simp) | exact LeO.mE (by first | rfl | simp) (by first | exact Or.inl rfl | exact Or.inr rfl) | exact LeO.cE (by first | rfl | simp) | exact LeXs.cE (by first | rfl | simp) | refine LeO.map (by first | rfl | simp) ?_ (by first | exact Or.inl rfl | exact Or.inr rfl) | exact LeO.iter (by first | rfl | simp) (Nat.le_of_ble_eq_true rfl) | refine LeXs.cons ?_ ?_ | exact LeXs.nil | refine And.intro ?_ ?_))) (hs := (by repeat' (first | exact trivial | refine And.intro ?_ ?_ | exact Or.inr ⟨Nat.le_of_ble_eq_true rfl, Nat.le_of_ble_eq_true rfl, rfl⟩ | exact Or.inl ⟨(Nat.le_of_ble_eq_true rfl), _, rfl, AObj.leSame (by first | rfl | exact hb _ (Nat.le_of_ble_eq_true rfl) | exact hob _ (Nat.le_of_ble_eq_true rfl) | (refine open_bd ?_ _ _; exact Nat.le_of_ble_eq_true rfl) | exact pls_bd _ _ | (refine gE_bd ?_ _; exact Nat.le_of_ble_eq_true rfl))⟩)))
end Go.GB.C35


/-
  L35K: chapter 35: the results of a batch.
-/
namespace Go.GB.C35
open Go.GB
set_option linter.unusedSimpArgs false
set_option linter.unusedVariables false
set_option maxRecDepth 100000
set_option maxHeartbeats 8000000
variable {P : Program}
def upd (ps : List Pl) (i : Nat) (v : Val) : List Pl := ps.modify i fun p => ⟨p.rep, v, true⟩
def setR : List Pl → Nat → List Val → List Pl
  | ps, _, [] => ps
  | ps, i, v :: r => setR (upd ps i v) (i + 1) r
theorem pl_upd (ps : List Pl) (i : Nat) (v : Val) : pl (upd ps i v) = pl ps := by simp [pl, upd]
theorem pl_setR : ∀ (rs : List Val) (ps : List Pl) (i : Nat), pl (setR ps i rs) = pl ps
  | [], _, _ => rfl
  | v :: r, ps, i => by simp only [setR]; rw [pl_setR r, pl_upd]
theorem upd_ok {ps : List Pl} {i : Nat} {v : Val} (hv : v.Ok) (h : ∀ p, p ∈ ps → p.Ok) : ∀ p, p ∈ upd ps i v → p.Ok := by
  intro p hp
  obtain ⟨j, hj⟩ := List.getElem?_of_mem hp
  simp only [upd, List.getElem?_modify] at hj
  cases hq : ps[j]? with
  | none => rw [hq] at hj; simp at hj
  | some q =>
    rw [hq] at hj
    have hqk := h q (List.mem_of_getElem? hq)
    simp only [Option.map_eq_map, Option.map_some, Option.some.injEq] at hj
    split at hj
    · subst hj; exact ⟨hqk.r, hv⟩
    · subst hj; exact hqk
theorem upd_cs {ps : List Pl} {i : Nat} {v : Val} {p : Pl} {x y : List V} (h : ps[i]? = some p) (hy : y = (Pl.mk p.rep v true).cs) : ((ps.map Pl.cs).set i x).set i y = (upd ps i v).map Pl.cs := by
  subst hy
  rw [List.set_set]
  apply List.ext_getElem?
  intro j
  simp only [upd, List.getElem?_map, List.getElem?_modify, List.getElem?_set, List.length_map]
  by_cases hj : i = j
  · subst hj
    obtain ⟨this, rfl⟩ := List.getElem?_eq_some_iff.1 h
    simp [this]
  · simp [hj]
theorem updLe {m m' : Nat} {ps : List Pl} {i : Nat} {v : Val} {p : Pl} {x y : List V} (h : ps[i]? = some p) (hy : y = (Pl.mk p.rep v true).cs) : LeO m m' (.fobs (((ps.map Pl.cs).set i x).set i y)) (.fobs ((upd ps i v).map Pl.cs)) := by
  rw [upd_cs h hy]; exact AObj.leSame (pls_bd _ _)
theorem done_ok (H : Pr P) (m c s f : Int) (nx lo : Nat) (tk : List Int) (ps : List Pl) (rs : List Val) (es : List (List T × V)) (hr0 : 0 < rs.length) (hrs : ∀ v, v ∈ rs → v.Ok) (hrl : rs.length < 1000000) (hpl : ps.length < 1000000) (hlo : lo + rs.length ≤ ps.length) (hpo : ∀ p, p ∈ ps → p.Ok) (hk : keysOk [.int .i64] es = true) (hg : mget [.int .i64 f] es = some (.ptr 4 0)) (hb : ∀ k, 9 ≤ k → V.bds k (es.map (·.2)) = true) : FnOk P 18 [.ptr 1 0, .t (.int .i64 f), .t (.lst (rs.map Val.enc))] ⟨[(0, .map false es none), (1, .cells [.t (.int .i64 m), .mp 0, .t (.int .i64 c), .t (.int .i64 s)]), (3, .map false (openE 5 lo rs.length) none), (4, .cells [.own 8 1 (tk.map nE), .gsl 7 (pl ps).length 0 (pl ps).length 1, .t (.int .i64 nx), .mp 3]), (5, .fobs (ps.map Pl.cs)), (7, .gro (pl ps).length (gE (pE 5) (pl ps))), (8, .arr tk.length)], 9⟩ { v := .t (.int .i64 0), ob := [(3, .map false [] none), (4, .cells [.own 8 1 (tk.map nE), .gsl 7 (pl (setR ps lo rs)).length 0 (pl (setR ps lo rs)).length 1, .t (.int .i64 (nx : Nat)), .mp 3]), (5, .fobs ((setR ps lo rs).map Pl.cs)), (7, .gro (pl (setR ps lo rs)).length (gE (pE 5) (pl (setR ps lo rs))))], n := 0, rd := true } := by
  have hsa : stoBd 9 [(0, .map false es none), (1, .cells [.t (.int .i64 m), .mp 0, .t (.int .i64 c), .t (.int .i64 s)]), (3, .map false (openE 5 lo rs.length) none), (4, .cells [.own 8 1 (tk.map nE), .gsl 7 (pl ps).length 0 (pl ps).length 1, .t (.int .i64 nx), .mp 3]), (5, .fobs (ps.map Pl.cs)), (7, .gro (pl ps).length (gE (pE 5) (pl ps))), (8, .arr tk.length)] = true := (by repeat' (first | exact (rfl : stoBd _ [] = true) | refine stoBd_cons (Nat.le_of_ble_eq_true rfl) ?_ ?_ | exact (by first | rfl | exact hb _ (Nat.le_of_ble_eq_true rfl) | exact hob _ (Nat.le_of_ble_eq_true rfl) | (refine open_bd ?_ _ _; exact Nat.le_of_ble_eq_true rfl) | exact pls_bd _ _ | (refine gE_bd ?_ _; exact Nat.le_of_ble_eq_true rfl))))
  have hne : rs ≠ [] := by rintro rfl; simp at hr0
  refine FnOk.run H.i18 H.mixed rfl rfl ?_
  refine fR rfl ?_
  refine Mid.callS (none_ga H m c s _ _ hsa) rfl rfl hsa rfl ?_
  refine fM rfl ?_
  refine Run.condF rfl rfl rfl ?_
  refine fR rfl ?_
  refine Mid.lookV (.ptr 4 0) rfl rfl rfl rfl hk (by rw [hg]; rfl) rfl ?_
  refine fM rfl ?_
  refine Mid.lookVG (gc := true) (.ptr 4 0) rfl rfl rfl rfl rfl hk (by rw [hg]; rfl) ⟨rfl, trivial⟩ ⟨rfl, trivial⟩ rfl ?_
  refine fM rfl ?_
  refine Mid.ungd rfl rfl rfl ?_
  refine Mid.lenmV rs.length rfl rfl (open_len _ _ _) rfl ?_
  refine fM rfl ?_
  refine Run.condF rfl rfl (by simp [hne]) ?_
  refine fR rfl ?_
  refine Mid.lookV (.ptr 4 0) rfl rfl rfl rfl hk (by rw [hg]; rfl) rfl ?_
  refine fM rfl ?_
  refine lM rfl rfl rfl ?_
  refine fM rfl ?_
  refine Mid.lenmV rs.length rfl rfl (open_len _ _ _) rfl ?_
  refine fM rfl ?_
  refine Run.condF rfl rfl (by simp) ?_
  refine fR rfl ?_
  refine lM rfl rfl rfl ?_
  refine fM rfl ?_
  refine rList rs (fun i (B : List Pl) => { env := [(7, .ptr 4 0), (48, .t (.lst (rs.map Val.enc))), (49, .t (.int .i64 rs.length)), (50, .t (.int .i64 i))], s := ⟨[(0, .map false es none), (1, .cells [.t (.int .i64 m), .mp 0, .t (.int .i64 c), .t (.int .i64 s)]), (3, .map false (openE 5 lo rs.length) none), (4, .cells [.own 8 1 (tk.map nE), .gsl 7 (pl ps).length 0 (pl ps).length 1, .t (.int .i64 nx), .mp 3]), (5, .fobs (B.map Pl.cs)), (7, .gro (pl ps).length (gE (pE 5) (pl ps))), (8, .arr tk.length)], 9⟩ }) (fun r i B => setR B (lo + i) r = setR ps lo rs ∧ pl B = pl ps ∧ ∀ p, p ∈ B → p.Ok) 9 ps rfl ⟨rfl, rfl, hpo⟩ rfl rfl rfl ?_ ?_ (he := (by repeat' (first | exact trivial | exact LeX.t | exact LeX.top | exact LeX.nilOwn (Nat.le_of_ble_eq_true rfl) (Nat.le_of_ble_eq_true rfl) | exact LeX.ownT | exact LeX.nilT | exact LeX.same rfl | exact LeX.tEq (by simp) | exact LeX.ownEq (by simp) (Nat.le_of_ble_eq_true rfl) | exact LeX.tEq (by congr 1 <;> omega) | exact Or.inr ⟨Nat.le_of_ble_eq_true rfl, Nat.le_of_ble_eq_true rfl, rfl⟩ | refine Or.inl ⟨Nat.le_of_ble_eq_true rfl, _, rfl, ?_⟩ | refine LeO.cells ?_ | exact LeO.arr rfl | exact LeO.arr (by simp) | exact LeO.mE (by first | rfl | simp) (by first | exact Or.inl rfl | exact Or.inr rfl) | exact LeO.cE (by first | rfl | simp) | exact LeXs.cE (by first | rfl | simp) | refine LeO.map (by first | rfl | simp) ?_ (by first | exact Or.inl rfl | exact Or.inr rfl) | exact LeO.iter (by first | rfl | simp) (Nat.le_of_ble_eq_true rfl) | refine LeXs.cons ?_ ?_ | exact LeXs.nil | refine And.intro ?_ ?_))) (hs := (by repeat' (first | exact trivial | refine And.intro ?_ ?_ | exact Or.inr ⟨Nat.le_of_ble_eq_true rfl, Nat.le_of_ble_eq_true rfl, rfl⟩ | exact Or.inl ⟨(Nat.le_of_ble_eq_true rfl), _, rfl, AObj.leSame (by first | rfl | exact hb _ (Nat.le_of_ble_eq_true rfl) | exact hob _ (Nat.le_of_ble_eq_true rfl) | (refine open_bd ?_ _ _; exact Nat.le_of_ble_eq_true rfl) | exact pls_bd _ _ | (refine gE_bd ?_ _; exact Nat.le_of_ble_eq_true rfl))⟩)))
  · rintro B ⟨e1, e2, e3⟩
    simp only [setR] at e1
    refine fR rfl ?_
    refine Run.condF rfl rfl (by simp) ?_
    refine fR rfl ?_
    refine Mid.clrV rfl rfl rfl ?_
    refine fM rfl ?_
    refine Run.fin rfl (EndOk.chg rfl rfl ?_ ?_)
    · exact .t rfl
    · refine ⟨?_, ?_, ?_, ?_, ?_, ?_, ?_, trivial⟩
      · exact .inl ⟨(Nat.le_of_ble_eq_true rfl), _, rfl, AObj.leSame (by first | rfl | exact hb _ (Nat.le_of_ble_eq_true rfl) | exact hob _ (Nat.le_of_ble_eq_true rfl) | (refine open_bd ?_ _ _; exact Nat.le_of_ble_eq_true rfl) | exact pls_bd _ _ | (refine gE_bd ?_ _; exact Nat.le_of_ble_eq_true rfl))⟩
      · exact .inl ⟨(Nat.le_of_ble_eq_true rfl), _, rfl, AObj.leSame (by first | rfl | exact hb _ (Nat.le_of_ble_eq_true rfl) | exact hob _ (Nat.le_of_ble_eq_true rfl) | (refine open_bd ?_ _ _; exact Nat.le_of_ble_eq_true rfl) | exact pls_bd _ _ | (refine gE_bd ?_ _; exact Nat.le_of_ble_eq_true rfl))⟩
      · exact .inl ⟨(Nat.le_of_ble_eq_true rfl), _, rfl, AObj.leSame (by first | rfl | exact hb _ (Nat.le_of_ble_eq_true rfl) | exact hob _ (Nat.le_of_ble_eq_true rfl) | (refine open_bd ?_ _ _; exact Nat.le_of_ble_eq_true rfl) | exact pls_bd _ _ | (refine gE_bd ?_ _; exact Nat.le_of_ble_eq_true rfl))⟩
      · exact .inl ⟨Nat.le_of_ble_eq_true rfl, _, rfl, by rw [pl_setR]; exact AObj.leSame rfl⟩
      · exact .inl ⟨Nat.le_of_ble_eq_true rfl, _, rfl, by rw [← e1]; exact AObj.leSame (pls_bd _ _)⟩
      · exact .inl ⟨Nat.le_of_ble_eq_true rfl, _, rfl, by rw [pl_setR]; exact AObj.leSame (by first | rfl | exact hb _ (Nat.le_of_ble_eq_true rfl) | exact hob _ (Nat.le_of_ble_eq_true rfl) | (refine open_bd ?_ _ _; exact Nat.le_of_ble_eq_true rfl) | exact pls_bd _ _ | (refine gE_bd ?_ _; exact Nat.le_of_ble_eq_true rfl))⟩
      · exact .inl ⟨(Nat.le_of_ble_eq_true rfl), _, rfl, AObj.leSame (by first | rfl | exact hb _ (Nat.le_of_ble_eq_true rfl) | exact hob _ (Nat.le_of_ble_eq_true rfl) | (refine open_bd ?_ _ _; exact Nat.le_of_ble_eq_true rfl) | exact pls_bd _ _ | (refine gE_bd ?_ _; exact Nat.le_of_ble_eq_true rfl))⟩
  · rintro i v r B h1 hi hd ⟨e1, e2, e3⟩ ih
    have hvk := hrs v (List.mem_of_getElem? h1)
    have hlen : B.length = ps.length := by rw [← pl_length B, e2, pl_length]
    obtain ⟨p, hp⟩ : ∃ p, B[lo + i]? = some p := ⟨_, List.getElem?_eq_getElem (by omega)⟩
    have hpc : (B.map Pl.cs)[lo + i]? = some p.cs := by simp [hp]
    refine fR rfl ?_
    refine Run.condT rfl rfl (by simp; omega) ?_
    refine fR rfl ?_
    refine Mid.elemMapC (Val.enc_eq v) rfl rfl rfl h1 rfl rfl ?_
    refine fM rfl ?_
    refine Mid.lookV (.fpt 5 (lo + i) 0) rfl rfl rfl rfl (open_keys _ _ _) (by rw [mget_open hi]; rfl) rfl ?_
    refine fM rfl ?_
    refine Mid.lookV (.fpt 5 (lo + i) 0) rfl rfl rfl rfl (open_keys _ _ _) (by rw [mget_open hi]; rfl) rfl ?_
    refine fM rfl ?_
    refine Mid.call (copy_ok H v hvk) rfl rfl rfl rfl ?_
    refine Mid.fast (f := 2) rfl (by (repeat' (first | exact trivial | exact Bool.not_or_self _ | exact grd1 _ | exact grd2 _ | exact grd3 _ _ | exact grd4 _ _ | refine And.intro ?_ ?_ | exact rfl | (simp; done) | (simp <;> omega))); done) ?_
    refine Mid.stF (os := B.map Pl.cs) (cs := p.cs) rfl rfl hpc rfl rfl (by simp [Pl.cs]) rfl rfl ?_
    refine Mid.fast (f := 2) rfl (by (repeat' (first | exact trivial | exact Bool.not_or_self _ | exact grd1 _ | exact grd2 _ | exact grd3 _ _ | exact grd4 _ _ | refine And.intro ?_ ?_ | exact rfl | (simp; done) | (simp <;> omega))); done) ?_
    have hlt : lo + i < (B.map Pl.cs).length := by simp; omega
    refine Mid.stF rfl rfl (List.getElem?_set_self hlt) rfl rfl (Nat.le_of_ble_eq_true rfl) rfl rfl ?_
    refine fM rfl ?_
    refine aL rfl rfl rfl rfl rfl ?_
    refine fM rfl ?_
    simp only [setR] at e1
    exact rWeak 9 rfl (ih (upd B (lo + i) v) ⟨e1, by rw [pl_upd, e2], upd_ok hvk e3⟩) rfl rfl rfl (he := (by repeat' (first | exact trivial | exact LeX.t | exact LeX.top | exact LeX.nilOwn (Nat.le_of_ble_eq_true rfl) (Nat.le_of_ble_eq_true rfl) | exact LeX.ownT | exact LeX.nilT | exact LeX.same rfl | exact LeX.tEq (by simp) | exact LeX.ownEq (by simp) (Nat.le_of_ble_eq_true rfl) | exact LeX.tEq (by congr 1 <;> omega) | exact Or.inr ⟨Nat.le_of_ble_eq_true rfl, Nat.le_of_ble_eq_true rfl, rfl⟩ | refine Or.inl ⟨Nat.le_of_ble_eq_true rfl, _, rfl, ?_⟩ | refine LeO.cells ?_ | exact LeO.arr rfl | exact LeO.arr (by simp) | exact LeO.mE (by first | rfl | simp) (by first | exact Or.inl rfl | exact Or.inr rfl) | exact LeO.cE (by first | rfl | simp) | exact LeXs.cE (by first | rfl | simp) | refine LeO.map (by first | rfl | simp) ?_ (by first | exact Or.inl rfl | exact Or.inr rfl) | exact LeO.iter (by first | rfl | simp) (Nat.le_of_ble_eq_true rfl) | refine LeXs.cons ?_ ?_ | exact LeXs.nil | refine And.intro ?_ ?_))) (hs := (by repeat' (first | exact trivial | refine And.intro ?_ ?_ | exact Or.inl ⟨(Nat.le_of_ble_eq_true rfl), _, rfl, AObj.leSame (by first | rfl | exact hb _ (Nat.le_of_ble_eq_true rfl) | exact hob _ (Nat.le_of_ble_eq_true rfl) | (refine open_bd ?_ _ _; exact Nat.le_of_ble_eq_true rfl) | exact pls_bd _ _ | (refine gE_bd ?_ _; exact Nat.le_of_ble_eq_true rfl))⟩ | exact Or.inl ⟨(Nat.le_of_ble_eq_true rfl), _, rfl, (updLe hp rfl)⟩)))
end Go.GB.C35


/-
  L35L: chapter 35: the results of tickets; counts.
-/
namespace Go.GB.C35
open Go.GB
set_option linter.unusedSimpArgs false
set_option linter.unusedVariables false
set_option maxRecDepth 100000
set_option maxHeartbeats 8000000
variable {P : Program}
theorem take_ok (H : Pr P) (m c s f nx : Int) (tk : List Int) (ps : List Pl) (op es : List (List T × V)) (n a : Nat) (p : Pl) (htk : tk[n]? = some (a : Int)) (hp : ps[a]? = some p) (hpk : p.Ok) (hpl : ps.length < 1000000) (htl : tk.length < 1000000) (hk : keysOk [.int .i64] es = true) (hg : mget [.int .i64 f] es = some (.ptr 4 0)) (hb : ∀ k, 9 ≤ k → V.bds k (es.map (·.2)) = true) (hob : ∀ k, 9 ≤ k → V.bds k (op.map (·.2)) = true) : FnOk P 19 [.ptr 1 0, .t (.int .i64 f), .t (.int .i64 n)] ⟨[(0, .map false es none), (1, .cells [.t (.int .i64 m), .mp 0, .t (.int .i64 c), .t (.int .i64 s)]), (3, .map false op none), (4, .cells [.own 8 1 (tk.map nE), .gsl 7 (pl ps).length 0 (pl ps).length 1, .t (.int .i64 nx), .mp 3]), (5, .fobs (ps.map Pl.cs)), (7, .gro (pl ps).length (gE (pE 5) (pl ps))), (8, .arr tk.length)], 9⟩ { v := .tup [(if p.ld then p.res else Val.zero).v, .t (.bool p.ld)], rd := true } := by
  have hsa : stoBd 9 [(0, .map false es none), (1, .cells [.t (.int .i64 m), .mp 0, .t (.int .i64 c), .t (.int .i64 s)]), (3, .map false op none), (4, .cells [.own 8 1 (tk.map nE), .gsl 7 (pl ps).length 0 (pl ps).length 1, .t (.int .i64 nx), .mp 3]), (5, .fobs (ps.map Pl.cs)), (7, .gro (pl ps).length (gE (pE 5) (pl ps))), (8, .arr tk.length)] = true := (by repeat' (first | exact (rfl : stoBd _ [] = true) | refine stoBd_cons (Nat.le_of_ble_eq_true rfl) ?_ ?_ | exact (by first | rfl | exact hb _ (Nat.le_of_ble_eq_true rfl) | exact hob _ (Nat.le_of_ble_eq_true rfl) | (refine open_bd ?_ _ _; exact Nat.le_of_ble_eq_true rfl) | exact pls_bd _ _ | (refine gE_bd ?_ _; exact Nat.le_of_ble_eq_true rfl))))
  have hsb : stoBd 10 [(0, .map false es none), (1, .cells [.t (.int .i64 m), .mp 0, .t (.int .i64 c), .t (.int .i64 s)]), (3, .map false op none), (4, .cells [.own 8 1 (tk.map nE), .gsl 7 (pl ps).length 0 (pl ps).length 1, .t (.int .i64 nx), .mp 3]), (5, .fobs (ps.map Pl.cs)), (7, .gro (pl ps).length (gE (pE 5) (pl ps))), (8, .arr tk.length), (9, .cells [.t (.int .i64 0), .t (.int .i64 0), .t (.str []), .nils, .nils])] = true := (by repeat' (first | exact (rfl : stoBd _ [] = true) | refine stoBd_cons (Nat.le_of_ble_eq_true rfl) ?_ ?_ | exact (by first | rfl | exact hb _ (Nat.le_of_ble_eq_true rfl) | exact hob _ (Nat.le_of_ble_eq_true rfl) | (refine open_bd ?_ _ _; exact Nat.le_of_ble_eq_true rfl) | exact pls_bd _ _ | (refine gE_bd ?_ _; exact Nat.le_of_ble_eq_true rfl))))
  have hn : n < tk.length := (List.getElem?_eq_some_iff.1 htk).1
  have ha : a < (pl ps).length := by rw [pl_length]; exact (List.getElem?_eq_some_iff.1 hp).1
  have hpos : 0 < (pl ps).length := by omega
  have hpc : (ps.map Pl.cs)[a]? = some p.cs := by simp [hp]
  refine FnOk.run H.i19 H.mixed rfl rfl ?_
  refine fR rfl ?_
  refine Mid.callS (none_gb H m c s _ _ hsb) rfl rfl hsb rfl ?_
  refine fM rfl ?_
  refine Mid.lookVG (.ptr 4 0) rfl rfl rfl rfl rfl (hk) (by rw [hg]; rfl) (by (repeat' (first | exact trivial | exact Bool.not_or_self _ | exact grd1 _ | exact grd2 _ | exact grd3 _ _ | exact grd4 _ _ | refine And.intro ?_ ?_ | exact rfl | (simp; done) | (simp <;> omega))); done) (by (repeat' (first | exact trivial | exact Bool.not_or_self _ | exact grd1 _ | exact grd2 _ | exact grd3 _ _ | exact grd4 _ _ | refine And.intro ?_ ?_ | exact rfl | (simp; done) | (simp <;> omega))); done) rfl ?_
  refine fM rfl ?_
  refine Mid.lookVG (.ptr 4 0) rfl rfl rfl rfl rfl (hk) (by rw [hg]; rfl) (by (repeat' (first | exact trivial | exact Bool.not_or_self _ | exact grd1 _ | exact grd2 _ | exact grd3 _ _ | exact grd4 _ _ | refine And.intro ?_ ?_ | exact rfl | (simp; done) | (simp <;> omega))); done) (by (repeat' (first | exact trivial | exact Bool.not_or_self _ | exact grd1 _ | exact grd2 _ | exact grd3 _ _ | exact grd4 _ _ | refine And.intro ?_ ?_ | exact rfl | (simp; done) | (simp <;> omega))); done) rfl ?_
  refine fM rfl ?_
  refine lMG rfl rfl rfl rfl ?_
  refine fM rfl ?_
  refine Run.condF rfl rfl (by simp; omega) ?_
  refine fR rfl ?_
  refine Mid.lookV (.ptr 4 0) rfl rfl rfl rfl (hk) (by rw [hg]; rfl) rfl ?_
  refine fM rfl ?_
  refine Mid.elemMap rfl rfl rfl htk rfl rfl ?_
  refine fM rfl ?_
  refine pu rfl ?_
  refine Mid.ldG (a) 0 (sz := 1) rfl rfl (by omega) (by omega) (fun _ => rfl) (pl_some (by rw [pl_length] at ha; exact ha)) rfl rfl ?_
  refine p0 rfl ?_
  refine Mid.fast (f := 1) rfl (by (repeat' (first | exact trivial | exact Bool.not_or_self _ | exact grd1 _ | exact grd2 _ | exact grd3 _ _ | exact grd4 _ _ | refine And.intro ?_ ?_ | exact rfl | (simp; done) | (simp <;> omega))); done) ?_
  refine Run.fast (f := 4) rfl (by (repeat' (first | exact trivial | exact Bool.not_or_self _ | exact grd1 _ | exact grd2 _ | exact grd3 _ _ | exact grd4 _ _ | refine And.intro ?_ ?_ | exact rfl | (simp; done) | (simp <;> omega))); done) ?_
  cases hld : p.ld with
  | false =>
    refine Mid.ldF (cs := p.cs) (.t (.bool false)) rfl rfl hpc (by simp [Pl.cs, hld]) rfl ?_
    refine fM rfl ?_
    refine Run.condT rfl rfl rfl ?_
    refine fR rfl ?_
    refine Run.fin rfl (EndOk.sameX rfl rfl rfl hsa ?_)
    exact .tup (.cons zeroR (.cons (.t rfl) .nil))
  | true =>
    refine Mid.ldF (cs := p.cs) (.t (.bool true)) rfl rfl hpc (by simp [Pl.cs, hld]) rfl ?_
    refine fM rfl ?_
    refine Run.condF rfl rfl rfl ?_
    refine Run.fast (f := 4) rfl (by (repeat' (first | exact trivial | exact Bool.not_or_self _ | exact grd1 _ | exact grd2 _ | exact grd3 _ _ | exact grd4 _ _ | refine And.intro ?_ ?_ | exact rfl | (simp; done) | (simp <;> omega))); done) ?_
    refine Mid.ldFA (cs := p.cs) rfl rfl hpc (by simp [Pl.cs]) rfl rfl ?_
    skip
    refine Mid.call (copy_ok H p.res hpk.s) rfl rfl rfl rfl ?_
    refine fM rfl ?_
    refine Run.fin rfl (EndOk.sameX rfl rfl rfl hsa ?_)
    exact .tup (.cons (.le (.same rfl)) (.cons (.t rfl) .nil))
theorem calls_ok (H : Pr P) (m c s : Int) (o : AObj) (r : List (Nat × AObj)) (hb : stoBd 9 ((0, o) :: (1, .cells [.t (.int .i64 m), .mp 0, .t (.int .i64 c), .t (.int .i64 s)]) :: r) = true) : FnOk P 12 [.ptr 1 0] ⟨(0, o) :: (1, .cells [.t (.int .i64 m), .mp 0, .t (.int .i64 c), .t (.int .i64 s)]) :: r, 9⟩ { v := .t (.int .i64 c), rd := true } := by
  refine FnOk.run H.i12 H.mixed rfl rfl ?_
  refine fR rfl ?_
  refine Mid.callS (none_ga H m c s _ _ hb) rfl rfl hb rfl ?_
  refine fM rfl ?_
  refine Run.condF rfl rfl rfl ?_
  refine fR rfl ?_
  refine Run.fin rfl (EndOk.sameX rfl (List.append_nil _).symm rfl hb (.t rfl))
theorem saved_ok (H : Pr P) (m c s : Int) (o : AObj) (r : List (Nat × AObj)) (hb : stoBd 9 ((0, o) :: (1, .cells [.t (.int .i64 m), .mp 0, .t (.int .i64 c), .t (.int .i64 s)]) :: r) = true) : FnOk P 14 [.ptr 1 0] ⟨(0, o) :: (1, .cells [.t (.int .i64 m), .mp 0, .t (.int .i64 c), .t (.int .i64 s)]) :: r, 9⟩ { v := .t (.int .i64 s), rd := true } := by
  refine FnOk.run H.i14 H.mixed rfl rfl ?_
  refine fR rfl ?_
  refine Mid.callS (none_ga H m c s _ _ hb) rfl rfl hb rfl ?_
  refine fM rfl ?_
  refine Run.condF rfl rfl rfl ?_
  refine fR rfl ?_
  refine Run.fin rfl (EndOk.sameX rfl (List.append_nil _).symm rfl hb (.t rfl))
end Go.GB.C35


/-
  GbTr: values and objects carried over from one labelling to another that agrees with it on the names from 2 on.
-/
namespace Go.GB

mutual
/-- names of two kinds alone, of values that are carried over -/
def V.hi (NO NF : Nat → Bool) : V → Bool
  | .t _ => true
  | .nils => true
  | .top => true
  | .ub _ _ => true
  | .ui _ => true
  | .mp k => NO k
  | .ptr k _ => NO k
  | .fpt k _ _ => NF k
  | .gpt k _ _ => NF k
  | .gsl k _ _ _ _ => NF k
  | .agg cs => V.his NO NF cs
  | .tup cs => V.his NO NF cs
  | _ => false
def V.his (NO NF : Nat → Bool) : List V → Bool
  | [] => true
  | x :: r => x.hi NO NF && V.his NO NF r
end
variable {NO NF : Nat → Bool}
theorem V.his_at : ∀ {cs : List V}, V.his NO NF cs = true → ∀ (j : Nat) (c : V), cs[j]? = some c → c.hi NO NF = true
  | [], _, j, c, h => by simp at h
  | x :: r, hb, 0, c, h => by simp at h; subst h; simp [V.his] at hb; exact hb.1
  | x :: r, hb, j + 1, c, h => by simp [V.his] at hb; exact V.his_at hb.2 j c (by simpa using h)
theorem V.his_all : ∀ {cs : List V}, (∀ c, c ∈ cs → c.hi NO NF = true) → V.his NO NF cs = true
  | [], _ => rfl
  | x :: r, h => by simp [V.his, h x (by simp), V.his_all (cs := r) fun c hc => h c (by simp [hc])]
mutual
/-- no names at all -/
def V.pr : V → Bool
  | .t _ => true
  | .agg cs => V.prs cs
  | .tup cs => V.prs cs
  | _ => false
def V.prs : List V → Bool
  | [] => true
  | x :: r => x.pr && V.prs r
end
theorem V.prs_at : ∀ {cs : List V}, V.prs cs = true → ∀ (j : Nat) (c : V), cs[j]? = some c → c.pr = true
  | [], _, j, c, h => by simp at h
  | x :: r, hb, 0, c, h => by simp at h; subst h; simp [V.prs] at hb; exact hb.1
  | x :: r, hb, j + 1, c, h => by simp [V.prs] at hb; exact V.prs_at hb.2 j c (by simpa using h)
theorem RelV.pr {Λ Λ' : L} (hf : ∀ v x, RepT Λ.lab Λ.w v x → RepT Λ'.lab Λ'.w v x) {v : Value} {x : V} (h : RelV Λ v x) (hp : x.pr = true) : RelV Λ' v x := by
  induction h with
  | t h => exact .t (hf _ _ h)
  | agg hs _ ih => exact .agg hs fun j v c h1 h2 => ih j v c h1 h2 (V.prs_at (by simpa [V.pr] using hp) j c h2)
  | tup hs _ ih => exact .tup hs fun j v c h1 h2 => ih j v c h1 h2 (V.prs_at (by simpa [V.pr] using hp) j c h2)
  | _ => simp [V.pr] at hp

structure Tr (NO NF : Nat → Bool) (Λ Λ' : L) : Prop where
  rep : ∀ v x, RepT Λ.lab Λ.w v x → RepT Λ'.lab Λ'.w v x
  obj : ∀ b n, NO n = true → Λ.lab b = .obj n → Λ'.lab b = .obj n ∧ Λ'.w.heap[b]? = Λ.w.heap[b]?
  fob : ∀ b n i, NF n = true → Λ.lab b = .fob n i → Λ'.lab b = .fob n i ∧ Λ'.w.heap[b]? = Λ.w.heap[b]?
  fobI : ∀ b n i, NF n = true → Λ'.lab b = .fob n i → Λ.lab b = .fob n i
  frf : ∀ n, NF n = true → n < Λ.nxt → Λ'.frf n 0 = Λ.frf n 0
  nxt : Λ'.nxt = Λ.nxt

theorem Tr.cur {Λ Λ' : L} (t : Tr NO NF Λ Λ') {k b : Nat} (hk : NF k = true) (h : GCur Λ.lab k b) : GCur Λ'.lab k b := by
  obtain ⟨i, h1, h2⟩ := h
  exact ⟨i, (t.fob _ _ _ hk h1).1, fun b' i' h' => h2 b' i' (t.fobI _ _ _ hk h')⟩

theorem RelV.tr {Λ Λ' : L} (t : Tr NO NF Λ Λ') {v : Value} {x : V} (h : RelV Λ v x) (hp : x.hi NO NF = true) : RelV Λ' v x := by
  induction h with
  | t h => exact .t (t.rep _ _ h)
  | nils => exact .nils
  | top => exact .top
  | ui => exact .ui
  | ub h h' => exact .ub h h'
  | agg hs _ ih => exact .agg hs fun j v c h1 h2 => ih j v c h1 h2 (V.his_at (by simpa [V.hi] using hp) j c h2)
  | tup hs _ ih => exact .tup hs fun j v c h1 h2 => ih j v c h1 h2 (V.his_at (by simpa [V.hi] using hp) j c h2)
  | ptr hl h => exact .ptr (t.nxt ▸ hl) (t.obj _ _ hp h).1
  | mp hl h => exact .mp (t.nxt ▸ hl) (t.obj _ _ hp h).1
  | fpt hl h => exact .fpt (t.nxt ▸ hl) (t.fob _ _ _ hp h).1
  | @gpt v k ver off hv hl hn h =>
    have hk : NF k = true := hp
    have hf := t.frf k hk hl
    refine .gpt hv (t.nxt ▸ hl) (by rw [hf]; exact hn) fun he => ?_
    obtain ⟨b, e1, e2⟩ := h (by rw [← hf]; exact he)
    exact ⟨b, e1, t.cur hk e2⟩
  | @gsl v k ver off len sz hv hl hn h =>
    have hk : NF k = true := hp
    have hf := t.frf k hk hl
    refine .gsl hv (t.nxt ▸ hl) (by rw [hf]; exact hn) fun he => ?_
    rcases h (by rw [← hf]; exact he) with h | ⟨b, cap, N, hv, hc, hcur, hN, he'⟩
    · exact .inl h
    · refine .inr ⟨b, cap, N, hv, hc, t.cur hk hcur, ?_, he'⟩
      obtain ⟨i, h1, _⟩ := hcur
      unfold rowSize at *
      rw [(t.fob _ _ _ hk h1).2]
      exact hN
  | _ => simp [V.hi] at hp

/-- objects that are carried over -/
def AObj.hi (NO NF : Nat → Bool) (k : Nat) : AObj → Bool
  | .cells cs => NO k && V.his NO NF cs
  | .map _ es _ => NO k && V.his NO NF (es.map (·.2))
  | .gro _ cs => NF k && V.his NO NF cs
  | .fobs os => NF k && os.all (V.his NO NF)
  | _ => false

theorem RelO.tr {Λ Λ' : L} (t : Tr NO NF Λ Λ') {k : Nat} {o : AObj} (hkn : k < Λ.nxt) (h : RelO Λ k o) (hp : o.hi NO NF k = true) : RelO Λ' k o := by
  cases o with
  | cells cs =>
    simp only [AObj.hi, Bool.and_eq_true] at hp
    obtain ⟨hk, hp⟩ := hp
    obtain ⟨b, arr, e, h1, h2, h3, h4⟩ := h
    obtain ⟨g1, g2⟩ := t.obj _ _ hk h1
    exact ⟨b, arr, e, g1, by rw [g2]; exact h2, h3, fun j v c a1 a2 => (h4 j v c a1 a2).tr t (V.his_at hp j c a2)⟩
  | map kag es st =>
    simp only [AObj.hi, Bool.and_eq_true] at hp
    obtain ⟨hk, hp⟩ := hp
    obtain ⟨b, ents, clock, h1, h2, h3⟩ := h
    obtain ⟨g1, g2⟩ := t.obj _ _ hk h1
    exact ⟨b, ents, clock, g1, by rw [g2]; exact h2, ⟨h3.size, fun i e kv a b => ⟨(h3.at_ i e kv a b).1.keep t.rep, (h3.at_ i e kv a b).2.tr t (V.his_at hp i kv.2 (by simp [b]))⟩, h3.born, h3.apart, h3.known⟩⟩
  | gro r cs =>
    simp only [AObj.hi, Bool.and_eq_true] at hp
    obtain ⟨hk, hp⟩ := hp
    obtain ⟨h0, h⟩ := h
    refine ⟨(t.frf k hk hkn).trans h0, ?_⟩
    rcases h with ⟨h1, h2⟩ | ⟨b, arr, e, hcur, h2, h3, h4⟩
    · exact .inl ⟨h1, fun b i hbr => h2 b i (t.fobI _ _ _ hk hbr)⟩
    · have hcur' := hcur
      obtain ⟨i, h1, _⟩ := hcur'
      exact .inr ⟨b, arr, e, t.cur hk hcur, by rw [(t.fob _ _ _ hk h1).2]; exact h2, h3, fun j v c a1 a2 => (h4 j v c a1 a2).tr t (V.his_at hp j c a2)⟩
  | fobs os =>
    simp only [AObj.hi, Bool.and_eq_true, List.all_eq_true] at hp
    obtain ⟨hk, hp⟩ := hp
    obtain ⟨h0, h⟩ := h
    refine ⟨fun b i hbi => h0 b i (t.fobI _ _ _ hk hbi), fun i cs hi => ?_⟩
    obtain ⟨b, arr, e, h1, h2, h3, h4⟩ := h i cs hi
    obtain ⟨g1, g2⟩ := t.fob _ _ _ hk h1
    exact ⟨b, arr, e, g1, by rw [g2]; exact h2, h3, fun j v c a1 a2 => (h4 j v c a1 a2).tr t (V.his_at (hp cs (List.mem_of_getElem? hi)) j c a2)⟩
  | _ => simp [AObj.hi] at hp
end Go.GB


/-
  L36A: chapter 35: a loader with any number of queues as one object: what is known of its blocks, and how a method sees one queue of it.
-/
namespace Go.GB.C35
open Go.GB
set_option linter.unusedSimpArgs false
set_option linter.unusedVariables false

/-- a queue: its fetch, its tickets, its places, the first waiting one, the open batch -/
structure Q where
  f : Int
  tk : List Int
  ps : List Pl
  nx : Nat
  lo : Nat
  k : Nat
structure LS where
  m : Int
  c : Int
  s : Int
  qs : List Q

def NO (k : Nat) : Bool := k == 3 || k == 4
def NF (k : Nat) : Bool := k == 5 || k == 7 || k == 8
def esAt (bq : Nat → Nat) (j i : Nat) (q : Q) : List T × V := ([.int .i64 q.f], if i = j then .ptr 4 0 else .t (.ad ⟨bq i, 0, none⟩ []))
def esOf (bq : Nat → Nat) (qs : List Q) (j : Nat) : List (List T × V) := qs.mapIdx (esAt bq j)
def lCell (σ : LS) : AObj := .cells [.t (.int .i64 σ.m), .mp 0, .t (.int .i64 σ.c), .t (.int .i64 σ.s)]
def qCell (q : Q) : AObj := .cells [.gsl 8 q.tk.length 0 q.tk.length 1, .gsl 7 (pl q.ps).length 0 (pl q.ps).length 1, .t (.int .i64 q.nx), .mp 3]
def qSto (q : Q) : List (Nat × AObj) := [(3, .map false (openE 5 q.lo q.k) none), (4, qCell q), (5, .fobs (q.ps.map Pl.cs)), (7, .gro (pl q.ps).length (gE (pE 5) (pl q.ps))), (8, .gro q.tk.length (gE (gT nE) q.tk))]

theorem his_open (nx n : Nat) : V.his NO NF ((openE 5 nx n).map (·.2)) = true := V.his_all fun c hc => by
  simp only [openE, opF, List.map_map, List.mem_map, Function.comp_apply] at hc
  obtain ⟨x, _, rfl⟩ := hc
  rfl
theorem his_gE {α : Type} {f : α → List V} (h : ∀ x, V.his NO NF (f x) = true) (l : List α) : V.his NO NF (gE f l) = true := V.his_all fun c hc => by
  simp only [gE, List.mem_flatten, List.mem_map] at hc
  obtain ⟨a, ⟨x, _, rfl⟩, hc⟩ := hc
  obtain ⟨j, hj⟩ := List.getElem?_of_mem hc
  exact V.his_at (h x) j c hj
theorem qSto_hi (q : Q) {n : Nat} {o : AObj} (h : aget (qSto q) n = some o) : o.hi NO NF n = true ∧ 3 ≤ n ∧ n < 9 := by
  simp only [qSto, aget] at h
  split at h
  · rename_i e; subst e; cases h
    simp only [AObj.hi, his_open]; decide
  · split at h
    · rename_i e; subst e; cases h
      exact ⟨rfl, by decide, by decide⟩
    · split at h
      · rename_i e; subst e; cases h
        refine ⟨?_, by decide, by decide⟩
        simp only [AObj.hi, Bool.and_eq_true, List.all_eq_true]
        refine ⟨rfl, fun x hx => ?_⟩
        simp only [List.mem_map] at hx
        obtain ⟨p, _, rfl⟩ := hx
        rfl
      · split at h
        · rename_i e; subst e; cases h
          refine ⟨?_, by decide, by decide⟩
          simp only [AObj.hi, Bool.and_eq_true]
          exact ⟨rfl, his_gE (fun x => rfl) _⟩
        · split at h
          · rename_i e; subst e; cases h
            refine ⟨?_, by decide, by decide⟩
            simp only [AObj.hi, Bool.and_eq_true]
            exact ⟨rfl, his_gE (fun x => rfl) _⟩
          · cases h

/-- what a loader's own blocks are: to which queue they belong (0: to none), under which label its methods see them -/
structure Base (H : Nat → Option Obj) (own : Nat → Nat → Prop) (σ : LS) (ow : Nat → Nat) (il : Nat → Lab) (bL bM : Nat) (bq : Nat → Nat) : Prop where
  idx : ∀ b i, own b i → i = if b = bL then 0 else b + 1
  oL : own bL 0
  wL : ow bL = 0
  iL : il bL = .obj 1
  oM : ∃ i, own bM i
  wM : ow bM = 0
  iM : il bM = .obj 0
  zero : ∀ b i, own b i → ow b = 0 → b = bL ∨ b = bM
  pos : ∀ b i, own b i → ow b ≠ 0 → ow b ≤ σ.qs.length ∧ ((∃ n, NO n = true ∧ il b = .obj n) ∨ ∃ n k, NF n = true ∧ il b = .fob n k)
  inj : ∀ b b' i i', own b i → own b' i' → ow b = ow b' → il b = il b' → b = b'
  cL : ∃ e, H bL = some (.cells #[.int .i64 σ.m, .map (some bM), .int .i64 σ.c, .int .i64 σ.s] e (0, 0))
  cM : ∃ ents clock, H bM = some (.map ents clock) ∧ ents.size = σ.qs.length ∧ (∀ (i : Nat) (e : MapEntry) (q : Q), ents[i]? = some e → σ.qs[i]? = some q → e.key = .int .i64 q.f ∧ e.val = .pointer (some ⟨bq i, 0, none⟩)) ∧
    (∀ (i : Nat) (e : MapEntry), ents[i]? = some e → e.born < clock) ∧ ∀ (i j : Nat) (e f : MapEntry), ents[i]? = some e → ents[j]? = some f → e.born = f.born → i = j
  qb : ∀ (j : Nat) (q : Q), σ.qs[j]? = some q → (∃ i, own (bq j) i) ∧ ow (bq j) = j + 1 ∧ il (bq j) = .obj 4

/-- a queue's blocks, as they stood when a method last saw them -/
structure JQ (R : Value → T → Prop) (H : Nat → Option Obj) (own : Nat → Nat → Prop) (ow : Nat → Nat) (il : Nat → Lab) (j : Nat) (q : Q) (Λ0 : L) : Prop where
  nxt : Λ0.nxt = 9
  lab : ∀ b i, own b i → ow b = j + 1 → Λ0.lab b = il b
  back : ∀ b n, ((NO n = true ∧ Λ0.lab b = .obj n) ∨ ∃ i, NF n = true ∧ Λ0.lab b = .fob n i) → (∃ i, own b i) ∧ ow b = j + 1
  obj : ∀ n o, aget (qSto q) n = some o → RelO Λ0 n o
  heap : ∀ b i, own b i → ow b = j + 1 → H b = Λ0.w.heap[b]?
  rep : ∀ v x, RepT Λ0.lab Λ0.w v x → R v x

def JL (σ : LS) : (Value → T → Prop) → (Nat → Option Obj) → (Nat → Nat → Prop) → Prop := fun R H own =>
  ∃ (ow : Nat → Nat) (il : Nat → Lab) (bL bM : Nat) (bq : Nat → Nat) (Λ0 : Nat → L), Base H own σ ow il bL bM bq ∧ ∀ (j : Nat) (q : Q), σ.qs[j]? = some q → JQ R H own ow il j q (Λ0 j)

theorem JL_mono (σ : LS) : AbsMono (JL σ) := by
  rintro R R' H H' own own' hR ho hH ⟨ow, il, bL, bM, bq, Λ0, hB, hJ⟩
  have hex : ∀ b, (∃ i, own b i) → ∃ i, own' b i := fun b ⟨i, h⟩ => ⟨i, (ho b i).1 h⟩
  obtain ⟨iM, oM⟩ := hB.oM
  refine ⟨ow, il, bL, bM, bq, Λ0, ⟨fun b i h => hB.idx b i ((ho b i).2 h), (ho _ _).1 hB.oL, hB.wL, hB.iL, hex _ hB.oM, hB.wM, hB.iM, fun b i h => hB.zero b i ((ho b i).2 h), fun b i h => hB.pos b i ((ho b i).2 h), fun b b' i i' h h' => hB.inj b b' i i' ((ho b i).2 h) ((ho b' i').2 h'), by rw [hH _ _ hB.oL]; exact hB.cL, by rw [hH _ _ oM]; exact hB.cM, fun j q hj => ?_⟩, fun j q hj => ?_⟩
  · obtain ⟨h1, h2⟩ := hB.qb j q hj
    exact ⟨hex _ h1, h2⟩
  · have h := hJ j q hj
    exact ⟨h.nxt, fun b i hb => h.lab b i ((ho b i).2 hb), fun b n hb => ⟨hex _ (h.back b n hb).1, (h.back b n hb).2⟩, h.obj, fun b i hb hw => by rw [hH b i ((ho b i).2 hb)]; exact h.heap b i ((ho b i).2 hb) hw, fun v x hx => hR v x (h.rep v x hx)⟩

/-- what a method sees that works on queue j -/
def vw (Λ : L) (ow : Nat → Nat) (il : Nat → Lab) (j N : Nat) (fr : Nat → Nat → Nat) : L where
  lab := fun b => match Λ.lab b with
    | .fob _ _ => if ow b = 0 ∨ ow b = j + 1 then il b else .fix (some 0)
    | .obj _ => .fix (some 0)
    | .arr _ n => .fix (some n)
    | .far _ _ n => .fix (some n)
    | .fix n => .fix n
  fro := fun _ => 0
  nxt := N
  w := Λ.w
  frf := fun n i => if n < N then fr n i else 0

section
variable {Λ : L} {s : S} {σ : LS} {ow : Nat → Nat} {il : Nat → Lab} {bL bM : Nat} {bq : Nat → Nat} {j N : Nat} {fr : Nat → Nat → Nat}
/-- the blocks of the only object -/
def Own (Λ : L) (b i : Nat) : Prop := Λ.lab b = .fob 0 i

theorem il_kind (hB : Base (fun b => Λ.w.heap[b]?) (Own Λ) σ ow il bL bM bq) {b i : Nat} (h : Own Λ b i) : (ow b = 0 ∧ (b = bL ∧ il b = .obj 1 ∨ b = bM ∧ il b = .obj 0)) ∨ (ow b ≠ 0 ∧ ((∃ n, NO n = true ∧ il b = .obj n) ∨ ∃ n k, NF n = true ∧ il b = .fob n k)) := by
  by_cases h0 : ow b = 0
  · refine .inl ⟨h0, ?_⟩
    rcases hB.zero b i h h0 with rfl | rfl
    · exact .inl ⟨rfl, hB.iL⟩
    · exact .inr ⟨rfl, hB.iM⟩
  · exact .inr ⟨h0, (hB.pos b i h h0).2⟩

theorem vw_cases (hr : RelS Λ s) (h1 : Λ.nxt = 1) (b : Nat) : (∃ n, (vw Λ ow il j N fr).lab b = .fix n) ∨ ((∃ i, Own Λ b i) ∧ (ow b = 0 ∨ ow b = j + 1) ∧ (vw Λ ow il j N fr).lab b = il b) := by
  simp only [vw, Own]
  cases hl : Λ.lab b with
  | fix n => exact .inl ⟨_, rfl⟩
  | obj k => exact .inl ⟨_, rfl⟩
  | arr k n => exact .inl ⟨_, rfl⟩
  | far k i n => exact .inl ⟨_, rfl⟩
  | fob k i =>
    have hk : k < 1 := h1 ▸ hr.bndF b k (.inl ⟨i, hl⟩)
    obtain rfl : k = 0 := by omega
    by_cases h : ow b = 0 ∨ ow b = j + 1
    · exact .inr ⟨⟨i, rfl⟩, h, by simp [h]⟩
    · exact .inl ⟨some 0, by simp [h]⟩
theorem vw_own {b i : Nat} (h : Own Λ b i) (hw : ow b = 0 ∨ ow b = j + 1) : (vw Λ ow il j N fr).lab b = il b := by
  simp only [Own] at h
  simp [vw, h, hw]
theorem vw_rd (hB : Base (fun b => Λ.w.heap[b]?) (Own Λ) σ ow il bL bM bq) (hr : RelS Λ s) (h1 : Λ.nxt = 1) {b o : Nat} : Rd (vw Λ ow il j N fr).lab b o ↔ Rd Λ.lab b o := by
  unfold Rd
  cases hl : Λ.lab b with
  | fix n => simp [vw, hl]
  | obj k => simp [vw, hl]
  | arr k n => simp [vw, hl]
  | far k i n => simp [vw, hl]
  | fob k i =>
    have hk : k < 1 := h1 ▸ hr.bndF b k (.inl ⟨i, hl⟩)
    obtain rfl : k = 0 := by omega
    by_cases h : ow b = 0 ∨ ow b = j + 1
    · have : (vw Λ ow il j N fr).lab b = il b := vw_own hl h
      rw [this]
      rcases il_kind hB (b := b) (i := i) hl with ⟨_, ⟨_, e⟩ | ⟨_, e⟩⟩ | ⟨_, ⟨n, _, e⟩ | ⟨n, k, _, e⟩⟩ <;> rw [e] <;> simp
    · simp [vw, hl, h]
theorem vw_rep (hB : Base (fun b => Λ.w.heap[b]?) (Own Λ) σ ow il bL bM bq) (hr : RelS Λ s) (h1 : Λ.nxt = 1) {v : Value} {x : T} (h : RepT Λ.lab Λ.w v x) : RepT (vw Λ ow il j N fr).lab (vw Λ ow il j N fr).w v x :=
  h.keep fun _ _ _ _ hrd => ⟨(vw_rd hB hr h1).2 hrd, rfl⟩

theorem obj_not_fob {b : Nat} {n m k : Nat} (h : il b = .obj n) (h' : il b = .fob m k) : False := by rw [h] at h'; cases h'

theorem vw_rel (hB : Base (fun b => Λ.w.heap[b]?) (Own Λ) σ ow il bL bM bq) (hr : RelS Λ s) (h1 : Λ.nxt = 1) (hN : N = 9 ∨ N = 2 ∧ σ.qs.length ≤ j) {l : List (Nat × AObj)} (hl : ∀ k o, aget l k = some o → k < N ∧ RelO (vw Λ ow il j N fr) k o) : RelS (vw Λ ow il j N fr) ⟨l, 0⟩ := by
  have hkind : ∀ b, (∃ i, Own Λ b i) → (ow b = 0 ∨ ow b = j + 1) → (∃ n, n < N ∧ (il b = .obj n ∨ ∃ k, il b = .fob n k) ∧ (ow b = 0 ↔ n < 2)) := by
    rintro b ⟨i, hb⟩ hw
    rcases il_kind hB hb with ⟨h0, ⟨_, e⟩ | ⟨_, e⟩⟩ | ⟨h0, ⟨n, hn, e⟩ | ⟨n, k, hn, e⟩⟩
    · exact ⟨1, by omega, .inl e, by simp [h0]⟩
    · exact ⟨0, by omega, .inl e, by simp [h0]⟩
    · have hp := (hB.pos b i hb h0).1
      simp [NO] at hn
      exact ⟨n, by omega, .inl e, by omega⟩
    · have hp := (hB.pos b i hb h0).1
      simp [NF] at hn
      exact ⟨n, by omega, .inr ⟨k, e⟩, by omega⟩
  have hsame : ∀ b b', (∃ i, Own Λ b i) → (∃ i, Own Λ b' i) → (ow b = 0 ∨ ow b = j + 1) → (ow b' = 0 ∨ ow b' = j + 1) → il b = il b' → b = b' := by
    intro b b' hb hb' hw hw' he
    obtain ⟨n, _, h2, h3⟩ := hkind b hb hw
    obtain ⟨n', _, h2', h3'⟩ := hkind b' hb' hw'
    have hn : n = n' := by
      rcases h2 with h2 | ⟨k, h2⟩ <;> rcases h2' with h2' | ⟨k', h2'⟩ <;> rw [he, h2'] at h2 <;> cases h2 <;> rfl
    obtain ⟨i, hb⟩ := hb
    obtain ⟨i', hb'⟩ := hb'
    exact hB.inj b b' i i' hb hb' (by omega) he
  refine ⟨hl, fun b b' k e1 e2 => ?_, fun b hb => ?_, fun b k hb => ?_, fun _ _ => rfl, fun b b' k i e1 e2 => ?_, fun b k hb => ?_, fun k i hk => ?_⟩
  · rcases vw_cases (ow := ow) (il := il) (j := j) (N := N) (fr := fr) hr h1 b with ⟨n, e⟩ | ⟨o1, w1, e⟩
    · rw [e] at e1; cases e1
    rcases vw_cases (ow := ow) (il := il) (j := j) (N := N) (fr := fr) hr h1 b' with ⟨n, e'⟩ | ⟨o2, w2, e'⟩
    · rw [e'] at e2; cases e2
    exact hsame b b' o1 o2 w1 w2 (by rw [← e, ← e', e1, e2])
  · have := hr.new b hb
    simp [vw, this]
  · rcases vw_cases (ow := ow) (il := il) (j := j) (N := N) (fr := fr) hr h1 b with ⟨n, e⟩ | ⟨o1, w1, e⟩
    · rw [e] at hb; rcases hb with hb | ⟨_, hb⟩ <;> cases hb
    · obtain ⟨n, h2, h3, _⟩ := hkind b o1 w1
      rw [e] at hb
      show k < N
      rcases hb with hb | ⟨_, hb⟩ <;> rcases h3 with h3 | ⟨_, h3⟩ <;> rw [hb] at h3 <;> cases h3
      exact h2
  · rcases vw_cases (ow := ow) (il := il) (j := j) (N := N) (fr := fr) hr h1 b with ⟨n, e⟩ | ⟨o1, w1, e⟩
    · rw [e] at e1; cases e1
    rcases vw_cases (ow := ow) (il := il) (j := j) (N := N) (fr := fr) hr h1 b' with ⟨n, e'⟩ | ⟨o2, w2, e'⟩
    · rw [e'] at e2; cases e2
    exact hsame b b' o1 o2 w1 w2 (by rw [← e, ← e', e1, e2])
  · rcases vw_cases (ow := ow) (il := il) (j := j) (N := N) (fr := fr) hr h1 b with ⟨n, e⟩ | ⟨o1, w1, e⟩
    · rw [e] at hb; rcases hb with ⟨_, hb⟩ | ⟨_, _, hb⟩ <;> cases hb
    · obtain ⟨n, h2, h3, _⟩ := hkind b o1 w1
      rw [e] at hb
      show k < N
      rcases hb with ⟨_, hb⟩ | ⟨_, _, hb⟩ <;> rcases h3 with h3 | ⟨_, h3⟩ <;> rw [hb] at h3 <;> cases h3
      exact h2
  · have hk' : N ≤ k := hk
    simp [vw]; omega

theorem vw_loader (hB : Base (fun b => Λ.w.heap[b]?) (Own Λ) σ ow il bL bM bq) (hr : RelS Λ s) (h1 : Λ.nxt = 1) (hN : 2 ≤ N) : RelO (vw Λ ow il j N fr) 1 (lCell σ) := by
  obtain ⟨e, he⟩ := hB.cL
  refine ⟨bL, _, e, (vw_own hB.oL (.inl hB.wL)).trans hB.iL, he, rfl, fun i v c a1 a2 => ?_⟩
  match i, a1, a2 with
  | 0, a1, a2 => simp at a1 a2; subst a1; subst a2; exact .t (.int _ _)
  | 1, a1, a2 =>
    simp at a1 a2; subst a1; subst a2
    obtain ⟨i, hi⟩ := hB.oM
    exact .mp (show 0 < N by omega) ((vw_own hi (.inl hB.wM)).trans hB.iM)
  | 2, a1, a2 => simp at a1 a2; subst a1; subst a2; exact .t (.int _ _)
  | 3, a1, a2 => simp at a1 a2; subst a1; subst a2; exact .t (.int _ _)
  | i + 4, a1, a2 => simp at a1
theorem vw_map (hB : Base (fun b => Λ.w.heap[b]?) (Own Λ) σ ow il bL bM bq) (hr : RelS Λ s) (h1 : Λ.nxt = 1) (hN : N = 9 ∨ N = 2 ∧ σ.qs.length ≤ j) : RelO (vw Λ ow il j N fr) 0 (.map false (esOf bq σ.qs j) none) := by
  obtain ⟨ents, clock, g1, g2, g3, g4, g5⟩ := hB.cM
  obtain ⟨iM, oM⟩ := hB.oM
  refine ⟨bM, ents, clock, (vw_own oM (.inl hB.wM)).trans hB.iM, g1, ⟨by simp [esOf, g2], fun i e kv a1 a2 => ?_, g4, g5, fun _ _ h => by cases h⟩⟩
  simp only [esOf, List.getElem?_mapIdx, Option.map_eq_some_iff] at a2
  obtain ⟨q, hq, rfl⟩ := a2
  obtain ⟨k1, k2⟩ := g3 i e q a1 hq
  refine ⟨⟨_, rfl, by rw [k1]; exact .int _ _⟩, ?_⟩
  have hlt : i < σ.qs.length := (List.getElem?_eq_some_iff.1 hq).1
  rw [k2]
  simp only [esAt]
  split
  · rename_i e'; subst e'
    obtain ⟨⟨i', o1⟩, o2, o3⟩ := hB.qb i q hq
    exact .ptr (show 4 < N by omega) ((vw_own o1 (.inr o2)).trans o3)
  · exact .t (.ad [] _ _ (fun _ => undef) (by simp) (by simp) (by simp))
theorem vw_tr (hB : Base (fun b => Λ.w.heap[b]?) (Own Λ) σ ow il bL bM bq) (hr : RelS Λ s) (h1 : Λ.nxt = 1) {q : Q} {Λ0 : L} (hJ : JQ (RepT Λ.lab Λ.w) (fun b => Λ.w.heap[b]?) (Own Λ) ow il j q Λ0) : Tr NO NF Λ0 (vw Λ ow il j 9 Λ0.frf) := by
  refine ⟨fun v x h => vw_rep hB hr h1 (hJ.rep v x h), fun b n hn h => ?_, fun b n i hn h => ?_, fun b n i hn h => ?_, fun n hn hlt => ?_, hJ.nxt.symm⟩
  · obtain ⟨⟨i, o1⟩, o2⟩ := hJ.back b n (.inl ⟨hn, h⟩)
    exact ⟨by rw [vw_own o1 (.inr o2), ← hJ.lab b i o1 o2]; exact h, hJ.heap b i o1 o2⟩
  · obtain ⟨⟨i, o1⟩, o2⟩ := hJ.back b n (.inr ⟨_, hn, h⟩)
    exact ⟨by rw [vw_own o1 (.inr o2), ← hJ.lab b _ o1 o2]; exact h, hJ.heap b _ o1 o2⟩
  · rcases vw_cases (ow := ow) (il := il) (j := j) (N := 9) (fr := Λ0.frf) hr h1 b with ⟨n, e⟩ | ⟨⟨i', o1⟩, w1, e⟩
    · rw [e] at h; cases h
    · rw [e] at h
      rcases w1 with w1 | w1
      · rcases il_kind hB o1 with ⟨_, ⟨_, e'⟩ | ⟨_, e'⟩⟩ | ⟨h0, _⟩
        · exact (obj_not_fob e' h).elim
        · exact (obj_not_fob e' h).elim
        · exact absurd w1 h0
      · rw [hJ.lab b i' o1 w1]; exact h
  · have : n < 9 := hJ.nxt ▸ hlt
    simp [vw, this]
end
end Go.GB.C35


/-
  L36B: chapter 35: behind a method that worked on one queue, the loader is one object again.
-/
namespace Go.GB.C35
open Go.GB
set_option linter.unusedSimpArgs false
set_option linter.unusedVariables false

def okL : Lab → Bool
  | .obj n => NO n
  | .fob n _ => NF n
  | _ => false
def outL (Λ Λ' : L) : L where
  lab := fun b => if b < Λ.w.heap.size then Λ.lab b else
    match Λ'.lab b with
    | .fix n => .fix n
    | .arr _ n => .fix (some n)
    | .far _ _ n => .fix (some n)
    | .obj n => if NO n = true then .fob 0 (b + 1) else .fix (some 0)
    | .fob n _ => if NF n = true then .fob 0 (b + 1) else .fix (some 0)
  fro := Λ.fro
  nxt := 1
  w := Λ'.w
  frf := Λ.frf
def ow2 (Λ : L) (ow : Nat → Nat) (j b : Nat) : Nat := if b < Λ.w.heap.size then ow b else j + 1
def il2 (Λ Λ' : L) (il : Nat → Lab) (b : Nat) : Lab := if b < Λ.w.heap.size then il b else Λ'.lab b

theorem arr4 {α : Type} {l : Array α} (h : l.size = 4) : ∃ a b c d, l = #[a, b, c, d] := by
  obtain ⟨l⟩ := l
  match l, h with
  | [a, b, c, d], _ => exact ⟨a, b, c, d, rfl⟩

section
variable {Λ Λ' : L} {s : S} {σ σ' : LS} {ow : Nat → Nat} {il : Nat → Lab} {bL bM : Nat} {bq : Nat → Nat} {j N : Nat} {fr : Nat → Nat → Nat} {l st' : List (Nat × AObj)} {Λ0 : Nat → L}

theorem out_old {b : Nat} (h : b < Λ.w.heap.size) : (outL Λ Λ').lab b = Λ.lab b := by simp [outL, h]
theorem out_own {b i : Nat} : Own (outL Λ Λ') b i ↔ (b < Λ.w.heap.size ∧ Own Λ b i) ∨ (¬ b < Λ.w.heap.size ∧ okL (Λ'.lab b) = true ∧ i = b + 1) := by
  unfold Own
  by_cases h : b < Λ.w.heap.size
  · simp [outL, h]
  · simp only [outL, h, if_false, false_and, not_false_eq_true, true_and, false_or]
    cases hl : Λ'.lab b with
    | fix n => simp [okL]
    | arr k n => simp [okL]
    | far k i n => simp [okL]
    | obj n => by_cases hn : NO n = true <;> simp [okL, hn, eq_comm]
    | fob n k => by_cases hn : NF n = true <;> simp [okL, hn, eq_comm]
theorem out_fob {b k i : Nat} (h : ¬ b < Λ.w.heap.size) (hl : (outL Λ Λ').lab b = .fob k i) : k = 0 ∧ i = b + 1 := by
  simp only [outL, h, if_false] at hl
  split at hl
  · cases hl
  · cases hl
  · cases hl
  · split at hl <;> cases hl; exact ⟨rfl, rfl⟩
  · split at hl <;> cases hl; exact ⟨rfl, rfl⟩
theorem out_new {b : Nat} (h : ¬ b < Λ.w.heap.size) : (∃ n, (outL Λ Λ').lab b = .fix n) ∨ (outL Λ Λ').lab b = .fob 0 (b + 1) := by
  simp only [outL, h, if_false]
  split
  · exact .inl ⟨_, rfl⟩
  · exact .inl ⟨_, rfl⟩
  · exact .inl ⟨_, rfl⟩
  · split
    · exact .inr rfl
    · exact .inl ⟨_, rfl⟩
  · split
    · exact .inr rfl
    · exact .inl ⟨_, rfl⟩

theorem own_lt (hr : RelS Λ s) {b i : Nat} (h : Own Λ b i) : b < Λ.w.heap.size := by
  refine Decidable.byContradiction fun hn => ?_
  have := hr.new b (by omega)
  simp only [Own] at h
  rw [this] at h; cases h

theorem post_lab (hB : Base (fun b => Λ.w.heap[b]?) (Own Λ) σ ow il bL bM bq) (hr : RelS Λ s) (h1 : Λ.nxt = 1) (hv : RelS (vw Λ ow il j N fr) ⟨l, 0⟩) (hk : Kp (vw Λ ow il j N fr) Λ') {b : Nat} (hb : b < Λ.w.heap.size) : Λ'.lab b = (vw Λ ow il j N fr).lab b := by
  rcases vw_cases (ow := ow) (il := il) (j := j) (N := N) (fr := fr) hr h1 b with ⟨n, e⟩ | ⟨⟨i, o1⟩, w1, e⟩
  · rw [e]; exact (hk.fr.fix b hb _ e).1
  · rw [e]
    have ho : ∀ n, il b = .obj n → Λ'.lab b = il b := fun n hn => by
      have e' := e.trans hn
      rw [hn]; exact hk.obj b n (hv.bnd b n (.inl e')) e'
    have hf : ∀ n k, il b = .fob n k → Λ'.lab b = il b := fun n k hn => by
      have e' := e.trans hn
      rw [hn]; exact (hk.fob b n k (hv.bndF b n (.inl ⟨k, e'⟩)) e').1
    rcases il_kind hB o1 with ⟨_, ⟨_, e'⟩ | ⟨_, e'⟩⟩ | ⟨_, ⟨n, _, e'⟩ | ⟨n, k, _, e'⟩⟩
    · exact ho _ e'
    · exact ho _ e'
    · exact ho _ e'
    · exact hf _ _ e'

theorem out_rep (hB : Base (fun b => Λ.w.heap[b]?) (Own Λ) σ ow il bL bM bq) (hr : RelS Λ s) (h1 : Λ.nxt = 1) (hv : RelS (vw Λ ow il j N fr) ⟨l, 0⟩) (hk : Kp (vw Λ ow il j N fr) Λ') {v : Value} {x : T} (h : RepT Λ'.lab Λ'.w v x) : RepT (outL Λ Λ').lab (outL Λ Λ').w v x := by
  refine h.keep fun b o _ _ hrd => ⟨?_, rfl⟩
  by_cases hb : b < Λ.w.heap.size
  · have e := post_lab hB hr h1 hv hk hb
    have h2 : Rd (vw Λ ow il j N fr).lab b o := by unfold Rd at *; rw [← e]; exact hrd
    have h3 := (vw_rd hB hr h1).1 h2
    unfold Rd at *; rw [out_old hb]; exact h3
  · unfold Rd at *
    simp only [outL, hb, if_false]
    cases hl : Λ'.lab b <;> rw [hl] at hrd <;> first | exact hrd | exact hrd.elim

/-- what is known behind a method -/
structure Aft (Λ' : L) (σ σ' : LS) (j : Nat) (bq bq' : Nat → Nat) (st' : List (Nat × AObj)) (sx : Option (Nat × List Nat)) : Prop where
  g0 : aget st' 0 = some (.map false (esOf bq' σ'.qs j) sx)
  hbq : ∀ i, i ≠ j → bq' i = bq i
  g1 : aget st' 1 = some (lCell σ')
  gq : ∀ q', σ'.qs[j]? = some q' → Λ'.nxt = 9 ∧ ∀ n o, aget (qSto q') n = some o → aget st' n = some o
  gn : σ'.qs[j]? = none → Λ'.nxt = 2
  hlen : σ.qs.length ≤ σ'.qs.length
  hoth : ∀ i, i ≠ j → σ'.qs[i]? = σ.qs[i]?

theorem out_base {sx : Option (Nat × List Nat)} {bq' : Nat → Nat} (hB : Base (fun b => Λ.w.heap[b]?) (Own Λ) σ ow il bL bM bq) (hr : RelS Λ s) (h1 : Λ.nxt = 1) (hv : RelS (vw Λ ow il j N fr) ⟨l, 0⟩) (hk : Kp (vw Λ ow il j N fr) Λ') (hs : RelS Λ' ⟨st', 0⟩) (hA : Aft Λ' σ σ' j bq bq' st' sx) :
    ∃ bq2, Base (fun b => (outL Λ Λ').w.heap[b]?) (Own (outL Λ Λ')) σ' (ow2 Λ ow j) (il2 Λ Λ' il) bL bM bq2 ∧ (∀ b, okL (Λ'.lab b) = true → (∃ i, Own (outL Λ Λ') b i) ∧ ow2 Λ ow j b = j + 1 ∧ il2 Λ Λ' il b = Λ'.lab b) ∧ ∀ b i, Own (outL Λ Λ') b i → ow2 Λ ow j b = j + 1 → Λ'.lab b = il2 Λ Λ' il b := by
  have K1 := fun b hb => post_lab (b := b) hB hr h1 hv hk hb
  have ltL := own_lt hr hB.oL
  obtain ⟨iM, oM⟩ := hB.oM
  have ltM := own_lt hr oM
  have oldO : ∀ {b i}, Own Λ b i → Own (outL Λ Λ') b i := fun h => out_own.2 (.inl ⟨own_lt hr h, h⟩)
  have L1 : ∀ b, okL (Λ'.lab b) = true → (∃ i, Own (outL Λ Λ') b i) ∧ ow2 Λ ow j b = j + 1 ∧ il2 Λ Λ' il b = Λ'.lab b := by
    intro b hb
    by_cases hlt : b < Λ.w.heap.size
    · rcases vw_cases (ow := ow) (il := il) (j := j) (N := N) (fr := fr) hr h1 b with ⟨n, e⟩ | ⟨⟨i, o1⟩, w1, e⟩
      · rw [K1 b hlt, e] at hb; simp [okL] at hb
      · have e2 : Λ'.lab b = il b := (K1 b hlt).trans e
        refine ⟨⟨i, oldO o1⟩, ?_, by simp [il2, hlt, e2]⟩
        simp only [ow2, hlt, if_true]
        rcases w1 with w1 | w1
        · rcases il_kind hB o1 with ⟨_, ⟨_, e'⟩ | ⟨_, e'⟩⟩ | ⟨h0, _⟩
          · rw [e2, e'] at hb; simp [okL, NO] at hb
          · rw [e2, e'] at hb; simp [okL, NO] at hb
          · exact absurd w1 h0
        · exact w1
    · exact ⟨⟨b + 1, out_own.2 (.inr ⟨hlt, hb, rfl⟩)⟩, by simp [ow2, hlt], by simp [il2, hlt]⟩
  have L2 : ∀ b i, Own (outL Λ Λ') b i → ow2 Λ ow j b = j + 1 → Λ'.lab b = il2 Λ Λ' il b := by
    intro b i hb hw
    rcases out_own.1 hb with ⟨hlt, ho⟩ | ⟨hlt, _, _⟩
    · simp only [ow2, hlt, if_true] at hw
      rw [K1 b hlt, vw_own ho (.inr hw)]; simp [il2, hlt]
    · simp [il2, hlt]
  have LL : Λ'.lab bL = .obj 1 := by rw [K1 bL ltL, vw_own hB.oL (.inl hB.wL), hB.iL]
  have LM : Λ'.lab bM = .obj 0 := by rw [K1 bM ltM, vw_own oM (.inl hB.wM), hB.iM]
  obtain ⟨b4, hb4⟩ : ∃ b4, ∀ q', σ'.qs[j]? = some q' → Λ'.lab b4 = .obj 4 := by
    cases hq : σ'.qs[j]? with
    | none => exact ⟨0, fun q' h => by cases h⟩
    | some q' =>
      obtain ⟨_, b, _, _, hb, _⟩ := hs.sto 4 _ ((hA.gq q' hq).2 4 (qCell q') rfl)
      exact ⟨b, fun _ _ => hb⟩
  have kinds : ∀ x, okL x = true → (∃ n, NO n = true ∧ x = .obj n) ∨ ∃ n k, NF n = true ∧ x = .fob n k := by
    intro x hx
    cases x with
    | obj n => exact .inl ⟨n, hx, rfl⟩
    | fob n k => exact .inr ⟨n, k, hx, rfl⟩
    | _ => simp [okL] at hx
  have uniq : ∀ b b', okL (Λ'.lab b) = true → Λ'.lab b = Λ'.lab b' → b = b' := by
    intro b b' hb he
    rcases kinds _ hb with ⟨n, _, e⟩ | ⟨n, k, _, e⟩
    · exact hs.inj b b' n e (he ▸ e)
    · exact hs.injF b b' n k e (he ▸ e)
  have jlt : ∀ b, okL (Λ'.lab b) = true → j + 1 ≤ σ'.qs.length := by
    intro b hb
    cases hq : σ'.qs[j]? with
    | some q' => have := (List.getElem?_eq_some_iff.1 hq).1; omega
    | none =>
      have hn := hA.gn hq
      exfalso
      rcases kinds _ hb with ⟨n, h2, e⟩ | ⟨n, k, h2, e⟩
      · have := hs.bnd b n (.inl e); simp [NO] at h2; omega
      · have := hs.bndF b n (.inl ⟨k, e⟩); simp [NF] at h2; omega
  refine ⟨fun i => if i = j then b4 else bq i, ⟨fun b i h => ?_, oldO hB.oL, by simp [ow2, ltL, hB.wL], by simp [il2, ltL, hB.iL], ⟨_, oldO oM⟩, by simp [ow2, ltM, hB.wM], by simp [il2, ltM, hB.iM], fun b i h h0 => ?_, fun b i h h0 => ?_, fun b b' i i' h h' hw he => ?_, ?_, ?_, fun i q hi => ?_⟩, L1, L2⟩
  · rcases out_own.1 h with ⟨hlt, ho⟩ | ⟨hlt, _, e⟩
    · exact hB.idx b i ho
    · rw [if_neg (by rintro rfl; exact hlt ltL)]; exact e
  · rcases out_own.1 h with ⟨hlt, ho⟩ | ⟨hlt, _, e⟩
    · exact hB.zero b i ho (by simpa [ow2, hlt] using h0)
    · simp [ow2, hlt] at h0
  · rcases out_own.1 h with ⟨hlt, ho⟩ | ⟨hlt, hok, e⟩
    · obtain ⟨p1, p2⟩ := hB.pos b i ho (by simpa [ow2, hlt] using h0)
      have := hA.hlen
      exact ⟨by simp only [ow2, hlt, if_true]; omega, by simpa [il2, hlt] using p2⟩
    · exact ⟨by simp only [ow2, hlt, if_false]; exact jlt b hok, by simpa [il2, hlt] using kinds _ hok⟩
  · have both : (¬ b < Λ.w.heap.size ∨ ¬ b' < Λ.w.heap.size) → b = b' := by
      intro hor
      have hj : ow2 Λ ow j b = j + 1 := by
        rcases hor with hn | hn
        · simp [ow2, hn]
        · rw [hw]; simp [ow2, hn]
      have e1 := L2 b i h hj
      have e2 := L2 b' i' h' (hw ▸ hj)
      have hok : okL (Λ'.lab b) = true := by
        rcases hor with hn | hn
        · rcases out_own.1 h with ⟨hlt, _⟩ | ⟨_, hok, _⟩
          · exact absurd hlt hn
          · exact hok
        · rcases out_own.1 h' with ⟨hlt, _⟩ | ⟨_, hok, _⟩
          · exact absurd hlt hn
          · rw [e1, he, ← e2]; exact hok
      exact uniq b b' hok (by rw [e1, e2, he])
    by_cases hlt : b < Λ.w.heap.size
    · by_cases hlt' : b' < Λ.w.heap.size
      · rcases out_own.1 h with ⟨_, ho⟩ | ⟨hn, _⟩
        · rcases out_own.1 h' with ⟨_, ho'⟩ | ⟨hn', _⟩
          · exact hB.inj b b' i i' ho ho' (by simpa [ow2, hlt, hlt'] using hw) (by simpa [il2, hlt, hlt'] using he)
          · exact absurd hlt' hn'
        · exact absurd hlt hn
      · exact both (.inr hlt')
    · exact both (.inl hlt)
  · obtain ⟨_, b, arr, e, k1, k2, k3, k4⟩ := hs.sto 1 _ hA.g1
    obtain rfl := hs.inj b bL 1 k1 LL
    obtain ⟨a0, a1, a2, a3, rfl⟩ := arr4 k3
    have q0 := k4 0 a0 _ rfl rfl
    have q1 := k4 1 a1 _ rfl rfl
    have q2 := k4 2 a2 _ rfl rfl
    have q3 := k4 3 a3 _ rfl rfl
    have i0 : a0 = .int .i64 σ'.m := by cases q0 with | t h => cases h; rfl
    have i2 : a2 = .int .i64 σ'.c := by cases q2 with | t h => cases h; rfl
    have i3 : a3 = .int .i64 σ'.s := by cases q3 with | t h => cases h; rfl
    have i1 : a1 = .map (some bM) := by
      cases q1 with
      | mp hk h => rw [hs.inj _ _ 0 h LM]
    subst i0; subst i1; subst i2; subst i3
    exact ⟨e, k2⟩
  · obtain ⟨_, b, ents, clock, k1, k2, k3⟩ := hs.sto 0 _ hA.g0
    obtain rfl := hs.inj b bM 0 k1 LM
    refine ⟨ents, clock, k2, by simpa [esOf] using k3.size, fun i e q hi hq => ?_, k3.born, k3.apart⟩
    obtain ⟨r1, r2⟩ := k3.at_ i e (esAt bq' j i q) hi (by simp [esOf, hq])
    refine ⟨?_, ?_⟩
    · obtain ⟨x, hx, hr'⟩ := r1
      simp only [esAt, List.cons.injEq, and_true] at hx
      subst hx
      generalize e.key = u at hr'
      cases hr'; rfl
    · by_cases hij : i = j
      · subst hij
        simp only [esAt, if_true] at r2 ⊢
        generalize e.val = u at r2
        cases r2 with
        | ptr hk h => rw [hs.inj _ _ 4 h (hb4 q hq)]
      · simp only [esAt, hij, if_false] at r2 ⊢
        rw [hA.hbq i hij] at r2
        generalize e.val = u at r2
        cases r2 with
        | t h => cases h; rfl
  · by_cases hij : i = j
    · subst hij
      simp only [if_true]
      have h4 := hb4 q hi
      have := L1 b4 (by rw [h4]; rfl)
      exact ⟨this.1, this.2.1, this.2.2.trans h4⟩
    · simp only [hij, if_false]
      rw [hA.hoth i hij] at hi
      obtain ⟨⟨i', o1⟩, o2, o3⟩ := hB.qb i q hi
      have hlt := own_lt hr o1
      exact ⟨⟨i', oldO o1⟩, by simp [ow2, hlt, o2], by simp [il2, hlt, o3]⟩
end
end Go.GB.C35


/-
  L36C: chapter 35: a contract on one queue is one on the loader.
-/
namespace Go.GB.C35
open Go.GB
set_option linter.unusedSimpArgs false
set_option linter.unusedVariables false
section
variable {Λ Λ' : L} {s : S} {σ σ' : LS} {ow : Nat → Nat} {il : Nat → Lab} {bL bM : Nat} {bq : Nat → Nat} {j N : Nat} {fr : Nat → Nat → Nat} {l st' : List (Nat × AObj)} {Λ0 : Nat → L}

theorem rowSize_cells {w : World} {b : Nat} {arr : Array Value} {e : TypeId} (h : w.heap[b]? = some (.cells arr e (0, 0))) : rowSize w b = some arr.size := by simp [rowSize, h]
theorem rowSize_map {w : World} {b : Nat} {ents : Array MapEntry} {c : Nat} (h : w.heap[b]? = some (.map ents c)) : rowSize w b = none := by simp [rowSize, h]

theorem out_kp {sx : Option (Nat × List Nat)} {bq' bq2 : Nat → Nat} (hB : Base (fun b => Λ.w.heap[b]?) (Own Λ) σ ow il bL bM bq) (hr : RelS Λ s) (h1 : Λ.nxt = 1) (hfr : Λ.frf 0 0 = 0) (hv : RelS (vw Λ ow il j N fr) ⟨l, 0⟩) (hk : Kp (vw Λ ow il j N fr) Λ') (hs : RelS Λ' ⟨st', 0⟩) (hA : Aft Λ' σ σ' j bq bq' st' sx)
    (hl : (∃ q, aget l 3 = some (.map false (openE 5 q.lo q.k) none) ∧ aget l 4 = some (qCell q) ∧ ∃ q', σ'.qs[j]? = some q') ∨ σ.qs.length ≤ j) (hB' : Base (fun b => (outL Λ Λ').w.heap[b]?) (Own (outL Λ Λ')) σ' (ow2 Λ ow j) (il2 Λ Λ' il) bL bM bq2) : Kp Λ (outL Λ Λ') := by
  have K1 := fun b hb => post_lab (b := b) hB hr h1 hv hk hb
  have K2 : ∀ b n, b < Λ.w.heap.size → (vw Λ ow il j N fr).lab b = .fix n → Λ'.w.heap[b]? = Λ.w.heap[b]? := fun b n hb e => (hk.fr.fix b hb _ e).2
  have lt_of : ∀ b, (∀ n, Λ.lab b ≠ .fix n) → b < Λ.w.heap.size := fun b h => Decidable.byContradiction fun hn => h none (hr.new b (by omega))
  refine ⟨⟨hk.fr.os, hk.fr.tape, hk.fr.output, hk.fr.size, fun b hb n hl => ?_, fun b hb k n hl o ho => ?_, fun b hb k i n hl o ho => ?_⟩, ?_, fun b k hk' hl => ?_, fun b k n hk' hb hl hf => ?_, fun _ _ => Nat.le_refl _, fun b k i hk' hlb => ?_, fun b k i n hk' hb hl hf => ?_, fun _ _ _ => Nat.le_refl _, fun b k i hk' hp hf hlb => ?_⟩
  · exact ⟨by rw [out_old hb]; exact hl, K2 b n hb (by simp [vw, hl])⟩
  · have e := K2 b (some n) hb (by simp [vw, hl])
    exact ⟨by unfold Rd; rw [out_old hb, hl]; exact ho, cell?_heap e⟩
  · have e := K2 b (some n) hb (by simp [vw, hl])
    exact ⟨by unfold Rd; rw [out_old hb, hl]; exact ho, cell?_heap e⟩
  · rw [h1]; exact Nat.le_refl 1
  · rw [out_old (lt_of b fun n => by rw [hl]; simp)]; exact hl
  · exact ⟨by rw [out_old hb]; exact hl, K2 b (some n) hb (by simp [vw, hl])⟩
  · have hb := lt_of b fun n => by rw [hlb]; simp
    refine ⟨by rw [out_old hb]; exact hlb, fun M hM => ?_⟩
    show rowSize Λ'.w b = some M
    rcases vw_cases (ow := ow) (il := il) (j := j) (N := N) (fr := fr) hr h1 b with ⟨n, e⟩ | ⟨⟨i', o1⟩, w1, e⟩
    · unfold rowSize at *
      rw [K2 b n hb e]; exact hM
    · rcases il_kind hB o1 with ⟨_, ⟨rfl, e'⟩ | ⟨rfl, e'⟩⟩ | ⟨h0, ⟨n, hn, e'⟩ | ⟨n, k', _, e'⟩⟩
      · obtain ⟨t1, g1⟩ := hB.cL
        obtain ⟨t2, g2⟩ := hB'.cL
        have r1 := rowSize_cells g1
        have r2 : rowSize Λ'.w b = _ := rowSize_cells g2
        rw [r1] at hM; rw [r2]; exact hM
      · obtain ⟨ents, c, g1, _⟩ := hB.cM
        rw [rowSize_map g1] at hM; cases hM
      · rcases hl with ⟨q, l3, l4, q', hq'⟩ | hle
        · have hn' : n = 3 ∨ n = 4 := by simpa [NO] using hn
          rcases hn' with rfl | rfl
          · obtain ⟨_, b3, ents, c, m1, m2, _⟩ := hv.sto 3 _ l3
            obtain rfl := hv.inj b b3 3 (e.trans e') m1
            have m2' : Λ.w.heap[b]? = some (.map ents c) := m2
            rw [rowSize_map m2'] at hM; cases hM
          · obtain ⟨_, b4, arr, t, m1, m2, m3, _⟩ := hv.sto 4 _ l4
            obtain rfl := hv.inj b b4 4 (e.trans e') m1
            have m2' : Λ.w.heap[b]? = some (.cells arr t (0, 0)) := m2
            obtain ⟨_, b5, arr', t', p1, p2, p3, _⟩ := hs.sto 4 _ ((hA.gq q' hq').2 4 (qCell q') rfl)
            obtain rfl := hs.inj b b5 4 ((K1 b hb).trans (e.trans e')) p1
            rw [rowSize_cells m2', m3] at hM
            rw [rowSize_cells p2, p3]; exact hM
        · have hp := (hB.pos b i' o1 h0).1
          omega
      · exact (hk.fob b n k' (hv.bndF b n (.inl ⟨k', e.trans e'⟩)) (e.trans e')).2 M hM
  · exact ⟨by rw [out_old hb]; exact hl, K2 b (some n) hb (by simp [vw, hl])⟩
  · obtain rfl : k = 0 := by omega
    omega

theorem out_rel (hB : Base (fun b => Λ.w.heap[b]?) (Own Λ) σ ow il bL bM bq) (hr : RelS Λ s) (h1 : Λ.nxt = 1) (hfr : Λ.frf 0 0 = 0) (hk : Kp (vw Λ ow il j N fr) Λ') (hs : RelS Λ' ⟨st', 0⟩) (hJ : JL σ' (RepT (outL Λ Λ').lab (outL Λ Λ').w) (fun b => (outL Λ Λ').w.heap[b]?) (Own (outL Λ Λ'))) : RelS (outL Λ Λ') ⟨[(0, .abs (JL σ'))], 0⟩ := by
  have hsz : Λ.w.heap.size ≤ Λ'.w.heap.size := hk.fr.size
  refine ⟨fun k o hko => ?_, fun b b' k e1 e2 => ?_, fun b hb => ?_, fun b k hb => ?_, fun k hk' => ?_, fun b b' k i e1 e2 => ?_, fun b k hb => ?_, fun k i hk' => ?_⟩
  · simp only [aget] at hko
    split at hko
    · rename_i e; subst e; cases hko
      exact ⟨Nat.zero_lt_one, JL_mono σ', hfr, hJ⟩
    · cases hko
  · have hlt : ∀ b, (outL Λ Λ').lab b = .obj k → b < Λ.w.heap.size := fun b h => Decidable.byContradiction fun hn => by
      rcases out_new (Λ' := Λ') hn with ⟨n, e⟩ | e <;> rw [h] at e <;> cases e
    have l1 := hlt b e1
    have l2 := hlt b' e2
    rw [out_old l1] at e1; rw [out_old l2] at e2
    exact hr.inj b b' k e1 e2
  · have hb' : Λ'.w.heap.size ≤ b := hb
    have := hs.new b hb'
    have hn : ¬ b < Λ.w.heap.size := by omega
    simp [outL, hn, this]
  · show k < 1
    by_cases hlt : b < Λ.w.heap.size
    · rw [out_old hlt] at hb; exact h1 ▸ hr.bnd b k hb
    · rcases out_new (Λ' := Λ') hlt with ⟨n, e⟩ | e <;> rw [e] at hb <;> rcases hb with hb | ⟨_, hb⟩ <;> cases hb
  · exact hr.frz k (h1 ▸ hk')
  · by_cases l1 : b < Λ.w.heap.size
    · by_cases l2 : b' < Λ.w.heap.size
      · rw [out_old l1] at e1; rw [out_old l2] at e2
        exact hr.injF b b' k i e1 e2
      · obtain ⟨rfl, rfl⟩ := out_fob l2 e2
        rw [out_old l1] at e1
        have := hB.idx b _ e1
        split at this <;> omega
    · obtain ⟨rfl, rfl⟩ := out_fob l1 e1
      by_cases l2 : b' < Λ.w.heap.size
      · rw [out_old l2] at e2
        have := hB.idx b' _ e2
        split at this <;> omega
      · have := out_fob l2 e2; omega
  · show k < 1
    by_cases hlt : b < Λ.w.heap.size
    · rw [out_old hlt] at hb; exact h1 ▸ hr.bndF b k hb
    · rcases out_new (Λ' := Λ') hlt with ⟨n, e⟩ | e <;> rw [e] at hb <;> rcases hb with ⟨_, hb⟩ | ⟨_, _, hb⟩ <;> cases hb
      exact Nat.zero_lt_one
  · exact hr.frzF k i (h1 ▸ hk')

theorem out_jl {sx : Option (Nat × List Nat)} {bq' : Nat → Nat} (hB : Base (fun b => Λ.w.heap[b]?) (Own Λ) σ ow il bL bM bq) (hJ : ∀ (i : Nat) (q : Q), σ.qs[i]? = some q → JQ (RepT Λ.lab Λ.w) (fun b => Λ.w.heap[b]?) (Own Λ) ow il i q (Λ0 i)) (hr : RelS Λ s) (h1 : Λ.nxt = 1) (hfr : Λ.frf 0 0 = 0) (hv : RelS (vw Λ ow il j N fr) ⟨l, 0⟩) (hk : Kp (vw Λ ow il j N fr) Λ') (hs : RelS Λ' ⟨st', 0⟩) (hA : Aft Λ' σ σ' j bq bq' st' sx)
    (hl : (∃ q, aget l 3 = some (.map false (openE 5 q.lo q.k) none) ∧ aget l 4 = some (qCell q) ∧ ∃ q', σ'.qs[j]? = some q') ∨ σ.qs.length ≤ j) : Kp Λ (outL Λ Λ') ∧ RelS (outL Λ Λ') ⟨[(0, .abs (JL σ'))], 0⟩ := by
  obtain ⟨bq2, hB', L1, L2⟩ := out_base hB hr h1 hv hk hs hA
  have hkp := out_kp hB hr h1 hfr hv hk hs hA hl hB'
  refine ⟨hkp, out_rel hB hr h1 hfr hk hs ⟨ow2 Λ ow j, il2 Λ Λ' il, bL, bM, bq2, fun i => if i = j then Λ' else Λ0 i, hB', fun i q hi => ?_⟩⟩
  have oldO : ∀ {b i}, Own Λ b i → Own (outL Λ Λ') b i := fun h => out_own.2 (.inl ⟨own_lt hr h, h⟩)
  by_cases hij : i = j
  · subst hij
    simp only [if_true]
    obtain ⟨g1, g2⟩ := hA.gq q hi
    refine ⟨g1, L2, fun b n hb => ?_, fun n o ho => (hs.sto n o (g2 n o ho)).2, fun _ _ _ _ => rfl, fun v x h => out_rep hB hr h1 hv hk h⟩
    have hok : okL (Λ'.lab b) = true := by
      rcases hb with ⟨a, e⟩ | ⟨_, a, e⟩ <;> rw [e] <;> exact a
    obtain ⟨a1, a2, _⟩ := L1 b hok
    exact ⟨a1, a2⟩
  · simp only [hij, if_false]
    rw [hA.hoth i hij] at hi
    have h := hJ i q hi
    have hold : ∀ b i', Own (outL Λ Λ') b i' → ow2 Λ ow j b = i + 1 → b < Λ.w.heap.size ∧ Own Λ b i' ∧ ow b = i + 1 := by
      intro b i' hb hw
      rcases out_own.1 hb with ⟨hlt, ho⟩ | ⟨hlt, _, _⟩
      · exact ⟨hlt, ho, by simpa [ow2, hlt] using hw⟩
      · simp only [ow2, hlt, if_false] at hw; omega
    refine ⟨h.nxt, fun b i' hb hw => ?_, fun b n hb => ?_, h.obj, fun b i' hb hw => ?_, fun v x hx => (h.rep v x hx).mono hkp.fr⟩
    · obtain ⟨hlt, ho, hw'⟩ := hold b i' hb hw
      rw [h.lab b i' ho hw']; simp [il2, hlt]
    · obtain ⟨⟨i', ho⟩, hw⟩ := h.back b n hb
      have hlt := own_lt hr ho
      exact ⟨⟨i', oldO ho⟩, by simp [ow2, hlt, hw]⟩
    · obtain ⟨hlt, ho, hw'⟩ := hold b i' hb hw
      rw [← h.heap b i' ho hw']
      refine (hk.fr.fix b hlt (some 0) ?_).2
      have ho' : Λ.lab b = .fob 0 i' := ho
      have : ¬ (ow b = 0 ∨ ow b = j + 1) := by omega
      simp [vw, ho', this]
end

/-- the store in which a method works on queue j, and how many names it has -/
def stoL (σ : LS) (bq : Nat → Nat) (j : Nat) : List (Nat × AObj) := (0, .map false (esOf bq σ.qs j) none) :: (1, lCell σ) :: match σ.qs[j]? with | some q => qSto q | none => []
def nL (σ : LS) (j : Nat) : Nat := match σ.qs[j]? with | some _ => 9 | none => 2

/-- what a contract on queue j must say -/
structure Upd (σ σ' : LS) (j : Nat) (bq : Nat → Nat) (out : Out) : Prop where
  g0 : ∃ sx, aget (asets (stoL σ bq j) out.ob) 0 = some (.map false (esOf bq σ'.qs j) sx)
  g1 : aget (asets (stoL σ bq j) out.ob) 1 = some (lCell σ')
  gq : ∀ q', σ'.qs[j]? = some q' → nL σ j + out.n = 9 ∧ ∀ n o, aget (qSto q') n = some o → aget (asets (stoL σ bq j) out.ob) n = some o
  gn : σ'.qs[j]? = none → nL σ j + out.n = 2
  hlen : σ.qs.length ≤ σ'.qs.length
  hoth : ∀ i, i ≠ j → σ'.qs[i]? = σ.qs[i]?
  hj : (∃ q', σ'.qs[j]? = some q') ∨ σ.qs.length ≤ j

theorem pack {P : Program} {f : FuncId} {σ σ' : LS} {j : Nat} {vs : List V} {x : V} (hjl : j ≤ σ.qs.length) (hp : V.prs vs = true) (hx : x.pr = true) (C : ∀ bq, ∃ out : Out, FnOk P f (.ptr 1 0 :: vs) ⟨stoL σ bq j, nL σ j⟩ out ∧ out.v = x ∧ Upd σ σ' j bq out) :
    FnOk P f (.fpt 0 0 0 :: vs) ⟨[(0, .abs (JL σ))], 1⟩ { v := x, ob := [(0, .abs (JL σ'))], rd := true } := by
  refine ⟨(C fun _ => 0).choose_spec.1.1, fun Λ args hr hn hsz hargs => ?_⟩
  have h1 : Λ.nxt = 1 := hn
  obtain ⟨_, hmono, hfr, ow, il, bL, bM, bq, Λ0, hB, hJ⟩ := hr.sto 0 _ rfl
  obtain ⟨out, hC, rfl, hU⟩ := C bq
  have hB : Base (fun b => Λ.w.heap[b]?) (Own Λ) σ ow il bL bM bq := hB
  have main : ∀ (N : Nat) (fr : Nat → Nat → Nat), nL σ j = N → (N = 9 ∨ N = 2 ∧ σ.qs.length ≤ j) → (∀ k o, aget (stoL σ bq j) k = some o → k < N ∧ RelO (vw Λ ow il j N fr) k o) → ((∃ q, aget (stoL σ bq j) 3 = some (.map false (openE 5 q.lo q.k) none) ∧ aget (stoL σ bq j) 4 = some (qCell q) ∧ ∃ q', σ'.qs[j]? = some q') ∨ σ.qs.length ≤ j) →
      Calls P f args Λ.w fun e w' => ∃ v Λ', e = .returned v ∧ Λ'.w = w' ∧ Kp Λ Λ' ∧ Λ'.nxt = 1 + 0 ∧ RelS Λ' ⟨[(0, .abs (JL σ'))], 0⟩ ∧ RelV Λ' v out.v := by
    intro N fr hNe hN hsto hl
    have hv := vw_rel hB hr h1 hN hsto
    have hrel : RelS (vw Λ ow il j N fr) ⟨stoL σ bq j, nL σ j⟩ := ⟨hv.sto, hv.inj, hv.new, hv.bnd, hv.frz, hv.injF, hv.bndF, hv.frzF⟩
    have hrep : ∀ v x, RepT Λ.lab Λ.w v x → RepT (vw Λ ow il j N fr).lab (vw Λ ow il j N fr).w v x := fun v x h => vw_rep hB hr h1 h
    have hargs' : ∀ (i : Nat) (v : Value) (y : V), args[i]? = some v → (V.ptr 1 0 :: vs)[i]? = some y → RelV (vw Λ ow il j N fr) v y := by
      intro i v y ha hy
      cases i with
      | zero =>
        simp at hy; subst hy
        have := hargs 0 v (.fpt 0 0 0) ha rfl
        cases this with
        | @fpt b _ _ _ hk hb =>
          have hi := hB.idx b 0 hb
          have hbL : b = bL := by
            by_cases e : b = bL
            · exact e
            · rw [if_neg e] at hi; omega
          subst hbL
          exact .ptr (show 1 < N by omega) ((vw_own hB.oL (.inl hB.wL)).trans hB.iL)
      | succ i =>
        have := hargs (i + 1) v y ha (by simpa using hy)
        exact this.pr hrep (V.prs_at hp i y (by simpa using hy))
    refine (hC.2 (vw Λ ow il j N fr) args hrel hNe.symm (by simpa using hsz) hargs').mono fun e w' he => ?_
    obtain ⟨v, Λ', rfl, rfl, k1, k2, k3, k4⟩ := he
    have k2' : Λ'.nxt = nL σ j + out.n := k2
    obtain ⟨sx, g0⟩ := hU.g0
    have hA : Aft Λ' σ σ' j bq bq (asets (stoL σ bq j) out.ob) sx := ⟨g0, fun _ _ => rfl, hU.g1, fun q' hq' => ⟨k2'.trans (hU.gq q' hq').1, (hU.gq q' hq').2⟩, fun hn => k2'.trans (hU.gn hn), hU.hlen, hU.hoth⟩
    obtain ⟨r1, r2⟩ := out_jl hB hJ hr h1 hfr hv k1 k3 hA hl
    exact ⟨v, outL Λ Λ', rfl, rfl, r1, rfl, r2, k4.pr (fun v x h => out_rep hB hr h1 hv k1 h) hx⟩
  cases hq : σ.qs[j]? with
  | some q =>
    have hlt := (List.getElem?_eq_some_iff.1 hq).1
    have hj' := hJ j q hq
    refine main 9 (Λ0 j).frf (by simp [nL, hq]) (.inl rfl) (fun k o hk => ?_) (.inl ⟨q, by simp [stoL, hq, aget, qSto], by simp [stoL, hq, aget, qSto], hU.hj.resolve_right (by omega)⟩)
    simp only [stoL, hq, aget] at hk
    split at hk
    · rename_i e; subst e; cases hk
      exact ⟨by decide, vw_map hB hr h1 (.inl rfl)⟩
    · split at hk
      · rename_i e; subst e; cases hk
        exact ⟨by decide, vw_loader hB hr h1 (by decide)⟩
      · obtain ⟨a1, a2, a3⟩ := qSto_hi q hk
        exact ⟨a3, RelO.tr (vw_tr hB hr h1 hj') (by rw [hj'.nxt]; exact a3) (hj'.obj k o hk) a1⟩
  | none =>
    have hle : σ.qs.length ≤ j := List.getElem?_eq_none_iff.1 hq
    refine main 2 (fun _ _ => 0) (by simp [nL, hq]) (.inr ⟨rfl, hle⟩) (fun k o hk => ?_) (.inr hle)
    simp only [stoL, hq, aget] at hk
    split at hk
    · rename_i e; subst e; cases hk
      exact ⟨by decide, vw_map hB hr h1 (.inr ⟨rfl, hle⟩)⟩
    · split at hk
      · rename_i e; subst e; cases hk
        exact ⟨by decide, vw_loader hB hr h1 (by decide)⟩
      · cases hk
end Go.GB.C35


/-
  L36D: chapter 35: a new loader as one object; what contracts say of the whole loader.
-/
namespace Go.GB.C35
open Go.GB
set_option linter.unusedSimpArgs false
set_option linter.unusedVariables false

/-- the labels of a new loader -/
def newL (Λ' : L) : L where
  lab := fun b => match Λ'.lab b with
    | .fix n => .fix n
    | .arr _ n => .fix (some n)
    | .far _ _ n => .fix (some n)
    | .obj n => if n = 1 then .fob 0 0 else if n = 0 then .fob 0 (b + 1) else .fix (some 0)
    | .fob _ _ => .fix (some 0)
  fro := fun _ => 0
  nxt := 1
  w := Λ'.w
  frf := fun _ _ => 0
theorem newL_inv {Λ' : L} {b k i : Nat} (h : (newL Λ').lab b = .fob k i) : k = 0 ∧ (Λ'.lab b = .obj 1 ∧ i = 0 ∨ Λ'.lab b = .obj 0 ∧ i = b + 1) := by
  simp only [newL] at h
  cases hl : Λ'.lab b with
  | obj n =>
    simp only [hl] at h
    split at h
    · rename_i e; subst e; cases h; exact ⟨rfl, .inl ⟨rfl, rfl⟩⟩
    · split at h
      · rename_i e; subst e; cases h; exact ⟨rfl, .inr ⟨rfl, rfl⟩⟩
      · cases h
  | _ => simp [hl] at h
theorem newL_not {Λ' : L} {b : Nat} : (∃ n, (newL Λ').lab b = .fix n) ∨ ∃ i, (newL Λ').lab b = .fob 0 i := by
  simp only [newL]
  cases hl : Λ'.lab b with
  | obj n =>
    simp only
    split
    · exact .inr ⟨_, rfl⟩
    · split
      · exact .inr ⟨_, rfl⟩
      · exact .inl ⟨_, rfl⟩
  | _ => exact .inl ⟨_, rfl⟩
theorem newL_rd {Λ' : L} {b o : Nat} (h : Rd Λ'.lab b o) : Rd (newL Λ').lab b o := by
  unfold Rd at *
  cases hl : Λ'.lab b <;> rw [hl] at h <;> first | exact h.elim | (simp [newL, hl]; exact h)

theorem packNew {P : Program} {f : FuncId} {vs : List V} {m : Int} {x : V} {sx : Option (Nat × List Nat)} (hx : x.pr = true) (h : FnOk P f vs ⟨[], 0⟩ { v := .tup [.ptr 1 0, x], ob := [(0, .map false [] sx), (1, .cells [.t (.int .i64 m), .mp 0, .t (.int .i64 0), .t (.int .i64 0)])], n := 2 }) :
    FnOk P f vs ⟨[], 0⟩ { v := .tup [.fpt 0 0 0, x], ob := [(0, .abs (JL ⟨m, 0, 0, []⟩))], n := 1 } := by
  refine ⟨h.1, fun Λ args hr hn hsz hargs => (h.2 Λ args hr hn hsz hargs).mono fun e w' he => ?_⟩
  obtain ⟨v, Λ', rfl, rfl, k1, k2, k3, k4⟩ := he
  have hn0 : Λ.nxt = 0 := hn
  have hfix : ∀ b, ∃ n, Λ.lab b = .fix n := by
    intro b
    cases hl : Λ.lab b with
    | fix n => exact ⟨n, rfl⟩
    | obj k => have := hr.bnd b k (.inl hl); omega
    | arr k n => have := hr.bnd b k (.inr ⟨n, hl⟩); omega
    | fob k i => have := hr.bndF b k (.inl ⟨i, hl⟩); omega
    | far k i n => have := hr.bndF b k (.inr ⟨i, n, hl⟩); omega
  have hrep : ∀ v x, RepT Λ'.lab Λ'.w v x → RepT (newL Λ').lab (newL Λ').w v x := fun v x hx => hx.keep fun _ _ _ _ hrd => ⟨newL_rd hrd, rfl⟩
  obtain ⟨_, bM, ents, clock, m1, m2, m3⟩ := k3.sto 0 _ rfl
  obtain ⟨_, bL, arr, t, l1, l2, l3, l4⟩ := k3.sto 1 _ rfl
  refine ⟨v, newL Λ', rfl, rfl, ⟨⟨k1.fr.os, k1.fr.tape, k1.fr.output, k1.fr.size, fun b hb n hl => ?_, fun b hb k n hl => ?_, fun b hb k i n hl => ?_⟩, by rw [hn0]; exact Nat.zero_le _, fun b k hk => by omega, fun b k n hk => by omega, fun k hk => by omega, fun b k i hk => by omega, fun b k i n hk => by omega, fun k i hk => by omega, fun b k i hk => by omega⟩, rfl, ⟨fun k o hk => ?_, fun b b' k e1 e2 => ?_, fun b hb => ?_, fun b k hb => ?_, fun _ _ => rfl, fun b b' k i e1 e2 => ?_, fun b k hb => ?_, fun _ _ _ => rfl⟩, ?_⟩
  · obtain ⟨a1, a2⟩ := k1.fr.fix b hb n hl
    exact ⟨by simp [newL, a1], a2⟩
  · obtain ⟨n', e⟩ := hfix b; rw [hl] at e; cases e
  · obtain ⟨n', e⟩ := hfix b; rw [hl] at e; cases e
  · simp only [asets, aset, aget] at hk
    split at hk
    · rename_i e; subst e; cases hk
      refine ⟨Nat.zero_lt_one, JL_mono _, rfl, fun _ => 0, fun b => Λ'.lab b, bL, bM, fun _ => 0, fun _ => Λ', ⟨fun b i hb => ?_, by simp [newL, l1], rfl, l1, ⟨bM + 1, by simp [newL, m1]⟩, rfl, m1, fun b i hb _ => ?_, fun b i _ h0 => absurd rfl h0, fun b b' i i' hb hb' _ he => ?_, ?_, ?_, fun j q hj => by simp at hj⟩, fun j q hj => by simp at hj⟩
      · obtain ⟨_, ⟨e, e'⟩ | ⟨e, e'⟩⟩ := newL_inv hb
        · rw [if_pos (k3.inj b bL 1 e l1)]; exact e'
        · rw [if_neg (by rintro rfl; rw [l1] at e; cases e)]; exact e'
      · obtain ⟨_, ⟨e, e'⟩ | ⟨e, e'⟩⟩ := newL_inv hb
        · exact .inl (k3.inj b bL 1 e l1)
        · exact .inr (k3.inj b bM 0 e m1)
      · obtain ⟨_, ⟨e, e'⟩ | ⟨e, e'⟩⟩ := newL_inv hb
        · exact k3.inj b b' 1 e (he ▸ e)
        · exact k3.inj b b' 0 e (he ▸ e)
      · obtain ⟨a0, a1, a2, a3, rfl⟩ := arr4 l3
        have q0 := l4 0 a0 _ rfl rfl
        have q1 := l4 1 a1 _ rfl rfl
        have q2 := l4 2 a2 _ rfl rfl
        have q3 := l4 3 a3 _ rfl rfl
        have i0 : a0 = .int .i64 m := by cases q0 with | t h => cases h; rfl
        have i2 : a2 = .int .i64 0 := by cases q2 with | t h => cases h; rfl
        have i3 : a3 = .int .i64 0 := by cases q3 with | t h => cases h; rfl
        have i1 : a1 = .map (some bM) := by
          cases q1 with
          | mp hk h => rw [k3.inj _ _ 0 h m1]
        subst i0; subst i1; subst i2; subst i3
        exact ⟨t, l2⟩
      · exact ⟨ents, clock, m2, m3.size, fun i e q hi hq => by simp at hq, m3.born, m3.apart⟩
    · cases hk
  · rcases newL_not (Λ' := Λ') (b := b) with ⟨n, e⟩ | ⟨i, e⟩ <;> rw [e] at e1 <;> cases e1
  · have := k3.new b hb
    simp [newL, this]
  · rcases newL_not (Λ' := Λ') (b := b) with ⟨n, e⟩ | ⟨i, e⟩ <;> rw [e] at hb <;> rcases hb with hb | ⟨_, hb⟩ <;> cases hb
  · obtain ⟨_, ⟨e, e'⟩ | ⟨e, e'⟩⟩ := newL_inv e1 <;> obtain ⟨_, ⟨f, f'⟩ | ⟨f, f'⟩⟩ := newL_inv e2
    · exact k3.inj b b' 1 e f
    · omega
    · omega
    · omega
  · show k < 1
    rcases newL_not (Λ' := Λ') (b := b) with ⟨n, e⟩ | ⟨i, e⟩ <;> rw [e] at hb <;> rcases hb with ⟨_, hb⟩ | ⟨_, _, hb⟩ <;> cases hb
    exact Nat.zero_lt_one
  · cases k4 with
    | @tup us _ hs hv =>
      refine .tup hs fun i u c a1 a2 => ?_
      match i, a2 with
      | 0, a2 =>
        simp at a2; subst a2
        have := hv 0 u _ a1 rfl
        cases this with
        | ptr hk hb => exact .fpt Nat.zero_lt_one (by simp [newL, hb])
      | 1, a2 =>
        simp at a2; subst a2
        exact (hv 1 u _ a1 rfl).pr hrep hx

theorem stoL_some {σ : LS} {j : Nat} {q : Q} (h : σ.qs[j]? = some q) (bq : Nat → Nat) : stoL σ bq j = (0, .map false (esOf bq σ.qs j) none) :: (1, lCell σ) :: qSto q ∧ nL σ j = 9 := by
  simp [stoL, nL, h]
theorem stoL_none {σ : LS} (bq : Nat → Nat) {j : Nat} (h : σ.qs.length ≤ j) : stoL σ bq j = [(0, .map false (esOf bq σ.qs j) none), (1, lCell σ)] ∧ nL σ j = 2 := by
  have : σ.qs[j]? = none := by simp [h]
  simp [stoL, nL, this]
theorem esOf_set {bq : Nat → Nat} {qs : List Q} {j : Nat} {q q' : Q} (h : qs[j]? = some q) (hf : q'.f = q.f) : esOf bq (qs.set j q') j = esOf bq qs j := by
  apply List.ext_getElem?
  intro i
  simp only [esOf, List.getElem?_mapIdx, List.getElem?_set]
  obtain ⟨hlt, rfl⟩ := List.getElem?_eq_some_iff.1 h
  split
  · rename_i e; subst e
    simp [hlt, esAt, hf]
  · rfl
theorem esOf_push {bq : Nat → Nat} {qs : List Q} {q' : Q} : esOf bq (qs ++ [q']) qs.length = esOf bq qs qs.length ++ [([.int .i64 q'.f], .ptr 4 0)] := by
  simp [esOf, List.mapIdx_append, esAt]
theorem upd_q {σ : LS} {j : Nat} {q q' : Q} {c' s' : Int} {x : V} (h : σ.qs[j]? = some q) (hf : q'.f = q.f) (bq : Nat → Nat) : Upd σ ⟨σ.m, c', s', σ.qs.set j q'⟩ j bq { v := x, ob := (1, lCell ⟨σ.m, c', s', σ.qs.set j q'⟩) :: qSto q', n := 0, rd := true } := by
  obtain ⟨hlt, he⟩ := List.getElem?_eq_some_iff.1 h
  have e : asets (stoL σ bq j) ((1, lCell ⟨σ.m, c', s', σ.qs.set j q'⟩) :: qSto q') = (0, .map false (esOf bq σ.qs j) none) :: (1, lCell ⟨σ.m, c', s', σ.qs.set j q'⟩) :: qSto q' := by
    rw [(stoL_some h bq).1]; rfl
  refine ⟨⟨none, by rw [e, esOf_set h hf]; rfl⟩, by rw [e]; rfl, fun q2 hq2 => ?_, fun hn => ?_, by simp, fun i hi => ?_, .inl ⟨q', by simp [hlt]⟩⟩
  · have : q2 = q' := by simp [hlt] at hq2; exact hq2.symm
    subst this
    refine ⟨(stoL_some h bq).2, fun n o ho => ?_⟩
    have := (qSto_hi q2 ho).2
    rw [e]; simp only [aget]
    rw [if_neg (by omega), if_neg (by omega)]; exact ho
  · simp [hlt] at hn
  · simp only [List.getElem?_set]; rw [if_neg (fun e => hi e.symm)]
theorem upd_same {σ : LS} {j : Nat} {x : V} (bq : Nat → Nat) (hj : j ≤ σ.qs.length) : Upd σ σ j bq { v := x, rd := true } := by
  cases h : σ.qs[j]? with
  | some q =>
    obtain ⟨e, en⟩ := stoL_some h bq
    refine ⟨⟨none, ?_⟩, ?_, fun q2 hq2 => ?_, fun hn => (by rw [h] at hn; cases hn), Nat.le_refl _, fun _ _ => rfl, .inl ⟨q, h⟩⟩
    · show aget (stoL σ bq j) 0 = _; rw [e]; rfl
    · show aget (stoL σ bq j) 1 = _; rw [e]; rfl
    · rw [h] at hq2; cases hq2
      refine ⟨en, fun n o ho => ?_⟩
      have := (qSto_hi q ho).2
      show aget (stoL σ bq j) n = _
      rw [e]; simp only [aget]
      rw [if_neg (by omega), if_neg (by omega)]; exact ho
  | none =>
    have hle : σ.qs.length ≤ j := List.getElem?_eq_none_iff.1 h
    obtain ⟨e, en⟩ := stoL_none (σ := σ) bq hle
    refine ⟨⟨none, ?_⟩, ?_, fun q2 hq2 => (by rw [h] at hq2; cases hq2), fun _ => en, Nat.le_refl _, fun _ _ => rfl, .inr hle⟩
    · show aget (stoL σ bq j) 0 = _; rw [e]; rfl
    · show aget (stoL σ bq j) 1 = _; rw [e]; rfl
theorem upd_push {σ : LS} {q' : Q} {x : V} (bq : Nat → Nat) : Upd σ ⟨σ.m, σ.c, σ.s, σ.qs ++ [q']⟩ σ.qs.length bq { v := x, ob := (0, .map false (esOf bq σ.qs σ.qs.length ++ [([.int .i64 q'.f], .ptr 4 0)]) none) :: qSto q', n := 7, rd := true } := by
  obtain ⟨e0, en⟩ := stoL_none (σ := σ) bq (Nat.le_refl _)
  have e : asets (stoL σ bq σ.qs.length) ((0, .map false (esOf bq σ.qs σ.qs.length ++ [([.int .i64 q'.f], .ptr 4 0)]) none) :: qSto q') = (0, .map false (esOf bq σ.qs σ.qs.length ++ [([.int .i64 q'.f], .ptr 4 0)]) none) :: (1, lCell σ) :: qSto q' := by
    rw [e0]; rfl
  refine ⟨⟨none, by rw [e, esOf_push]; rfl⟩, by rw [e]; rfl, fun q2 hq2 => ?_, fun hn => (by simp at hn), by simp, fun i hi => ?_, .inl ⟨q', by simp⟩⟩
  · have : q2 = q' := by simp at hq2; exact hq2.symm
    subst this
    refine ⟨by simp only [en], fun n o ho => ?_⟩
    have := (qSto_hi q2 ho).2
    rw [e]; simp only [aget]
    rw [if_neg (by omega), if_neg (by omega)]; exact ho
  · by_cases hlt : i < σ.qs.length
    · simp [List.getElem?_append_left hlt]
    · have : σ.qs.length < i := by omega
      rw [List.getElem?_eq_none (by simp; omega), List.getElem?_eq_none (by omega)]
end Go.GB.C35

