/-
  YtjbpmfglccfkaaaGreatDoorP6: lemmas of this proof (part 6). No conditions.
-/
import Derived.Test.YtjbpmfglccfkaaaGreatDoorP5
import Derived.KernelRfl

/-
  F23A: directives: rules as data; what the two checks compute is the same.
-/
namespace Go.GB.C23
open Go.GB Go.GB.C11
set_option linter.unusedSimpArgs false
set_option linter.unusedVariables false
set_option maxRecDepth 100000
set_option maxHeartbeats 2000000

/- sets of fields: parts between spaces -/
def splS : Str → List Str
  | [] => [[]]
  | c :: r => if c = 32 then [] :: splS r else match splS r with
    | h :: t => (c :: h) :: t
    | [] => [[c]]
theorem splS_ne : ∀ s : Str, splS s ≠ []
  | [] => by simp [splS]
  | c :: r => by
    unfold splS
    split
    · simp
    · split <;> simp
theorem splS_none : ∀ {s : Str}, ¬ (32 : UInt8) ∈ s → splS s = [s]
  | [], _ => rfl
  | c :: r, h => by
    have h1 : ¬ c = 32 := fun e => h (by rw [e]; exact List.mem_cons_self ..)
    have h2 := splS_none (s := r) fun e => h (List.mem_cons_of_mem _ e)
    unfold splS
    rw [if_neg h1, h2]
theorem splS_app : ∀ {a b : Str}, ¬ (32 : UInt8) ∈ a → splS (a ++ 32 :: b) = a :: splS b
  | [], b, _ => by simp [splS]
  | c :: r, b, h => by
    have h1 : ¬ c = 32 := fun e => h (by rw [e]; exact List.mem_cons_self ..)
    have h2 := splS_app (a := r) (b := b) fun e => h (List.mem_cons_of_mem _ e)
    rw [List.cons_append, splS, if_neg h1, h2]
theorem splS_len : ∀ s : Str, (splS s).length = s.count 32 + 1
  | [] => rfl
  | c :: r => by
    have ih := splS_len r
    unfold splS
    split
    · rename_i h; subst h; simp [ih]
    · rename_i h
      have : ¬ (32 : UInt8) = c := fun e => h e.symm
      have hne := splS_ne r
      cases hs : splS r with
      | nil => exact absurd hs hne
      | cons x t => rw [hs] at ih; simp at ih ⊢; rw [List.count_cons_of_ne h]; omega
theorem splS_mem : ∀ {s p : Str}, p ∈ splS s → p.length ≤ s.length
  | [], p, h => by simp [splS] at h; subst h; simp
  | c :: r, p, h => by
    unfold splS at h
    split at h
    · rcases List.mem_cons.1 h with rfl | h
      · simp
      · have := splS_mem h; simp; omega
    · cases hs : splS r with
      | nil => exact absurd hs (splS_ne r)
      | cons x t =>
        rw [hs] at h
        have hx := splS_mem (s := r) (p := x) (by rw [hs]; exact List.mem_cons_self ..)
        rcases List.mem_cons.1 h with rfl | h
        · simp; omega
        · have := splS_mem (s := r) (p := p) (by rw [hs]; exact List.mem_cons_of_mem _ h); simp; omega

/- rules -/
structure PRule where
  name : Str
  may : Bool
  k : Nat
structure Rule where
  places : Int
  again : Bool
  params : List PRule
def ruleF (n : Str) : Option Rule :=
  if n = ([107, 101, 121] : Str) then some ⟨1, true, [⟨([102, 105, 101, 108, 100, 115] : Str), false, 0⟩]⟩
  else if n = ([101, 120, 116, 101, 114, 110, 97, 108] : Str) then some ⟨4, false, []⟩
  else if n = ([115, 104, 97, 114, 101, 97, 98, 108, 101] : Str) then some ⟨4, false, []⟩
  else if n = ([105, 110, 97, 99, 99, 101, 115, 115, 105, 98, 108, 101] : Str) then some ⟨4, false, []⟩
  else if n = ([114, 101, 113, 117, 105, 114, 101, 115] : Str) then some ⟨4, false, [⟨([102, 105, 101, 108, 100, 115] : Str), false, 0⟩]⟩
  else if n = ([112, 114, 111, 118, 105, 100, 101, 115] : Str) then some ⟨4, false, [⟨([102, 105, 101, 108, 100, 115] : Str), false, 0⟩]⟩
  else if n = ([116, 97, 103] : Str) then some ⟨31, true, [⟨([110, 97, 109, 101] : Str), false, 1⟩]⟩
  else if n = ([97, 117, 116, 104, 101, 110, 116, 105, 99, 97, 116, 101, 100] : Str) then some ⟨13, false, []⟩
  else if n = ([115, 99, 111, 112, 101, 115] : Str) then some ⟨13, false, [⟨([97, 108, 108] : Str), false, 2⟩]⟩
  else if n = ([99, 111, 115, 116] : Str) then some ⟨12, false, [⟨([119, 101, 105, 103, 104, 116] : Str), false, 3⟩]⟩
  else if n = ([108, 105, 115, 116, 83, 105, 122, 101] : Str) then some ⟨12, false, [⟨([97, 115, 115, 117, 109, 101, 100] : Str), false, 3⟩]⟩
  else if n = ([99, 97, 99, 104, 101, 67, 111, 110, 116, 114, 111, 108] : Str) then some ⟨13, false, [⟨([109, 97, 120, 65, 103, 101] : Str), false, 3⟩, ⟨([112, 114, 105, 118, 97, 116, 101] : Str), true, 4⟩]⟩
  else if n = ([100, 101, 112, 114, 101, 99, 97, 116, 101, 100] : Str) then some ⟨28, false, [⟨([114, 101, 97, 115, 111, 110] : Str), true, 1⟩]⟩
  else none
def kstr (n a : Str) : Str :=
  if n ++ [46] ++ a = [107, 101, 121, 46, 102, 105, 101, 108, 100, 115] then ([115, 101, 116] : Str)
  else if n ++ [46] ++ a = [114, 101, 113, 117, 105, 114, 101, 115, 46, 102, 105, 101, 108, 100, 115] then ([115, 101, 116] : Str)
  else if n ++ [46] ++ a = [112, 114, 111, 118, 105, 100, 101, 115, 46, 102, 105, 101, 108, 100, 115] then ([115, 101, 116] : Str)
  else if n ++ [46] ++ a = [116, 97, 103, 46, 110, 97, 109, 101] then ([116, 101, 120, 116] : Str)
  else if n ++ [46] ++ a = [115, 99, 111, 112, 101, 115, 46, 97, 108, 108] then ([116, 101, 120, 116, 115] : Str)
  else if n ++ [46] ++ a = [99, 111, 115, 116, 46, 119, 101, 105, 103, 104, 116] then ([110, 117, 109, 98, 101, 114] : Str)
  else if n ++ [46] ++ a = [108, 105, 115, 116, 83, 105, 122, 101, 46, 97, 115, 115, 117, 109, 101, 100] then ([110, 117, 109, 98, 101, 114] : Str)
  else if n ++ [46] ++ a = [99, 97, 99, 104, 101, 67, 111, 110, 116, 114, 111, 108, 46, 109, 97, 120, 65, 103, 101] then ([110, 117, 109, 98, 101, 114] : Str)
  else if n ++ [46] ++ a = [99, 97, 99, 104, 101, 67, 111, 110, 116, 114, 111, 108, 46, 112, 114, 105, 118, 97, 116, 101] then ([116, 114, 117, 116, 104] : Str)
  else if n ++ [46] ++ a = [100, 101, 112, 114, 101, 99, 97, 116, 101, 100, 46, 114, 101, 97, 115, 111, 110] then ([116, 101, 120, 116] : Str)
  else []

theorem dotEq {n a x y : Str} (h1 : ¬ (46 : UInt8) ∈ x) (h2 : ¬ (46 : UInt8) ∈ y) : (n ++ [46] ++ a = x ++ [46] ++ y) ↔ (n = x ∧ a = y) := by
  constructor
  · intro h
    rw [List.append_assoc, List.append_assoc, List.append_eq_append_iff] at h
    rcases h with ⟨c, rfl, h⟩ | ⟨c, rfl, h⟩
    · cases c with
      | nil => simp at h; exact ⟨by simp, h⟩
      | cons z c =>
        simp only [List.cons_append, List.nil_append, List.cons.injEq] at h
        exact absurd (by rw [← h.1]; simp) h1
    · cases c with
      | nil => simp at h; exact ⟨by simp, h.symm⟩
      | cons z c =>
        simp only [List.cons_append, List.nil_append, List.cons.injEq] at h
        exact absurd (by rw [h.2]; simp) h2
  · rintro ⟨rfl, rfl⟩; rfl
theorem kd0 (n a : Str) : (n ++ [46] ++ a = [107, 101, 121, 46, 102, 105, 101, 108, 100, 115]) ↔ (n = ([107, 101, 121] : Str) ∧ a = ([102, 105, 101, 108, 100, 115] : Str)) := dotEq (x := ([107, 101, 121] : Str)) (y := ([102, 105, 101, 108, 100, 115] : Str)) (by decide) (by decide)
theorem kd1 (n a : Str) : (n ++ [46] ++ a = [114, 101, 113, 117, 105, 114, 101, 115, 46, 102, 105, 101, 108, 100, 115]) ↔ (n = ([114, 101, 113, 117, 105, 114, 101, 115] : Str) ∧ a = ([102, 105, 101, 108, 100, 115] : Str)) := dotEq (x := ([114, 101, 113, 117, 105, 114, 101, 115] : Str)) (y := ([102, 105, 101, 108, 100, 115] : Str)) (by decide) (by decide)
theorem kd2 (n a : Str) : (n ++ [46] ++ a = [112, 114, 111, 118, 105, 100, 101, 115, 46, 102, 105, 101, 108, 100, 115]) ↔ (n = ([112, 114, 111, 118, 105, 100, 101, 115] : Str) ∧ a = ([102, 105, 101, 108, 100, 115] : Str)) := dotEq (x := ([112, 114, 111, 118, 105, 100, 101, 115] : Str)) (y := ([102, 105, 101, 108, 100, 115] : Str)) (by decide) (by decide)
theorem kd3 (n a : Str) : (n ++ [46] ++ a = [116, 97, 103, 46, 110, 97, 109, 101]) ↔ (n = ([116, 97, 103] : Str) ∧ a = ([110, 97, 109, 101] : Str)) := dotEq (x := ([116, 97, 103] : Str)) (y := ([110, 97, 109, 101] : Str)) (by decide) (by decide)
theorem kd4 (n a : Str) : (n ++ [46] ++ a = [115, 99, 111, 112, 101, 115, 46, 97, 108, 108]) ↔ (n = ([115, 99, 111, 112, 101, 115] : Str) ∧ a = ([97, 108, 108] : Str)) := dotEq (x := ([115, 99, 111, 112, 101, 115] : Str)) (y := ([97, 108, 108] : Str)) (by decide) (by decide)
theorem kd5 (n a : Str) : (n ++ [46] ++ a = [99, 111, 115, 116, 46, 119, 101, 105, 103, 104, 116]) ↔ (n = ([99, 111, 115, 116] : Str) ∧ a = ([119, 101, 105, 103, 104, 116] : Str)) := dotEq (x := ([99, 111, 115, 116] : Str)) (y := ([119, 101, 105, 103, 104, 116] : Str)) (by decide) (by decide)
theorem kd6 (n a : Str) : (n ++ [46] ++ a = [108, 105, 115, 116, 83, 105, 122, 101, 46, 97, 115, 115, 117, 109, 101, 100]) ↔ (n = ([108, 105, 115, 116, 83, 105, 122, 101] : Str) ∧ a = ([97, 115, 115, 117, 109, 101, 100] : Str)) := dotEq (x := ([108, 105, 115, 116, 83, 105, 122, 101] : Str)) (y := ([97, 115, 115, 117, 109, 101, 100] : Str)) (by decide) (by decide)
theorem kd7 (n a : Str) : (n ++ [46] ++ a = [99, 97, 99, 104, 101, 67, 111, 110, 116, 114, 111, 108, 46, 109, 97, 120, 65, 103, 101]) ↔ (n = ([99, 97, 99, 104, 101, 67, 111, 110, 116, 114, 111, 108] : Str) ∧ a = ([109, 97, 120, 65, 103, 101] : Str)) := dotEq (x := ([99, 97, 99, 104, 101, 67, 111, 110, 116, 114, 111, 108] : Str)) (y := ([109, 97, 120, 65, 103, 101] : Str)) (by decide) (by decide)
theorem kd8 (n a : Str) : (n ++ [46] ++ a = [99, 97, 99, 104, 101, 67, 111, 110, 116, 114, 111, 108, 46, 112, 114, 105, 118, 97, 116, 101]) ↔ (n = ([99, 97, 99, 104, 101, 67, 111, 110, 116, 114, 111, 108] : Str) ∧ a = ([112, 114, 105, 118, 97, 116, 101] : Str)) := dotEq (x := ([99, 97, 99, 104, 101, 67, 111, 110, 116, 114, 111, 108] : Str)) (y := ([112, 114, 105, 118, 97, 116, 101] : Str)) (by decide) (by decide)
theorem kd9 (n a : Str) : (n ++ [46] ++ a = [100, 101, 112, 114, 101, 99, 97, 116, 101, 100, 46, 114, 101, 97, 115, 111, 110]) ↔ (n = ([100, 101, 112, 114, 101, 99, 97, 116, 101, 100] : Str) ∧ a = ([114, 101, 97, 115, 111, 110] : Str)) := dotEq (x := ([100, 101, 112, 114, 101, 99, 97, 116, 101, 100] : Str)) (y := ([114, 101, 97, 115, 111, 110] : Str)) (by decide) (by decide)

def hasD (n : Str) (l : List Dir) : Bool := l.any fun d => d.name == n
def argF (a : Str) : List Arg → Option Val
  | [] => none
  | x :: r => if x.name = a then some x.val else argF a r
def findP (a : Str) : List PRule → Option PRule
  | [] => none
  | x :: r => if x.name = a then some x else findP a r
theorem argF_some (a : Str) : ∀ l : List Arg, (argF a l).isSome = l.any fun x => x.name == a
  | [] => rfl
  | x :: r => by
    simp only [argF, List.any_cons]
    split
    · rename_i h; simp [h]
    · rename_i h; rw [argF_some a r]; simp [h]
def kindStr : Nat → Str
  | 0 => ([115, 101, 116] : Str)
  | 1 => ([116, 101, 120, 116] : Str)
  | 2 => ([116, 101, 120, 116, 115] : Str)
  | 3 => ([110, 117, 109, 98, 101, 114] : Str)
  | _ => ([116, 114, 117, 116, 104] : Str)
theorem ruleF_some {n : Str} {r : Rule} (h : ruleF n = some r) : (n = ([107, 101, 121] : Str) ∧ r = ⟨1, true, [⟨([102, 105, 101, 108, 100, 115] : Str), false, 0⟩]⟩) ∨ (n = ([101, 120, 116, 101, 114, 110, 97, 108] : Str) ∧ r = ⟨4, false, []⟩) ∨ (n = ([115, 104, 97, 114, 101, 97, 98, 108, 101] : Str) ∧ r = ⟨4, false, []⟩) ∨ (n = ([105, 110, 97, 99, 99, 101, 115, 115, 105, 98, 108, 101] : Str) ∧ r = ⟨4, false, []⟩) ∨ (n = ([114, 101, 113, 117, 105, 114, 101, 115] : Str) ∧ r = ⟨4, false, [⟨([102, 105, 101, 108, 100, 115] : Str), false, 0⟩]⟩) ∨ (n = ([112, 114, 111, 118, 105, 100, 101, 115] : Str) ∧ r = ⟨4, false, [⟨([102, 105, 101, 108, 100, 115] : Str), false, 0⟩]⟩) ∨ (n = ([116, 97, 103] : Str) ∧ r = ⟨31, true, [⟨([110, 97, 109, 101] : Str), false, 1⟩]⟩) ∨ (n = ([97, 117, 116, 104, 101, 110, 116, 105, 99, 97, 116, 101, 100] : Str) ∧ r = ⟨13, false, []⟩) ∨ (n = ([115, 99, 111, 112, 101, 115] : Str) ∧ r = ⟨13, false, [⟨([97, 108, 108] : Str), false, 2⟩]⟩) ∨ (n = ([99, 111, 115, 116] : Str) ∧ r = ⟨12, false, [⟨([119, 101, 105, 103, 104, 116] : Str), false, 3⟩]⟩) ∨ (n = ([108, 105, 115, 116, 83, 105, 122, 101] : Str) ∧ r = ⟨12, false, [⟨([97, 115, 115, 117, 109, 101, 100] : Str), false, 3⟩]⟩) ∨ (n = ([99, 97, 99, 104, 101, 67, 111, 110, 116, 114, 111, 108] : Str) ∧ r = ⟨13, false, [⟨([109, 97, 120, 65, 103, 101] : Str), false, 3⟩, ⟨([112, 114, 105, 118, 97, 116, 101] : Str), true, 4⟩]⟩) ∨ (n = ([100, 101, 112, 114, 101, 99, 97, 116, 101, 100] : Str) ∧ r = ⟨28, false, [⟨([114, 101, 97, 115, 111, 110] : Str), true, 1⟩]⟩) := by
  unfold ruleF at h
  by_cases e0 : n = ([107, 101, 121] : Str)
  · rw [if_pos e0] at h; exact .inl ⟨e0, (Option.some.inj h).symm⟩
  rw [if_neg e0] at h
  by_cases e1 : n = ([101, 120, 116, 101, 114, 110, 97, 108] : Str)
  · rw [if_pos e1] at h; exact .inr (.inl ⟨e1, (Option.some.inj h).symm⟩)
  rw [if_neg e1] at h
  by_cases e2 : n = ([115, 104, 97, 114, 101, 97, 98, 108, 101] : Str)
  · rw [if_pos e2] at h; exact .inr (.inr (.inl ⟨e2, (Option.some.inj h).symm⟩))
  rw [if_neg e2] at h
  by_cases e3 : n = ([105, 110, 97, 99, 99, 101, 115, 115, 105, 98, 108, 101] : Str)
  · rw [if_pos e3] at h; exact .inr (.inr (.inr (.inl ⟨e3, (Option.some.inj h).symm⟩)))
  rw [if_neg e3] at h
  by_cases e4 : n = ([114, 101, 113, 117, 105, 114, 101, 115] : Str)
  · rw [if_pos e4] at h; exact .inr (.inr (.inr (.inr (.inl ⟨e4, (Option.some.inj h).symm⟩))))
  rw [if_neg e4] at h
  by_cases e5 : n = ([112, 114, 111, 118, 105, 100, 101, 115] : Str)
  · rw [if_pos e5] at h; exact .inr (.inr (.inr (.inr (.inr (.inl ⟨e5, (Option.some.inj h).symm⟩)))))
  rw [if_neg e5] at h
  by_cases e6 : n = ([116, 97, 103] : Str)
  · rw [if_pos e6] at h; exact .inr (.inr (.inr (.inr (.inr (.inr (.inl ⟨e6, (Option.some.inj h).symm⟩))))))
  rw [if_neg e6] at h
  by_cases e7 : n = ([97, 117, 116, 104, 101, 110, 116, 105, 99, 97, 116, 101, 100] : Str)
  · rw [if_pos e7] at h; exact .inr (.inr (.inr (.inr (.inr (.inr (.inr (.inl ⟨e7, (Option.some.inj h).symm⟩)))))))
  rw [if_neg e7] at h
  by_cases e8 : n = ([115, 99, 111, 112, 101, 115] : Str)
  · rw [if_pos e8] at h; exact .inr (.inr (.inr (.inr (.inr (.inr (.inr (.inr (.inl ⟨e8, (Option.some.inj h).symm⟩))))))))
  rw [if_neg e8] at h
  by_cases e9 : n = ([99, 111, 115, 116] : Str)
  · rw [if_pos e9] at h; exact .inr (.inr (.inr (.inr (.inr (.inr (.inr (.inr (.inr (.inl ⟨e9, (Option.some.inj h).symm⟩)))))))))
  rw [if_neg e9] at h
  by_cases e10 : n = ([108, 105, 115, 116, 83, 105, 122, 101] : Str)
  · rw [if_pos e10] at h; exact .inr (.inr (.inr (.inr (.inr (.inr (.inr (.inr (.inr (.inr (.inl ⟨e10, (Option.some.inj h).symm⟩))))))))))
  rw [if_neg e10] at h
  by_cases e11 : n = ([99, 97, 99, 104, 101, 67, 111, 110, 116, 114, 111, 108] : Str)
  · rw [if_pos e11] at h; exact .inr (.inr (.inr (.inr (.inr (.inr (.inr (.inr (.inr (.inr (.inr (.inl ⟨e11, (Option.some.inj h).symm⟩)))))))))))
  rw [if_neg e11] at h
  by_cases e12 : n = ([100, 101, 112, 114, 101, 99, 97, 116, 101, 100] : Str)
  · rw [if_pos e12] at h; exact .inr (.inr (.inr (.inr (.inr (.inr (.inr (.inr (.inr (.inr (.inr (.inr (⟨e12, (Option.some.inj h).symm⟩))))))))))))
  rw [if_neg e12] at h
  cases h
theorem kstr_eq {n : Str} {r : Rule} (h : ruleF n = some r) (a : Str) : kstr n a = match findP a r.params with | some p => kindStr p.k | none => [] := by
  by_cases a0 : a = ([102, 105, 101, 108, 100, 115] : Str)
  · subst a0
    rcases ruleF_some h with ⟨rfl, rfl⟩ | ⟨rfl, rfl⟩ | ⟨rfl, rfl⟩ | ⟨rfl, rfl⟩ | ⟨rfl, rfl⟩ | ⟨rfl, rfl⟩ | ⟨rfl, rfl⟩ | ⟨rfl, rfl⟩ | ⟨rfl, rfl⟩ | ⟨rfl, rfl⟩ | ⟨rfl, rfl⟩ | ⟨rfl, rfl⟩ | ⟨rfl, rfl⟩ <;> rfl
  have b0 : ¬ ([102, 105, 101, 108, 100, 115] : Str) = a := fun e => a0 e.symm
  by_cases a1 : a = ([110, 97, 109, 101] : Str)
  · subst a1
    rcases ruleF_some h with ⟨rfl, rfl⟩ | ⟨rfl, rfl⟩ | ⟨rfl, rfl⟩ | ⟨rfl, rfl⟩ | ⟨rfl, rfl⟩ | ⟨rfl, rfl⟩ | ⟨rfl, rfl⟩ | ⟨rfl, rfl⟩ | ⟨rfl, rfl⟩ | ⟨rfl, rfl⟩ | ⟨rfl, rfl⟩ | ⟨rfl, rfl⟩ | ⟨rfl, rfl⟩ <;> rfl
  have b1 : ¬ ([110, 97, 109, 101] : Str) = a := fun e => a1 e.symm
  by_cases a2 : a = ([97, 108, 108] : Str)
  · subst a2
    rcases ruleF_some h with ⟨rfl, rfl⟩ | ⟨rfl, rfl⟩ | ⟨rfl, rfl⟩ | ⟨rfl, rfl⟩ | ⟨rfl, rfl⟩ | ⟨rfl, rfl⟩ | ⟨rfl, rfl⟩ | ⟨rfl, rfl⟩ | ⟨rfl, rfl⟩ | ⟨rfl, rfl⟩ | ⟨rfl, rfl⟩ | ⟨rfl, rfl⟩ | ⟨rfl, rfl⟩ <;> rfl
  have b2 : ¬ ([97, 108, 108] : Str) = a := fun e => a2 e.symm
  by_cases a3 : a = ([119, 101, 105, 103, 104, 116] : Str)
  · subst a3
    rcases ruleF_some h with ⟨rfl, rfl⟩ | ⟨rfl, rfl⟩ | ⟨rfl, rfl⟩ | ⟨rfl, rfl⟩ | ⟨rfl, rfl⟩ | ⟨rfl, rfl⟩ | ⟨rfl, rfl⟩ | ⟨rfl, rfl⟩ | ⟨rfl, rfl⟩ | ⟨rfl, rfl⟩ | ⟨rfl, rfl⟩ | ⟨rfl, rfl⟩ | ⟨rfl, rfl⟩ <;> rfl
  have b3 : ¬ ([119, 101, 105, 103, 104, 116] : Str) = a := fun e => a3 e.symm
  by_cases a4 : a = ([97, 115, 115, 117, 109, 101, 100] : Str)
  · subst a4
    rcases ruleF_some h with ⟨rfl, rfl⟩ | ⟨rfl, rfl⟩ | ⟨rfl, rfl⟩ | ⟨rfl, rfl⟩ | ⟨rfl, rfl⟩ | ⟨rfl, rfl⟩ | ⟨rfl, rfl⟩ | ⟨rfl, rfl⟩ | ⟨rfl, rfl⟩ | ⟨rfl, rfl⟩ | ⟨rfl, rfl⟩ | ⟨rfl, rfl⟩ | ⟨rfl, rfl⟩ <;> rfl
  have b4 : ¬ ([97, 115, 115, 117, 109, 101, 100] : Str) = a := fun e => a4 e.symm
  by_cases a5 : a = ([109, 97, 120, 65, 103, 101] : Str)
  · subst a5
    rcases ruleF_some h with ⟨rfl, rfl⟩ | ⟨rfl, rfl⟩ | ⟨rfl, rfl⟩ | ⟨rfl, rfl⟩ | ⟨rfl, rfl⟩ | ⟨rfl, rfl⟩ | ⟨rfl, rfl⟩ | ⟨rfl, rfl⟩ | ⟨rfl, rfl⟩ | ⟨rfl, rfl⟩ | ⟨rfl, rfl⟩ | ⟨rfl, rfl⟩ | ⟨rfl, rfl⟩ <;> rfl
  have b5 : ¬ ([109, 97, 120, 65, 103, 101] : Str) = a := fun e => a5 e.symm
  by_cases a6 : a = ([112, 114, 105, 118, 97, 116, 101] : Str)
  · subst a6
    rcases ruleF_some h with ⟨rfl, rfl⟩ | ⟨rfl, rfl⟩ | ⟨rfl, rfl⟩ | ⟨rfl, rfl⟩ | ⟨rfl, rfl⟩ | ⟨rfl, rfl⟩ | ⟨rfl, rfl⟩ | ⟨rfl, rfl⟩ | ⟨rfl, rfl⟩ | ⟨rfl, rfl⟩ | ⟨rfl, rfl⟩ | ⟨rfl, rfl⟩ | ⟨rfl, rfl⟩ <;> rfl
  have b6 : ¬ ([112, 114, 105, 118, 97, 116, 101] : Str) = a := fun e => a6 e.symm
  by_cases a7 : a = ([114, 101, 97, 115, 111, 110] : Str)
  · subst a7
    rcases ruleF_some h with ⟨rfl, rfl⟩ | ⟨rfl, rfl⟩ | ⟨rfl, rfl⟩ | ⟨rfl, rfl⟩ | ⟨rfl, rfl⟩ | ⟨rfl, rfl⟩ | ⟨rfl, rfl⟩ | ⟨rfl, rfl⟩ | ⟨rfl, rfl⟩ | ⟨rfl, rfl⟩ | ⟨rfl, rfl⟩ | ⟨rfl, rfl⟩ | ⟨rfl, rfl⟩ <;> rfl
  have b7 : ¬ ([114, 101, 97, 115, 111, 110] : Str) = a := fun e => a7 e.symm
  unfold kstr
  simp only [kd0, kd1, kd2, kd3, kd4, kd5, kd6, kd7, kd8, kd9]
  rcases ruleF_some h with ⟨rfl, rfl⟩ | ⟨rfl, rfl⟩ | ⟨rfl, rfl⟩ | ⟨rfl, rfl⟩ | ⟨rfl, rfl⟩ | ⟨rfl, rfl⟩ | ⟨rfl, rfl⟩ | ⟨rfl, rfl⟩ | ⟨rfl, rfl⟩ | ⟨rfl, rfl⟩ | ⟨rfl, rfl⟩ | ⟨rfl, rfl⟩ | ⟨rfl, rfl⟩ <;> simp only [findP, a0, b0, a1, b1, a2, b2, a3, b3, a4, b4, a5, b5, a6, b6, a7, b7, and_false, if_false]
def badA (ps : List PRule) : List Arg → List Arg → Bool
  | _, [] => false
  | pre, x :: r => ((findP x.name ps).isNone || (argF x.name pre).isSome) || badA ps (pre ++ [x]) r
def missA (ps : List PRule) (l : List Arg) : Bool := ps.any fun p => !(argF p.name l).isSome && !p.may
def dupS : List Str → List Str → Bool
  | _, [] => false
  | pre, x :: r => decide (x ∈ pre) || dupS (pre ++ [x]) r
def setL (l : List Str) : List Str × Int :=
  if l.any (fun x => !nameF x || resF x) = true then ([], 3)
  else if l.length > 4 then ([], 4)
  else if dupS [] l = true then ([], 7)
  else (l, 0)
def setF (s : Str) : List Str × Int := setL (splS s)
def fitsK : Nat → Val → Bool
  | 0, v => v.kind == 3 && (setF v.text).2 == 0
  | 1, v => v.kind == 3
  | 2, v => v.kind == 5 && v.items.all fun x => x.kind == 3
  | 3, v => (v.kind == 2 && decide (0 ≤ v.int)) && decide (v.int < 2147483648)
  | _, v => v.kind == 1
def unfitA (ps : List PRule) (l : List Arg) : Bool := l.any fun x => match findP x.name ps with | some p => !fitsK p.k x.val | none => false
def argsE (ps : List PRule) (l : List Arg) : Int := if badA ps [] l = true then 22 else if missA ps l = true then 22 else if unfitA ps l = true then 23 else 0
/-- is this one of the places? -/
def atP (ps pl : Int) : Bool := andI .i64 ps pl != 0
def judgeF (pre : List Dir) (x : Dir) (place : Int) : Int := match ruleF x.name with
  | none => 29
  | some r => if atP r.places place = false then 29 else if (!r.again && hasD x.name pre) = true then 7 else argsE r.params x.args
def usesF (place : Int) (at_ : Str) : List Dir → List Dir → List Fault
  | _, [] => []
  | pre, x :: r => (if judgeF pre x place = 0 then [] else [⟨judgeF pre x place, at_⟩]) ++ usesF place at_ (pre ++ [x]) r

/- the reference's side -/
def needF (n : Str) : Str :=
  if n = ([107, 101, 121] : Str) ∨ n = ([114, 101, 113, 117, 105, 114, 101, 115] : Str) ∨ n = ([112, 114, 111, 118, 105, 100, 101, 115] : Str) then ([102, 105, 101, 108, 100, 115] : Str)
  else if n = ([116, 97, 103] : Str) then ([110, 97, 109, 101] : Str)
  else if n = ([115, 99, 111, 112, 101, 115] : Str) then ([97, 108, 108] : Str)
  else if n = ([99, 111, 115, 116] : Str) then ([119, 101, 105, 103, 104, 116] : Str)
  else if n = ([108, 105, 115, 116, 83, 105, 122, 101] : Str) then ([97, 115, 115, 117, 109, 101, 100] : Str)
  else if n = ([99, 97, 99, 104, 101, 67, 111, 110, 116, 114, 111, 108] : Str) then ([109, 97, 120, 65, 103, 101] : Str)
  else []
theorem needF_eq {n : Str} {r : Rule} (h : ruleF n = some r) (l : List Arg) : missA r.params l = (needF n != [] && !(argF (needF n) l).isSome) := by
  rcases ruleF_some h with ⟨rfl, rfl⟩ | ⟨rfl, rfl⟩ | ⟨rfl, rfl⟩ | ⟨rfl, rfl⟩ | ⟨rfl, rfl⟩ | ⟨rfl, rfl⟩ | ⟨rfl, rfl⟩ | ⟨rfl, rfl⟩ | ⟨rfl, rfl⟩ | ⟨rfl, rfl⟩ | ⟨rfl, rfl⟩ | ⟨rfl, rfl⟩ | ⟨rfl, rfl⟩
  all_goals simp [missA, needF]
def fitsS (v : Val) (t : Str) : Bool :=
  if t = ([115, 101, 116] : Str) then v.kind == 3 && (setF v.text).2 == 0
  else if t = ([116, 101, 120, 116] : Str) then v.kind == 3
  else if t = ([116, 114, 117, 116, 104] : Str) then v.kind == 1
  else if t = ([110, 117, 109, 98, 101, 114] : Str) then (v.kind == 2 && decide (0 ≤ v.int)) && decide (v.int ≤ 2147483647)
  else v.items.all (fun x => x.kind == 3) && v.kind == 5
theorem fits_eq (k : Nat) (v : Val) : fitsS v (kindStr k) = fitsK k v := by
  match k with
  | 0 => simp [fitsS, kindStr, fitsK]
  | 1 => simp [fitsS, kindStr, fitsK]
  | 2 => simp [fitsS, kindStr, fitsK, Bool.and_comm]
  | 3 =>
    have : decide (v.int ≤ 2147483647) = decide (v.int < 2147483648) := by by_cases h : v.int ≤ 2147483647 <;> simp [h] <;> omega
    simp [fitsS, kindStr, fitsK, this]
  | n + 4 => simp [fitsS, kindStr, fitsK]
def badR (n : Str) : List Arg → List Arg → Bool
  | _, [] => false
  | pre, x :: r => (kstr n x.name == [] || (pre.any fun y => y.name == x.name)) || badR n (pre ++ [x]) r
theorem kindStr_ne (k : Nat) : kindStr k ≠ [] := by
  unfold kindStr; split <;> simp
theorem badR_eq {n : Str} {r : Rule} (h : ruleF n = some r) : ∀ (l pre : List Arg), badR n pre l = badA r.params pre l
  | [], _ => rfl
  | x :: l, pre => by
    simp only [badR, badA]
    rw [badR_eq h l, kstr_eq h, argF_some]
    cases findP x.name r.params with
    | none => simp
    | some p =>
      have := kindStr_ne p.k
      have h2 : (kindStr p.k == []) = false := by simpa using this
      simp only [h2]; rfl
def unfitR (n : Str) (l : List Arg) : Bool := l.any fun x => !fitsS x.val (kstr n x.name)
theorem bad_found {ps : List PRule} : ∀ {l pre : List Arg}, badA ps pre l = false → ∀ x, x ∈ l → (findP x.name ps).isSome = true
  | [], _, _, x, h => by cases h
  | y :: l, pre, h, x, hx => by
    simp only [badA, Bool.or_eq_false_iff] at h
    rcases List.mem_cons.1 hx with rfl | hx
    · have := h.1.1
      cases hf : findP x.name ps with
      | none => rw [hf] at this; simp at this
      | some p => rfl
    · exact bad_found h.2 x hx
def argsR (n : Str) (l : List Arg) : Int := if badR n [] l = true then 22 else if (needF n != [] && !(argF (needF n) l).isSome) = true then 22 else if unfitR n l = true then 23 else 0
theorem any_congr' {α : Type} {f g : α → Bool} : ∀ {l : List α}, (∀ x, x ∈ l → f x = g x) → l.any f = l.any g
  | [], _ => rfl
  | x :: l, h => by rw [List.any_cons, List.any_cons, h x (List.mem_cons_self ..), any_congr' fun y hy => h y (List.mem_cons_of_mem _ hy)]
theorem argsR_eq {n : Str} {r : Rule} (h : ruleF n = some r) (l : List Arg) : argsR n l = argsE r.params l := by
  unfold argsR argsE
  rw [badR_eq h, ← needF_eq h]
  by_cases hb : badA r.params [] l = true
  · rw [if_pos hb, if_pos hb]
  · rw [if_neg hb, if_neg hb]
    have hb' : badA r.params [] l = false := by simpa using hb
    have e : unfitR n l = unfitA r.params l := by
      unfold unfitR unfitA
      refine any_congr' fun x hx => ?_
      have := bad_found hb' x hx
      rw [kstr_eq h]
      cases hf : findP x.name r.params with
      | none => rw [hf] at this; cases this
      | some p => simp only []; rw [fits_eq]
    rw [e]
/-- the reference's places -/
def mayF (n : Str) (p : Int) : Bool :=
  if n = ([107, 101, 121] : Str) then p == 1
  else if n = ([101, 120, 116, 101, 114, 110, 97, 108] : Str) ∨ n = ([115, 104, 97, 114, 101, 97, 98, 108, 101] : Str) ∨ n = ([105, 110, 97, 99, 99, 101, 115, 115, 105, 98, 108, 101] : Str) ∨ n = ([114, 101, 113, 117, 105, 114, 101, 115] : Str) ∨ n = ([112, 114, 111, 118, 105, 100, 101, 115] : Str) then p == 3
  else if n = ([116, 97, 103] : Str) then p != 6
  else if n = ([97, 117, 116, 104, 101, 110, 116, 105, 99, 97, 116, 101, 100] : Str) ∨ n = ([115, 99, 111, 112, 101, 115] : Str) ∨ n = ([99, 97, 99, 104, 101, 67, 111, 110, 116, 114, 111, 108] : Str) then (p == 3 || p == 4) || p == 1
  else if n = ([99, 111, 115, 116] : Str) ∨ n = ([108, 105, 115, 116, 83, 105, 122, 101] : Str) then p == 3 || p == 4
  else if n = ([100, 101, 112, 114, 101, 99, 97, 116, 101, 100] : Str) then (p == 3 || p == 4) || p == 5
  else false
/-- a place in the program's and in the reference's numbers -/
def plR : Nat → Int × Int
  | 0 => (1, 1)
  | 1 => (2, 2)
  | 2 => (4, 3)
  | 3 => (8, 4)
  | 4 => (16, 5)
  | _ => (0, 6)
theorem may_eq (n : Str) (i : Nat) : mayF n (plR i).2 = match ruleF n with | some r => atP r.places (plR i).1 | none => false := by
  by_cases e0 : n = ([107, 101, 121] : Str)
  · subst e0
    match i with
    | 0 => rfl
    | 1 => rfl
    | 2 => rfl
    | 3 => rfl
    | 4 => rfl
    | k + 5 => rw [show plR (k + 5) = (0, 6) from rfl]; rfl
  by_cases e1 : n = ([101, 120, 116, 101, 114, 110, 97, 108] : Str)
  · subst e1
    match i with
    | 0 => rfl
    | 1 => rfl
    | 2 => rfl
    | 3 => rfl
    | 4 => rfl
    | k + 5 => rw [show plR (k + 5) = (0, 6) from rfl]; rfl
  by_cases e2 : n = ([115, 104, 97, 114, 101, 97, 98, 108, 101] : Str)
  · subst e2
    match i with
    | 0 => rfl
    | 1 => rfl
    | 2 => rfl
    | 3 => rfl
    | 4 => rfl
    | k + 5 => rw [show plR (k + 5) = (0, 6) from rfl]; rfl
  by_cases e3 : n = ([105, 110, 97, 99, 99, 101, 115, 115, 105, 98, 108, 101] : Str)
  · subst e3
    match i with
    | 0 => rfl
    | 1 => rfl
    | 2 => rfl
    | 3 => rfl
    | 4 => rfl
    | k + 5 => rw [show plR (k + 5) = (0, 6) from rfl]; rfl
  by_cases e4 : n = ([114, 101, 113, 117, 105, 114, 101, 115] : Str)
  · subst e4
    match i with
    | 0 => rfl
    | 1 => rfl
    | 2 => rfl
    | 3 => rfl
    | 4 => rfl
    | k + 5 => rw [show plR (k + 5) = (0, 6) from rfl]; rfl
  by_cases e5 : n = ([112, 114, 111, 118, 105, 100, 101, 115] : Str)
  · subst e5
    match i with
    | 0 => rfl
    | 1 => rfl
    | 2 => rfl
    | 3 => rfl
    | 4 => rfl
    | k + 5 => rw [show plR (k + 5) = (0, 6) from rfl]; rfl
  by_cases e6 : n = ([116, 97, 103] : Str)
  · subst e6
    match i with
    | 0 => rfl
    | 1 => rfl
    | 2 => rfl
    | 3 => rfl
    | 4 => rfl
    | k + 5 => rw [show plR (k + 5) = (0, 6) from rfl]; rfl
  by_cases e7 : n = ([97, 117, 116, 104, 101, 110, 116, 105, 99, 97, 116, 101, 100] : Str)
  · subst e7
    match i with
    | 0 => rfl
    | 1 => rfl
    | 2 => rfl
    | 3 => rfl
    | 4 => rfl
    | k + 5 => rw [show plR (k + 5) = (0, 6) from rfl]; rfl
  by_cases e8 : n = ([115, 99, 111, 112, 101, 115] : Str)
  · subst e8
    match i with
    | 0 => rfl
    | 1 => rfl
    | 2 => rfl
    | 3 => rfl
    | 4 => rfl
    | k + 5 => rw [show plR (k + 5) = (0, 6) from rfl]; rfl
  by_cases e9 : n = ([99, 111, 115, 116] : Str)
  · subst e9
    match i with
    | 0 => rfl
    | 1 => rfl
    | 2 => rfl
    | 3 => rfl
    | 4 => rfl
    | k + 5 => rw [show plR (k + 5) = (0, 6) from rfl]; rfl
  by_cases e10 : n = ([108, 105, 115, 116, 83, 105, 122, 101] : Str)
  · subst e10
    match i with
    | 0 => rfl
    | 1 => rfl
    | 2 => rfl
    | 3 => rfl
    | 4 => rfl
    | k + 5 => rw [show plR (k + 5) = (0, 6) from rfl]; rfl
  by_cases e11 : n = ([99, 97, 99, 104, 101, 67, 111, 110, 116, 114, 111, 108] : Str)
  · subst e11
    match i with
    | 0 => rfl
    | 1 => rfl
    | 2 => rfl
    | 3 => rfl
    | 4 => rfl
    | k + 5 => rw [show plR (k + 5) = (0, 6) from rfl]; rfl
  by_cases e12 : n = ([100, 101, 112, 114, 101, 99, 97, 116, 101, 100] : Str)
  · subst e12
    match i with
    | 0 => rfl
    | 1 => rfl
    | 2 => rfl
    | 3 => rfl
    | 4 => rfl
    | k + 5 => rw [show plR (k + 5) = (0, 6) from rfl]; rfl
  simp only [mayF, ruleF, e0, e1, e2, e3, e4, e5, e6, e7, e8, e9, e10, e11, e12, if_false, or_false]
def codeR (pre : List Dir) (x : Dir) (p : Int) : Int :=
  if mayF x.name p = false then 29 else if ((hasD x.name pre && x.name != ([107, 101, 121] : Str)) && x.name != ([116, 97, 103] : Str)) = true then 7 else argsR x.name x.args
theorem again_eq {n : Str} {r : Rule} (h : ruleF n = some r) (b : Bool) : ((b && n != ([107, 101, 121] : Str)) && n != ([116, 97, 103] : Str)) = (!r.again && b) := by
  rcases ruleF_some h with ⟨rfl, rfl⟩ | ⟨rfl, rfl⟩ | ⟨rfl, rfl⟩ | ⟨rfl, rfl⟩ | ⟨rfl, rfl⟩ | ⟨rfl, rfl⟩ | ⟨rfl, rfl⟩ | ⟨rfl, rfl⟩ | ⟨rfl, rfl⟩ | ⟨rfl, rfl⟩ | ⟨rfl, rfl⟩ | ⟨rfl, rfl⟩ | ⟨rfl, rfl⟩
  all_goals (cases b <;> rfl)
theorem code_eq (pre : List Dir) (x : Dir) (i : Nat) : codeR pre x (plR i).2 = judgeF pre x (plR i).1 := by
  unfold codeR judgeF
  rw [may_eq]
  cases h : ruleF x.name with
  | none => simp
  | some r =>
    simp only []
    rw [again_eq h, argsR_eq h]
end Go.GB.C23


/-
  F23B: directives: violations of documents, and their laws.
-/
namespace Go.GB.C23
open Go.GB Go.GB.C11
set_option linter.unusedSimpArgs false
set_option linter.unusedVariables false
set_option maxRecDepth 100000
set_option maxHeartbeats 2000000

def argL (at_ : Str) : List Input → List Fault
  | [] => []
  | a :: r => usesF 0 (at_ ++ [40] ++ a.name ++ [41]) [] a.dirs ++ argL at_ r
def fldL (n : Str) (pl : Int) : List Field → List Fault
  | [] => []
  | f :: r => (usesF pl (n ++ [46] ++ f.name) [] f.dirs ++ argL (n ++ [46] ++ f.name) f.args) ++ fldL n pl r
def memL (n : Str) (pl : Int) : List Member → List Fault
  | [] => []
  | m :: r => usesF pl (n ++ [46] ++ m.name) [] m.dirs ++ memL n pl r
def inpL (n : Str) : List Input → List Fault
  | [] => []
  | a :: r => usesF 0 (n ++ [46] ++ a.name) [] a.dirs ++ inpL n r
def ownP (k : Int) : Int := if k = 1 then 1 else 2
def partL (t : Def) : List Fault :=
  if t.kind = 1 then fldL t.name 4 t.fields
  else if t.kind = 2 then fldL t.name 8 t.fields
  else if t.kind = 3 then memL t.name 0 t.members
  else if t.kind = 4 then memL t.name 16 t.members
  else if t.kind = 5 then inpL t.name t.inputs
  else []
def defL (t : Def) : List Fault := usesF (ownP t.kind) t.name [] t.dirs ++ partL t
def chkD : List Def → List Fault
  | [] => []
  | t :: r => defL t ++ chkD r
theorem usesF_len (pl : Int) (at_ : Str) : ∀ (l pre : List Dir), (usesF pl at_ pre l).length ≤ l.length
  | [], _ => by simp [usesF]
  | x :: r, pre => by
    have := usesF_len pl at_ r (pre ++ [x])
    simp only [usesF, List.length_append, List.length_cons]
    split <;> simp <;> omega

/- without the directives of subgraphs -/
end Go.GB.C23


/-
  D11T: contracts of chapter 11's functions: inputs that contain themselves.
-/
namespace Go.GB.C11
open Go.GB
set_option linter.unusedSimpArgs false
set_option linter.unusedVariables false
set_option maxRecDepth 100000
set_option maxHeartbeats 2000000
variable {P : Program}

theorem findDef_name {n : Str} : ∀ {l : List Def} {d : Def}, findDef n l = some d → d.name = n
  | [], d, h => by simp [findDef] at h
  | x :: r, d, h => by
    simp only [findDef] at h
    split at h
    · rename_i hx; cases h; simpa using hx
    · exact findDef_name h
theorem has_ok (H : Pr P) (l : List Str) (hl : l.length ≤ 140737488355328) (s : Str) : FnOk P 88 [.t (.lst (l.map sE)), .t (.str s)] ⟨[], 0⟩ { v := .t (.bool (decide (s ∈ l))) } := by
  refine FnOk.run H.i88 H.mixed rfl rfl ?_
  refine fR rfl ?_
  refine rList l (fun i (_ : Unit) => { env := [(0, .t (.lst (l.map sE))), (1, .t (.str s)), (5, .t (.int .i64 i))], s := ⟨[], 0⟩ }) (fun r i _ => decide (s ∈ l) = decide (s ∈ r)) 0 () rfl rfl rfl rfl rfl ?_ ?_
  · intro _ hinv
    refine fR rfl ?_
    refine lM rfl rfl rfl ?_
    refine fM rfl ?_
    refine Run.condF rfl rfl (by simp) ?_
    refine fR rfl ?_
    refine Run.fin rfl (EndOk.go ?_); exact .t (by rw [hinv]; simp)
  · intro i x r _ h1 hi hd hinv ih
    refine fR rfl ?_
    refine lM rfl rfl rfl ?_
    refine fM rfl ?_
    refine Run.condT rfl rfl (by simp; omega) ?_
    refine fR rfl ?_
    refine Mid.elemMap rfl rfl rfl h1 rfl rfl ?_
    refine fM rfl ?_
    refine Run.cond rfl rfl (fun h => ?_) (fun h => ?_)
    · have h' : x = s := by simpa using h
      refine fR rfl ?_
      refine Run.fin rfl (EndOk.go ?_); exact .t (by rw [hinv]; simp [h'])
    · have h' : ¬ x = s := by simpa using h
      have h2 : ¬ s = x := fun e => h' e.symm
      refine fR rfl ?_
      refine aL rfl rfl rfl rfl rfl ?_
      refine fM rfl ?_
      exact rWeak 0 rfl (ih () (by rw [hinv]; simp [h2])) rfl rfl rfl
def dirF : List Int → Bool
  | [] => false
  | w :: r => ((w :: r).length : Int) == 1 && w == 1
theorem direct_ok (H : Pr P) (t : Ref) : FnOk P 103 [t.v] ⟨[], 0⟩ { v := .t (.bool (dirF t.wraps)) } := by
  obtain ⟨n, ws⟩ := t
  match ws with
  | [] =>
    refine FnOk.run H.i103 H.mixed rfl rfl ?_
    refine fR rfl ?_
    refine lM rfl rfl rfl ?_
    refine fM rfl ?_
    refine Mid.grdF rfl rfl rfl rfl rfl ?_
    refine Mid.grdF rfl rfl rfl rfl rfl ?_
    refine Mid.grdF rfl rfl rfl rfl rfl ?_
    refine fM rfl ?_
    refine Run.fin rfl (EndOk.go ?_); exact .t rfl
  | w :: r =>
    have h1 : (w :: r)[0]? = some w := rfl
    refine FnOk.run H.i103 H.mixed rfl rfl ?_
    refine fR rfl ?_
    refine lM rfl rfl rfl ?_
    refine fM rfl ?_
    refine gr rfl ?_
    refine fM rfl ?_
    refine Run.fin rfl (EndOk.go ?_); exact .t rfl
def nextC (ds : List Def) (nm : Str) (x : Input) (l : List Str) : Bool :=
  dirF x.ty.wraps && (x.ty.name == nm || ((findDef x.ty.name ds).isSome && ((findDef x.ty.name ds).getD Def.zero).kind == 5)) && !decide (x.ty.name ∈ l)
def nextF (ds : List Def) (nm : Str) : List Input → List Str → List Str
  | [], l => l
  | x :: r, l => nextF ds nm r (if nextC ds nm x l = true then l ++ [x.ty.name] else l)
theorem next0_ok (H : Pr P) (ds : List Def) (hD : DocOk ds) (d : Def) (hd : d.Ok) (nm : Str) (hl : d.inputs.length ≤ 4398046511104) :
    FnOk P 87 [docV ds, d.v, .t (.str nm), .nils] ⟨[], 0⟩ { v := .own 2 1 ((nextF ds nm d.inputs []).map sE), ob := [(2, .arr (nextF ds nm d.inputs []).length)], n := 3 } := by
  refine FnOk.run H.i87 H.mixed rfl rfl ?_
  refine fR rfl ?_
  refine rList d.inputs (fun i (B : List Str) => { env := [(2, .t (.str nm)), (3, .own 2 1 (B.map sE)), (4, .ptr 0 0), (5, .ptr 1 0), (9, .t (.int .i64 i))], s := ⟨[(0, .cells [.t (.lst (ds.map Def.enc))]), (1, .cells [.t (.int .i64 d.kind), .t (.str d.name), .t (.lst (d.implements.map sE)), .t (.lst (d.dirs.map Dir.enc)), .t (.lst (d.fields.map Field.enc)), .t (.lst (d.members.map Member.enc)), .t (.lst (d.inputs.map Input.enc))]), (2, .arr B.length)], 3⟩ }) (fun r i B => B.length + r.length ≤ 4398046511104 ∧ nextF ds nm d.inputs [] = nextF ds nm r B) 2 [] rfl ⟨by simpa using hl, rfl⟩ rfl rfl rfl ?_ ?_
  · rintro B ⟨_, hB⟩
    have hB' : nextF ds nm d.inputs [] = B := hB
    rw [hB']
    refine fR rfl ?_
    refine lM rfl rfl rfl ?_
    refine fM rfl ?_
    refine Run.condF rfl rfl (by simp) ?_
    refine fR rfl ?_
    refine Run.fin rfl (EndOk.chg rfl rfl ?_ ?_)
    · exact .le (.same rfl)
    · exact (by repeat' (first | exact trivial | exact LeX.t | exact LeX.top | exact LeX.nilOwn (Nat.le_of_ble_eq_true rfl) (Nat.le_of_ble_eq_true rfl) | exact LeX.ownT | exact LeX.nilT | exact LeX.same rfl | exact LeX.tEq (by simp) | exact LeX.ownEq (by simp) (Nat.le_of_ble_eq_true rfl) | exact LeX.tEq (by congr 1 <;> omega) | exact Or.inr ⟨Nat.le_of_ble_eq_true rfl, Nat.le_of_ble_eq_true rfl, rfl⟩ | refine Or.inl ⟨Nat.le_of_ble_eq_true rfl, _, rfl, ?_⟩ | refine LeO.cells ?_ | exact LeO.arr rfl | exact LeO.arr (by simp) | exact LeO.mE (by first | rfl | simp) (by first | exact Or.inl rfl | exact Or.inr rfl) | exact LeO.cE (by first | rfl | simp) | exact LeXs.cE (by first | rfl | simp) | refine LeO.map (by first | rfl | simp) ?_ (by first | exact Or.inl rfl | exact Or.inr rfl) | exact LeO.iter (by first | rfl | simp) (Nat.le_of_ble_eq_true rfl) | refine LeXs.cons ?_ ?_ | exact LeXs.nil | refine And.intro ?_ ?_))
  · rintro i x r B h1 hi hdr ⟨hlB, hB⟩ ih
    simp only [List.length_cons] at hlB
    have hx := hd.n x (List.mem_of_getElem? h1)
    refine fR rfl ?_
    refine lM rfl rfl rfl ?_
    refine fM rfl ?_
    refine Run.condT rfl rfl (by simp; omega) ?_
    refine fR rfl ?_
    refine Mid.elemMap rfl rfl rfl h1 rfl rfl ?_
    refine fM rfl ?_
    refine Mid.call (rFind_ok H ds hD.l x.ty.name) rfl rfl rfl rfl ?_
    refine fM rfl ?_
    refine Mid.call (direct_ok H x.ty) rfl rfl rfl rfl ?_
    refine fM rfl ?_
    refine caG rfl rfl (fun hg => ⟨_, rfl, has_ok H B (by omega) x.ty.name, rfl⟩) rfl rfl ?_
    refine fM rfl ?_
    refine Run.cond rfl rfl (fun hc => ?_) (fun hc => ?_)
    · have e : nextC ds nm x B = true := hc
      refine fR rfl ?_
      refine apM sE B [x.ty.name] rfl rfl rfl rfl rfl ?_ (h1 := by first | omega | (simp; omega) | (simp; done)) (h2 := by first | omega | (simp; omega) | (simp; done))
      refine fM rfl ?_
      refine aL rfl rfl rfl rfl rfl ?_
      refine fM rfl ?_
      exact rWeak 3 rfl (ih (B ++ [x.ty.name]) ⟨by simp; omega, by rw [hB]; simp only [nextF]; rw [if_pos e]⟩) rfl rfl rfl
    · have e : ¬ nextC ds nm x B = true := by rw [show nextC ds nm x B = false from hc]; simp
      refine fR rfl ?_
      refine aL rfl rfl rfl rfl rfl ?_
      refine fM rfl ?_
      exact rWeak 3 rfl (ih B ⟨by omega, by rw [hB]; simp only [nextF]; rw [if_neg e]⟩) rfl rfl rfl
theorem next_ok (H : Pr P) (ds : List Def) (hD : DocOk ds) (d : Def) (hd : d.Ok) (nm : Str) (l : List Str) (hl : l.length + d.inputs.length ≤ 4398046511104) :
    FnOk P 87 [docV ds, d.v, .t (.str nm), .own 0 1 (l.map sE)] ⟨[(0, .arr l.length)], 1⟩ { v := .own 0 1 ((nextF ds nm d.inputs l).map sE), ob := [(0, .arr (nextF ds nm d.inputs l).length)], rd := true } := by
  refine FnOk.run H.i87 H.mixed rfl rfl ?_
  refine fR rfl ?_
  refine rList d.inputs (fun i (B : List Str) => { env := [(2, .t (.str nm)), (3, .own 0 1 (B.map sE)), (4, .ptr 1 0), (5, .ptr 2 0), (9, .t (.int .i64 i))], s := ⟨[(0, .arr B.length), (1, .cells [.t (.lst (ds.map Def.enc))]), (2, .cells [.t (.int .i64 d.kind), .t (.str d.name), .t (.lst (d.implements.map sE)), .t (.lst (d.dirs.map Dir.enc)), .t (.lst (d.fields.map Field.enc)), .t (.lst (d.members.map Member.enc)), .t (.lst (d.inputs.map Input.enc))])], 3⟩ }) (fun r i B => B.length + r.length ≤ 4398046511104 ∧ nextF ds nm d.inputs l = nextF ds nm r B) 3 l rfl ⟨by exact hl, rfl⟩ rfl rfl rfl ?_ ?_
  · rintro B ⟨_, hB⟩
    have hB' : nextF ds nm d.inputs l = B := hB
    rw [hB']
    refine fR rfl ?_
    refine lM rfl rfl rfl ?_
    refine fM rfl ?_
    refine Run.condF rfl rfl (by simp) ?_
    refine fR rfl ?_
    refine Run.fin rfl (EndOk.chg rfl rfl ?_ ?_)
    · exact .le (.same rfl)
    · exact (by repeat' (first | exact trivial | exact LeX.t | exact LeX.top | exact LeX.nilOwn (Nat.le_of_ble_eq_true rfl) (Nat.le_of_ble_eq_true rfl) | exact LeX.ownT | exact LeX.nilT | exact LeX.same rfl | exact LeX.tEq (by simp) | exact LeX.ownEq (by simp) (Nat.le_of_ble_eq_true rfl) | exact LeX.tEq (by congr 1 <;> omega) | exact Or.inr ⟨Nat.le_of_ble_eq_true rfl, Nat.le_of_ble_eq_true rfl, rfl⟩ | refine Or.inl ⟨Nat.le_of_ble_eq_true rfl, _, rfl, ?_⟩ | refine LeO.cells ?_ | exact LeO.arr rfl | exact LeO.arr (by simp) | exact LeO.mE (by first | rfl | simp) (by first | exact Or.inl rfl | exact Or.inr rfl) | exact LeO.cE (by first | rfl | simp) | exact LeXs.cE (by first | rfl | simp) | refine LeO.map (by first | rfl | simp) ?_ (by first | exact Or.inl rfl | exact Or.inr rfl) | exact LeO.iter (by first | rfl | simp) (Nat.le_of_ble_eq_true rfl) | refine LeXs.cons ?_ ?_ | exact LeXs.nil | refine And.intro ?_ ?_))
  · rintro i x r B h1 hi hdr ⟨hlB, hB⟩ ih
    simp only [List.length_cons] at hlB
    have hx := hd.n x (List.mem_of_getElem? h1)
    refine fR rfl ?_
    refine lM rfl rfl rfl ?_
    refine fM rfl ?_
    refine Run.condT rfl rfl (by simp; omega) ?_
    refine fR rfl ?_
    refine Mid.elemMap rfl rfl rfl h1 rfl rfl ?_
    refine fM rfl ?_
    refine Mid.call (rFind_ok H ds hD.l x.ty.name) rfl rfl rfl rfl ?_
    refine fM rfl ?_
    refine Mid.call (direct_ok H x.ty) rfl rfl rfl rfl ?_
    refine fM rfl ?_
    refine caG rfl rfl (fun hg => ⟨_, rfl, has_ok H B (by omega) x.ty.name, rfl⟩) rfl rfl ?_
    refine fM rfl ?_
    refine Run.cond rfl rfl (fun hc => ?_) (fun hc => ?_)
    · have e : nextC ds nm x B = true := hc
      refine fR rfl ?_
      refine apM sE B [x.ty.name] rfl rfl rfl rfl rfl ?_ (h1 := by first | omega | (simp; omega) | (simp; done)) (h2 := by first | omega | (simp; omega) | (simp; done))
      refine fM rfl ?_
      refine aL rfl rfl rfl rfl rfl ?_
      refine fM rfl ?_
      exact rWeak 3 rfl (ih (B ++ [x.ty.name]) ⟨by simp; omega, by rw [hB]; simp only [nextF]; rw [if_pos e]⟩) rfl rfl rfl
    · have e : ¬ nextC ds nm x B = true := by rw [show nextC ds nm x B = false from hc]; simp
      refine fR rfl ?_
      refine aL rfl rfl rfl rfl rfl ?_
      refine fM rfl ?_
      exact rWeak 3 rfl (ih B ⟨by omega, by rw [hB]; simp only [nextF]; rw [if_neg e]⟩) rfl rfl rfl

theorem nextF_le (ds : List Def) (nm : Str) : ∀ (ins : List Input) (l : List Str), l.length ≤ (nextF ds nm ins l).length
  | [], l => Nat.le_refl _
  | x :: r, l => by
    simp only [nextF]
    refine Nat.le_trans ?_ (nextF_le ds nm r _)
    split <;> simp
/- the closure -/
def circF (ds : List Def) (nm : Str) : Nat → Nat → List Str → List Str
  | 0, _, l => l
  | k + 1, i, l => match l[i]? with
    | none => l
    | some n => circF ds nm k (i + 1) (nextF ds nm ((findDef n ds).getD Def.zero).inputs l)
def circB (ds : List Def) (d : Def) : Bool := d.kind == 5 && decide (d.name ∈ circF ds d.name (ds.length + 2) 0 (nextF ds d.name d.inputs []))
structure LOk (ds : List Def) (nm : Str) (l : List Str) : Prop where
  nd : l.Nodup
  mem : ∀ x, x ∈ l → x ∈ nm :: ds.map (fun o => o.name)
theorem nodup_len {α : Type} [BEq α] [LawfulBEq α] : ∀ {l m : List α}, l.Nodup → (∀ x, x ∈ l → x ∈ m) → l.length ≤ m.length
  | [], _, _, _ => by simp
  | a :: r, m, hn, hs => by
    have ha : a ∈ m := hs a (by simp)
    obtain ⟨hn1, hn2⟩ := List.nodup_cons.1 hn
    have h1 := nodup_len (l := r) (m := m.erase a) hn2 (fun x hx => by
      have hne : x ≠ a := by rintro rfl; exact hn1 hx
      exact (List.mem_erase_of_ne hne).2 (hs x (List.mem_cons_of_mem _ hx)))
    have h2 := List.length_erase_of_mem ha
    have h3 : 0 < m.length := List.length_pos_of_mem ha
    simp only [List.length_cons]; omega
theorem LOk.len {ds : List Def} {nm : Str} {l : List Str} (h : LOk ds nm l) : l.length ≤ ds.length + 1 := by
  have := nodup_len h.nd h.mem
  simpa using this
theorem nextF_ok {ds : List Def} {nm : Str} : ∀ {ins : List Input} {l : List Str}, LOk ds nm l → LOk ds nm (nextF ds nm ins l)
  | [], l, h => h
  | x :: r, l, h => by
    simp only [nextF]
    split
    · rename_i hc
      refine nextF_ok ⟨?_, ?_⟩
      · unfold nextC at hc
        simp only [Bool.and_eq_true] at hc
        have hn : ¬ x.ty.name ∈ l := by simpa using hc.2
        rw [List.nodup_append]
        exact ⟨h.nd, by simp, fun a ha b hb e => by simp at hb; subst hb; subst e; exact hn ha⟩
      · intro y hy
        rcases List.mem_append.1 hy with hy | hy
        · exact h.mem y hy
        · simp at hy; subst hy
          unfold nextC at hc
          simp only [Bool.and_eq_true, Bool.or_eq_true, beq_iff_eq] at hc
          rcases hc.1.2 with e | e
          · rw [e]; simp
          · cases hf : findDef x.ty.name ds with
            | none => rw [hf] at e; simp at e
            | some o =>
              have h1 := findDef_mem hf
              have h2 := findDef_name hf
              rw [← h2]
              exact List.mem_cons_of_mem _ (List.mem_map.2 ⟨o, h1, rfl⟩)
    · exact nextF_ok h
theorem circular_ok (H : Pr P) (ds : List Def) (hD : DocOk ds) (d : Def) (hd : d.Ok) (hil : ∀ o, o ∈ d :: ds → o.inputs.length ≤ 2199023255552) : FnOk P 57 [docV ds, d.v] ⟨[], 0⟩ { v := .t (.bool (circB ds d)) } := by
  have hlb := hD.lb
  have hz : ∀ n, ((findDef n ds).getD Def.zero).inputs.length ≤ 2199023255552 := by
    intro n
    cases hf : findDef n ds with
    | none => simp [Def.zero]
    | some o => exact hil o (List.mem_cons_of_mem _ (findDef_mem hf))
  refine FnOk.run H.i57 H.mixed rfl rfl ?_
  refine fR rfl ?_
  refine Run.cond rfl rfl (fun hk => ?_) (fun hk => ?_)
  · have e : circB ds d = false := by unfold circB; rw [show (d.kind == 5) = false from by simpa using hk]; rfl
    refine fR rfl ?_
    refine Run.fin rfl (EndOk.go ?_); exact .t (by rw [e])
  · have hk' : (d.kind == 5) = true := by simpa using hk
    refine fR rfl ?_
    have h0 : LOk ds d.name (nextF ds d.name d.inputs []) := nextF_ok ⟨List.nodup_nil, by simp⟩
    refine Mid.callO [] (next0_ok H ds hD d hd d.name (by have := hil d (by simp); omega)) rfl rfl rfl rfl (by simp [stoBd]) (by repeat' (first | exact trivial | exact rfl | refine And.intro ?_ ?_ | exact (congrArg some (AObj.ren_mE _ _ _ _ _ _)).symm | exact (congrArg some (AObj.ren_cE _ _ _)).symm)) rfl rfl (ob' := [(4, .arr (nextF ds d.name d.inputs []).length)]) (rfl) rfl rfl ?_
    refine fM rfl ?_
    have eB : circB ds d = decide (d.name ∈ circF ds d.name (ds.length + 2) 0 (nextF ds d.name d.inputs [])) := by unfold circB; rw [hk']; rfl
    generalize hC : circF ds d.name (ds.length + 2) 0 (nextF ds d.name d.inputs []) = C at eB
    have hN : ∀ (i : Nat) (l : List Str), LOk ds d.name l → i ≤ l.length → ds.length + 2 - i = (ds.length + 1 - i) + 1 := by
      intro i l hl hi
      have := hl.len; omega
    refine rLoopM (β := Nat × List Str) (fun b => { env := [(2, .ptr 0 0), (3, .ptr 1 0), (5, .own 4 1 (b.2.map sE)), (6, .t (.int .i64 b.1))], s := ⟨[(0, .cells [.t (.lst (ds.map Def.enc))]), (1, .cells [.t (.int .i64 d.kind), .t (.str d.name), .t (.lst (d.implements.map sE)), .t (.lst (d.dirs.map Dir.enc)), .t (.lst (d.fields.map Field.enc)), .t (.lst (d.members.map Member.enc)), .t (.lst (d.inputs.map Input.enc))]), (4, .arr b.2.length)], 5⟩ })
      (fun b => LOk ds d.name b.2 ∧ b.1 ≤ b.2.length ∧ C = circF ds d.name (ds.length + 2 - b.1) b.1 b.2) (fun b => ds.length + 2 - b.1) 5 (0, nextF ds d.name d.inputs []) rfl ⟨h0, by simp, hC.symm⟩ rfl rfl rfl ?_
    rintro ⟨i, l⟩ ⟨hl, hi, hinv⟩ ih
    dsimp only at hl hi hinv ih ⊢
    have hlen := hl.len
    have hN' := hN i l hl hi
    rw [hN'] at hinv
    refine fR rfl ?_
    refine lM rfl rfl rfl ?_
    refine fM rfl ?_
    by_cases hlt : i < l.length
    · refine Run.condT rfl rfl (by simp; omega) ?_
      have hg : l[i]? = some l[i] := List.getElem?_eq_getElem hlt
      generalize l[i] = n at hg
      have hF := docFind hD n
      have hnx : LOk ds d.name (nextF ds d.name ((findDef n ds).getD Def.zero).inputs l) := nextF_ok hl
      simp only [circF, hg] at hinv
      have hzn := hz n
      refine fR rfl ?_
      refine Mid.elemMap rfl rfl rfl hg rfl rfl ?_
      refine fM rfl ?_
      refine Mid.call (rFind_ok H ds hD.l n) rfl rfl rfl rfl ?_
      refine fM rfl ?_
      refine Mid.callO [4] (next_ok H ds hD ((findDef n ds).getD Def.zero) hF d.name l (by omega)) rfl rfl rfl rfl (by simp [stoBd]; simp [AObj.bd]) (by repeat' (first | exact trivial | exact rfl | refine And.intro ?_ ?_ | exact (congrArg some (AObj.ren_mE _ _ _ _ _ _)).symm | exact (congrArg some (AObj.ren_cE _ _ _)).symm)) rfl rfl (ob' := [(4, .arr (nextF ds d.name ((findDef n ds).getD Def.zero).inputs l).length)]) (rfl) rfl rfl ?_
      refine fM rfl ?_
      refine aL rfl rfl rfl rfl rfl ?_
      refine fM rfl ?_
      exact rWeak 5 rfl (ih (i + 1, nextF ds d.name ((findDef n ds).getD Def.zero).inputs l) (by simp only; omega) ⟨hnx, by simp only; have := nextF_le ds d.name ((findDef n ds).getD Def.zero).inputs l; omega, by rw [hinv]; simp only; congr 1; omega⟩) rfl rfl rfl
    · refine Run.condF rfl rfl (by simp; omega) ?_
      have hg : l[i]? = none := List.getElem?_eq_none (by omega)
      simp only [circF, hg] at hinv
      refine fR rfl ?_
      refine Mid.call (has_ok H l (by omega) d.name) rfl rfl rfl rfl ?_
      refine fM rfl ?_
      refine Run.fin rfl (EndOk.go ?_); exact .t (by rw [eB, hinv])
end Go.GB.C11


/-
  GbRj: a contract for those who know more of what they hand over.
-/
namespace Go.GB
variable {P : Program}
section
variable {n m : Nat} {R : St → Prop} {draw : Bool} {all : List AO} {after : List (List Nat)} {live : List Nat} {k : List It} {b b' : Nat} {fl : List (Bool × Bool)} {ops : List AO} {st st' : St} {d : Option Nat}
/-- a call under a guard, of a function that only reads objects; r: the caller's names of them -/
theorem Mid.callRG {f : FuncId} {s : Nat} {want gc : Bool} {args : List Ar} {vs' : List V} {ps : List Bool} {s1 : List (Nat × AObj)} {m1 : Nat} {x : V} (r : List Nat) (hg : gcondF want (look st.env s) = some gc) (hv : argsG gc st args (fun vs ps => some (vs, ps)) = some (vs', ps))
    (h : gc = true → ∃ vs, FnOk P f vs ⟨s1, m1⟩ { v := x, rd := true } ∧ V.rens (renF r b) vs = vs' ∧ V.bds m1 vs = true) (hr : (nodupB r && (r.all (fun k => Nat.blt k b)) && Nat.beq r.length m1) = true)
    (hs1 : stoBd m1 s1 = true) (hsub : subS (renF r b) st.s.sto s1 m1) (hs : stepV st d (.gd gc (x.ren (renF r b))) some = some st')
    (h' : Mid P n m R draw all after live k b ((true, false) :: fl) ops st') (hp : pall (ps.map fun p => !gc || p) := by (repeat' (first | exact trivial | exact Bool.not_or_self _ | exact grd1 _ | exact grd2 _ | exact grd3 _ _ | exact grd4 _ _ | refine And.intro ?_ ?_ | exact rfl | (simp; done) | (simp <;> omega))); done) : Mid P n m R draw all after live k b fl (⟨d, some (s, want), .call f args⟩ :: ops) st := by
  rw [gcondF_eq] at hg
  simp only [stepV, V.force_eq, setEnv_eq, St.forceS_eq, Option.some.injEq] at hs
  have e0 : st' = st.app d { v := .gd gc (x.ren (renF r b)), rd := true } := by rw [← hs]; cases d <;> rfl
  rw [e0] at h'
  unfold Mid at h' ⊢
  simp only [evR, evO, hg, evalE]
  refine .inl ⟨{ v := x.ren (renF r b), rd := true }, ?_, ⟨rfl, rfl⟩, ?_⟩
  · intro hgc
    obtain ⟨vs, e2, e1, e3⟩ := h hgc
    subst hgc
    have hpp : pall ps := by
      have : ∀ l : List Bool, pall (l.map fun p => !true || p) → pall l := by
        intro l
        induction l with
        | nil => exact fun h => h
        | cons a r ih => intro h; exact ⟨by simpa using h.1, ih h.2⟩
      exact this ps hp
    simp only [Bool.and_eq_true] at hr
    obtain ⟨⟨hr1, hr2⟩, hr3⟩ := hr
    have hm : r.length = m1 := Nat.eq_of_beq_eq_true hr3
    subst hm
    simp only [if_true]
    refine FnAt.le (VsLe.pure _) ?_
    rw [argsG_ok hv hpp, ← e1]
    have hat := FnOk.ren (renRn (n := 0) hr1 hr2) e2 e3 hs1 (subS_at hsub) (obIn_at rfl)
    exact hat
  · simpa using h'
end
end Go.GB


/-
  F23C: chapter 23's functions: parts of texts, sets of fields.
-/
namespace Go.GB.C23
open Go.GB Go.GB.C11
set_option linter.unusedSimpArgs false
set_option linter.unusedVariables false
set_option maxRecDepth 100000
set_option maxHeartbeats 2000000
variable {P : Program}

structure Pr23 (P : Program) : Prop extends Pr P where
  i48 : fnInfo P 48 = some (n48, c48.bare, r48)
  i85 : fnInfo P 85 = some (n85, c85.bare, r85)
  i14 : fnInfo P 14 = some (n14, c14.bare, r14)
  i25 : fnInfo P 25 = some (n25, c25.bare, r25)
  i47 : fnInfo P 47 = some (n47, c47.bare, r47)
  i53 : fnInfo P 53 = some (n53, c53.bare, r53)
  i21 : fnInfo P 21 = some (n21, c21.bare, r21)
  i51 : fnInfo P 51 = some (n51, c51.bare, r51)
  i73 : fnInfo P 73 = some (n73, c73.bare, r73)
  i74 : fnInfo P 74 = some (n74, c74.bare, r74)
  i75 : fnInfo P 75 = some (n75, c75.bare, r75)
  i100 : fnInfo P 100 = some (n100, c100.bare, r100)
  i34 : fnInfo P 34 = some (n34, c34.bare, r34)
  i35 : fnInfo P 35 = some (n35, c35.bare, r35)
  i36 : fnInfo P 36 = some (n36, c36.bare, r36)
  i72 : fnInfo P 72 = some (n72, c72.bare, r72)
  i84 : fnInfo P 84 = some (n84, c84.bare, r84)
  i95 : fnInfo P 95 = some (n95, c95.bare, r95)
  i96 : fnInfo P 96 = some (n96, c96.bare, r96)
  i62 : fnInfo P 62 = some (n62, c62.bare, r62)
  i63 : fnInfo P 63 = some (n63, c63.bare, r63)
  i105 : fnInfo P 105 = some (n105, c105.bare, r105)
  i106 : fnInfo P 106 = some (n106, c106.bare, r106)
  i107 : fnInfo P 107 = some (n107, c107.bare, r107)
  i89 : fnInfo P 89 = some (n89, c89.bare, r89)
  i90 : fnInfo P 90 = some (n90, c90.bare, r90)
  i91 : fnInfo P 91 = some (n91, c91.bare, r91)
  i113 : fnInfo P 113 = some (n113, c113.bare, r113)
  i115 : fnInfo P 115 = some (n115, c115.bare, r115)

/- names -/
def okB (b : UInt8) : Bool := letF b.toNat || digF b.toNat
theorem nmOk_all : ∀ (s : Str), nmOk false s = s.all okB
  | [] => rfl
  | c :: r => by simp [nmOk, okB, nmOk_all r]
theorem let_dig (c : Int) (h : digF c = true) : letF c = false := by
  unfold digF at h; unfold letF
  simp only [Bool.and_eq_true, decide_eq_true_eq] at h
  have h1 : ¬ c ≥ 65 := by omega
  have h2 : ¬ c ≥ 97 := by omega
  have h3 : ¬ c = 95 := by omega
  simp [h1, h2, h3]
theorem nameF_eq (s : Str) : nameF s = (decide (1 ≤ s.length ∧ s.length ≤ 64) && (!(match s with | [] => false | c :: _ => digF c.toNat) && s.all okB)) := by
  unfold nameF
  cases s with
  | nil => rfl
  | cons c r =>
    simp only [nmOk, nmOk_all, List.all_cons, okB]
    cases hd : digF c.toNat with
    | false => simp
    | true => rw [let_dig _ hd]; simp
theorem tname_ok (H : Pr23 P) (s : Str) (hs : s.length ≤ 140737488355328) : FnOk P 74 [.t (.str s)] ⟨[], 0⟩ { v := .t (.bool (nameF s)) } := by
  cases s with
  | nil =>
    refine FnOk.run H.i74 H.mixed rfl rfl ?_
    refine fR rfl ?_
    refine Mid.grdF rfl rfl rfl rfl rfl ?_
    refine Mid.grdF rfl rfl rfl rfl rfl ?_
    refine fM rfl ?_
    refine Mid.grdF rfl rfl rfl rfl rfl ?_
    refine Mid.grdF rfl rfl rfl rfl rfl ?_
    refine Mid.grdF rfl rfl rfl rfl rfl ?_
    refine fM rfl ?_
    refine Run.condT rfl rfl rfl ?_
    refine fR rfl ?_
    refine Run.fin rfl (EndOk.go ?_); exact .t rfl
  | cons c r =>
    have e := nameF_eq (c :: r)
    simp only at e
    refine FnOk.run H.i74 H.mixed rfl rfl ?_
    refine fR rfl ?_
    refine gr rfl ?_
    refine fM rfl ?_
    refine gr rfl ?_
    refine fM rfl ?_
    refine Run.cond rfl rfl (fun h => ?_) (fun h => ?_)
    · refine fR rfl ?_
      have h' : decide (((c :: r).length : Int) > 64) = true ∨ digF c.toNat = true := by
        unfold digF
        simpa using h
      refine Run.fin rfl (EndOk.go ?_); exact .t (by
        rw [e]
        rcases h' with h' | h'
        · have : ¬ (1 ≤ (c :: r).length ∧ (c :: r).length ≤ 64) := by
            have := of_decide_eq_true h'
            omega
          rw [decide_eq_false this]; rfl
        · rw [h']; simp)
    · have hl : (c :: r).length ≤ 64 ∧ digF c.toNat = false := by
        unfold digF
        simp only [Bool.or_eq_false_iff] at h
        refine ⟨?_, h.2⟩
        have := of_decide_eq_false h.1.2
        omega
      have e2 : nameF (c :: r) = (c :: r).all okB := by
        rw [e, hl.2, decide_eq_true ⟨by simp, hl.1⟩]; rfl
      refine fR rfl ?_
      refine rList (c :: r) (fun i (_ : Unit) => { env := [(0, .t (.str (c :: r))), (23, .t (.int .i64 (c :: r).length)), (24, .t (.int .i64 i))], s := ⟨[], 0⟩ }) (fun r' i _ => (c :: r).all okB = r'.all okB) 0 () rfl rfl rfl rfl rfl ?_ ?_
      · intro _ hinv
        refine fR rfl ?_
        refine Run.condF rfl rfl (by simp) ?_
        refine fR rfl ?_
        refine Run.fin rfl (EndOk.go ?_); exact .t (by rw [e2, hinv]; rfl)
      · intro i b r' _ h1 hi hd hinv ih
        refine fR rfl ?_
        refine Run.condT rfl rfl (by simp at hi ⊢; omega) ?_
        refine fR rfl ?_
        refine Mid.byte rfl rfl h1 rfl ?_
        refine fM rfl ?_
        have ho : ((((decide ((b.toNat : Int) ≥ 97) && decide ((b.toNat : Int) ≤ 122)) || (decide ((b.toNat : Int) ≥ 65) && decide ((b.toNat : Int) ≤ 90))) || (decide ((b.toNat : Int) ≥ 48) && decide ((b.toNat : Int) ≤ 57))) || (b.toNat : Int) == 95) = okB b := by
          unfold okB letF digF
          generalize (decide ((b.toNat : Int) ≥ 97) && decide ((b.toNat : Int) ≤ 122)) = x1
          generalize (decide ((b.toNat : Int) ≥ 65) && decide ((b.toNat : Int) ≤ 90)) = x2
          generalize (decide ((b.toNat : Int) ≥ 48) && decide ((b.toNat : Int) ≤ 57)) = x3
          generalize ((b.toNat : Int) == 95) = x4
          cases x1 <;> cases x2 <;> cases x3 <;> cases x4 <;> rfl
        refine Run.cond rfl rfl (fun hc => ?_) (fun hc => ?_)
        · have hc' : okB b = false := by rw [ho] at hc; simpa using hc
          refine fR rfl ?_
          refine Run.fin rfl (EndOk.go ?_); exact .t (by rw [e2, hinv, List.all_cons, hc']; rfl)
        · have hc' : okB b = true := by rw [ho] at hc; simpa using hc
          refine fR rfl ?_
          refine aL rfl rfl rfl rfl rfl ?_
          refine fM rfl ?_
          exact rWeak 0 rfl (ih () (by rw [hinv, List.all_cons, hc']; rfl)) rfl rfl rfl
theorem hasPre_ok (H : Pr23 P) (s : Str) (hs : s.length ≤ 140737488355328) : FnOk P 107 [.t (.str s), .t (.str [95, 95])] ⟨[], 0⟩ { v := .t (.bool (resF s)) } := by
  match s, hs with
  | [], _ =>
    refine FnOk.run H.i107 H.mixed rfl rfl ?_
    refine fR rfl ?_
    refine gr rfl ?_
    refine fM rfl ?_
    skip
    refine Run.fin rfl (EndOk.go ?_); exact .t rfl
  | [a], _ =>
    refine FnOk.run H.i107 H.mixed rfl rfl ?_
    refine fR rfl ?_
    refine gr rfl ?_
    refine fM rfl ?_
    skip
    refine Run.fin rfl (EndOk.go ?_); exact .t rfl
  | a :: b :: r, hs =>
    refine FnOk.run H.i107 H.mixed rfl rfl ?_
    refine fR rfl ?_
    refine gr rfl ?_
    refine fM rfl ?_
    have e : (a :: b :: r : Str).take 2 = [a, b] := rfl
    refine Run.fin rfl (EndOk.go ?_); exact .t (by
      have h2 : ((a.toNat : Int) == 95) = (a == 95) := by
        rw [Bool.eq_iff_iff, beq_iff_eq, beq_iff_eq]
        exact ⟨fun h => UInt8.toNat_inj.1 (by have : a.toNat = 95 := by omega
                                              exact this), fun h => by rw [h]; rfl⟩
      have h3 : ((b.toNat : Int) == 95) = (b == 95) := by
        rw [Bool.eq_iff_iff, beq_iff_eq, beq_iff_eq]
        exact ⟨fun h => UInt8.toNat_inj.1 (by have : b.toNat = 95 := by omega
                                              exact this), fun h => by rw [h]; rfl⟩
      refine congrArg T.bool ?_
      show (_ && ([a, b] == ([95, 95] : Str))) = ((a.toNat : Int) == 95 && (b.toNat : Int) == 95)
      rw [h2, h3]
      have h4 : decide (((a :: b :: r : Str).length : Int) ≥ (([95, 95] : Str).length : Int)) = true := by simp; omega
      rw [h4]
      simp)
theorem strPre_ok (H : Pr23 P) (s : Str) (hs : s.length ≤ 140737488355328) : FnOk P 96 [.t (.str s), .t (.str [95, 95])] ⟨[], 0⟩ { v := .t (.bool (resF s)) } := by
  refine FnOk.run H.i96 H.mixed rfl rfl ?_
  refine fR rfl ?_
  refine Mid.call (hasPre_ok H s hs) rfl rfl rfl rfl ?_
  refine fM rfl ?_
  refine Run.fin rfl (EndOk.go ?_); exact .t rfl
theorem treserved_ok (H : Pr23 P) (s : Str) (hs : s.length ≤ 140737488355328) : FnOk P 75 [.t (.str s)] ⟨[], 0⟩ { v := .t (.bool (resF s)) } := by
  refine FnOk.run H.i75 H.mixed rfl rfl ?_
  refine fR rfl ?_
  refine Mid.call (strPre_ok H s hs) rfl rfl rfl rfl ?_
  refine fM rfl ?_
  refine Run.fin rfl (EndOk.go ?_); exact .t rfl

/- parts -/
theorem idxByte_ok (H : Pr23 P) (s : Str) (hs : s.length ≤ 140737488355328) : FnOk P 115 [.t (.str s), .t (.int .u8 32)] ⟨[], 0⟩ { v := .t (.int .i64 (Go.Lib.indexByte s 32)) } := by
  refine FnOk.run H.i115 H.mixed rfl rfl ?_
  refine fR rfl ?_
  refine p0 rfl ?_
  refine fM rfl ?_
  refine Run.fin rfl (EndOk.go ?_); exact .t rfl
theorem sIndex_ok (H : Pr23 P) (s : Str) (hs : s.length ≤ 140737488355328) : FnOk P 113 [.t (.str s), .t (.str [32])] ⟨[], 0⟩ { v := .t (.int .i64 (Go.Lib.indexByte s 32)) } := by
  refine FnOk.run H.i113 H.mixed rfl rfl ?_
  refine fR rfl ?_
  refine Run.cond rfl rfl (fun h => ?_) (fun h => ?_)
  · have h' : s = [32] := by
      have h2 : [32] = s := by simpa using h
      exact h2.symm
    subst h'
    refine fR rfl ?_
    refine Run.fin rfl (EndOk.go ?_); exact .t rfl
  · refine fR rfl ?_
    refine Run.condT rfl rfl rfl ?_
    refine fR rfl ?_
    refine pu rfl ?_
    refine Mid.call (idxByte_ok H s hs) rfl rfl rfl rfl ?_
    refine fM rfl ?_
    refine Run.fin rfl (EndOk.go ?_); exact .t rfl
theorem index_ok (H : Pr23 P) (s : Str) (hs : s.length ≤ 140737488355328) : FnOk P 106 [.t (.str s), .t (.str [32])] ⟨[], 0⟩ { v := .t (.int .i64 (Go.Lib.indexByte s 32)) } := by
  refine FnOk.run H.i106 H.mixed rfl rfl ?_
  refine fR rfl ?_
  refine Mid.call (sIndex_ok H s hs) rfl rfl rfl rfl ?_
  refine fM rfl ?_
  refine Run.fin rfl (EndOk.go ?_); exact .t rfl
theorem count_ok (H : Pr23 P) (s : Str) (hs : s.length ≤ 140737488355328) : FnOk P 105 [.t (.str s), .t (.str [32])] ⟨[], 0⟩ { v := .t (.int .i64 (s.count 32)) } := by
  refine FnOk.run H.i105 H.mixed rfl rfl ?_
  refine fR rfl ?_
  refine Run.condF rfl rfl rfl ?_
  refine fR rfl ?_
  refine Run.condT rfl rfl rfl ?_
  refine fR rfl ?_
  refine pu rfl ?_
  refine p0 rfl ?_
  refine fM rfl ?_
  refine Run.fin rfl (EndOk.go ?_); exact .t rfl
end Go.GB.C23


/-
  F23D: chapter 23's functions: sets of fields.
-/
namespace Go.GB.C23
open Go.GB Go.GB.C11
set_option linter.unusedSimpArgs false
set_option linter.unusedVariables false
set_option maxRecDepth 100000
set_option maxHeartbeats 2000000
variable {P : Program}

theorem idx_split : ∀ {s : Str}, 0 < s.count 32 → ∃ m : Nat, Go.Lib.indexByte s 32 = m ∧ m < s.length ∧ ¬ (32 : UInt8) ∈ s.take m ∧ s = s.take m ++ 32 :: s.drop (m + 1)
  | [], h => by simp at h
  | c :: r, h => by
    by_cases hc : c = 32
    · subst hc
      exact ⟨0, by simp [Go.Lib.indexByte], by simp, by simp, by simp⟩
    · have h1 : 0 < r.count 32 := by
        rw [List.count_cons_of_ne (fun e => hc e)] at h; exact h
      obtain ⟨m, h2, h3, h4, h5⟩ := idx_split h1
      refine ⟨m + 1, ?_, by simp; omega, ?_, ?_⟩
      · unfold Go.Lib.indexByte
        have hb : (c == 32) = false := by simpa using hc
        rw [hb, h2]
        simp
      · simp only [List.take_succ_cons, List.mem_cons, not_or]
        exact ⟨fun e => hc e.symm, h4⟩
      · simp only [List.take_succ_cons, List.drop_succ_cons, List.cons_append]
        rw [← h5]
theorem count_app (a b : Str) (h : ¬ (32 : UInt8) ∈ a) : (a ++ 32 :: b).count 32 = b.count 32 + 1 := by
  rw [List.count_append, List.count_eq_zero_of_not_mem h]; simp
/-- the state of the splitting -/
structure SpOk (s : Str) (n i : Nat) (r : Str) (A : List Str) : Prop where
  len : A.length = n + 1
  cnt : i + r.count 32 = n
  eq : splS s = A.take i ++ splS r
  le : r.length ≤ s.length
theorem set_take' {α : Type} (A : List α) (i : Nat) (x : α) (h : i < A.length) : (A.set i x).take (i + 1) = A.take i ++ [x] := by
  rw [List.take_add_one, List.getElem?_set_self h, List.take_set_of_le (Nat.le_refl i)]; rfl
theorem genSplit_ok (H : Pr23 P) (s : Str) (hs : s.length ≤ 140737488355328) (hc : s.count 32 < 8796093022208) : FnOk P 95 [.t (.str s), .t (.str [32]), .t (.int .i64 0), .t (.int .i64 (-1))] ⟨[], 0⟩ { v := .t (.lst ((splS s).map sE)) } := by
  have hcl : s.count 32 ≤ s.length := List.count_le_length
  refine FnOk.run H.i95 H.mixed rfl rfl ?_
  refine fR rfl ?_
  refine Run.condF rfl rfl rfl ?_
  refine fR rfl ?_
  refine Run.condF rfl rfl rfl ?_
  refine fR rfl ?_
  refine Run.condT rfl rfl rfl ?_
  refine fR rfl ?_
  refine Mid.call (count_ok H s hs) rfl rfl rfl rfl ?_
  refine aL rfl rfl rfl rfl rfl ?_
  refine fM rfl ?_
  refine aL rfl rfl rfl rfl rfl ?_
  refine fM rfl ?_
  have e : (if ((s.length + 1 : Nat) : Int) < ((s.count 32 + 1 : Nat) : Int) then ((s.length + 1 : Nat) : Int) else ((s.count 32 + 1 : Nat) : Int)) = ((s.count 32 + 1 : Nat) : Int) := by rw [if_neg (by omega)]
  rw [e]
  refine Mid.makeE [([] : Str)] (ev := T.str) rfl (by omega) (by omega) rfl rfl rfl ?_
  refine fM rfl ?_
  refine s64 rfl rfl rfl ?_
  refine fM rfl ?_
  generalize hn : s.count 32 = n at hc hcl
  refine rLoopM (β := Nat × Str × List Str) (fun b => { env := [(0, .t (.str b.2.1)), (1, .t (.str [32])), (2, .t (.int .i64 0)), (3, .t (.int .i64 n)), (9, .slc 0 0 (n + 1) 1), (10, .t (.int .i64 b.1))], s := ⟨[(0, .cells (cE T.str b.2.2))], 1⟩ })
    (fun b => SpOk s n b.1 b.2.1 b.2.2) (fun b => n - b.1) 1 (0, s, (List.replicate (n + 1) [([] : Str)]).flatten) rfl ⟨by simp, by simp [hn], by simp, Nat.le_refl _⟩ rfl rfl rfl ?_
  rintro ⟨i, r, A⟩ hinv ih
  have hA := hinv.len
  have hcn := hinv.cnt
  have heq := hinv.eq
  have hle := hinv.le
  simp only at hA hcn heq hle
  by_cases hi : i < n
  · obtain ⟨m, h1, h2, h3, h4⟩ := idx_split (s := r) (by omega)
    have hix := index_ok H r (by omega)
    rw [h1] at hix
    refine fR rfl ?_
    refine Run.condT rfl rfl (by simp; omega) ?_
    refine fR rfl ?_
    refine Mid.call (hix) rfl rfl rfl rfl ?_
    refine fM rfl ?_
    refine Run.condF rfl rfl (by simp) ?_
    refine fR rfl ?_
    refine aL rfl rfl rfl rfl rfl ?_
    refine pu rfl ?_
    refine Mid.iaS rfl rfl (by omega) rfl ?_
    refine Mid.stE rfl rfl ((by simp only; omega)) rfl rfl ?_
    refine fM rfl ?_
    refine aL rfl rfl rfl rfl rfl ?_
    refine pu rfl ?_
    refine fM rfl ?_
    refine aL rfl rfl rfl rfl rfl ?_
    refine fM rfl ?_
    have hc2 : r.count 32 = (r.drop (m + 1)).count 32 + 1 := by
      have := count_app (r.take m) (r.drop (m + 1)) h3
      rw [← h4] at this; exact this
    have hs2 : splS r = r.take m :: splS (r.drop (m + 1)) := by
      have := splS_app (a := r.take m) (b := r.drop (m + 1)) h3
      rw [← h4] at this; exact this
    exact rWeak 1 rfl (ih (i + 1, r.drop (m + 1), A.set i (r.take m)) (by simp only; omega) ⟨by simp only [List.length_set]; exact hA, by simp only; omega, by
      simp only
      rw [set_take' _ _ _ (by omega), heq, hs2, List.append_assoc]; rfl, by simp only [List.length_drop]; omega⟩) rfl rfl rfl
  · have hin : i = n := by omega
    subst hin
    have hc0 : r.count 32 = 0 := by omega
    have hs2 : splS r = [r] := splS_none (List.count_eq_zero.1 hc0)
    refine fR rfl ?_
    refine Run.condF rfl rfl (by simp) ?_
    refine fR rfl ?_
    refine Mid.iaS rfl rfl (by omega) rfl ?_
    refine Mid.stE rfl rfl ((by simp only; omega)) rfl rfl ?_
    refine fM rfl ?_
    refine aL rfl rfl rfl rfl rfl ?_
    refine pu rfl ?_
    refine fM rfl ?_
    refine Run.fin rfl (EndOk.chg rfl rfl ?_ ?_)
    · have hl : splS s = A.set i r := by
        rw [heq, hs2, ← set_take' _ _ _ (by omega), List.take_of_length_le (by rw [List.length_set]; omega)]
      rw [hl, show A.set i r = A.set (0 + i * 1) r by rw [Nat.zero_add, Nat.mul_one]]
      exact LeR.slcE (Nat.zero_le _) rfl (by rw [List.length_set]; simp only; omega)
    · exact (by repeat' (first | exact trivial | exact LeX.t | exact LeX.top | exact LeX.nilOwn (Nat.le_of_ble_eq_true rfl) (Nat.le_of_ble_eq_true rfl) | exact LeX.ownT | exact LeX.nilT | exact LeX.same rfl | exact LeX.tEq (by simp) | exact LeX.ownEq (by simp) (Nat.le_of_ble_eq_true rfl) | exact LeX.tEq (by congr 1 <;> omega) | exact Or.inr ⟨Nat.le_of_ble_eq_true rfl, Nat.le_of_ble_eq_true rfl, rfl⟩ | refine Or.inl ⟨Nat.le_of_ble_eq_true rfl, _, rfl, ?_⟩ | refine LeO.cells ?_ | exact LeO.arr rfl | exact LeO.arr (by simp) | exact LeO.mE (by first | rfl | simp) (by first | exact Or.inl rfl | exact Or.inr rfl) | exact LeO.cE (by first | rfl | simp) | exact LeXs.cE (by first | rfl | simp) | refine LeO.map (by first | rfl | simp) ?_ (by first | exact Or.inl rfl | exact Or.inr rfl) | exact LeO.iter (by first | rfl | simp) (Nat.le_of_ble_eq_true rfl) | refine LeXs.cons ?_ ?_ | exact LeXs.nil | refine And.intro ?_ ?_))
theorem split_ok (H : Pr23 P) (s : Str) (hs : s.length ≤ 140737488355328) (hc : s.count 32 < 8796093022208) : FnOk P 73 [.t (.str s), .t (.str [32])] ⟨[], 0⟩ { v := .t (.lst ((splS s).map sE)) } := by
  refine FnOk.run H.i73 H.mixed rfl rfl ?_
  refine fR rfl ?_
  refine Mid.call (genSplit_ok H s hs hc) rfl rfl rfl rfl ?_
  refine fM rfl ?_
  refine Run.fin rfl (EndOk.go ?_); exact .t rfl
theorem dSet_ok (H : Pr23 P) (s : Str) (hs : s.length ≤ 140737488355328) (hc : s.count 32 < 8796093022208) : FnOk P 48 [.t (.str s)] ⟨[], 0⟩ { v := .tup [.t (.lst ((setF s).1.map sE)), .t (.int .i64 (setF s).2)] } := by
  have hsp := split_ok H s hs hc
  have hll := splS_len s
  have hel : ∀ x, x ∈ splS s → x.length ≤ 140737488355328 := fun x hx => Nat.le_trans (splS_mem hx) hs
  have hR : ∀ R, setF s = R → FnOk P 48 [.t (.str s)] ⟨[], 0⟩ { v := .tup [.t (.lst (R.1.map sE)), .t (.int .i64 R.2)] } := by
    intro R hR
    unfold setF at hR
    generalize splS s = l at hsp hll hel hR
    refine FnOk.run H.i48 H.mixed rfl rfl ?_
    refine fR rfl ?_
    refine Mid.call (hsp) rfl rfl rfl rfl ?_
    refine fM rfl ?_
    refine lM rfl rfl rfl ?_
    refine fM rfl ?_
    refine rList l (fun i (_ : Unit) => { env := [(4, .t (.lst (l.map sE))), (11, .t (.lst (l.map sE))), (12, .t (.int .i64 l.length)), (13, .t (.int .i64 i))], s := ⟨[], 0⟩ }) (fun r i _ => (l.any fun x => !nameF x || resF x) = r.any fun x => !nameF x || resF x) 0 () rfl rfl rfl rfl rfl ?_ ?_
    · intro _ hinv
      have hb : (l.any fun x => !nameF x || resF x) = false := by rw [hinv]; rfl
      unfold setL at hR
      rw [if_neg (by rw [hb]; simp)] at hR
      refine fR rfl ?_
      refine Run.condF rfl rfl (by simp) ?_
      refine fR rfl ?_
      refine lM rfl rfl rfl ?_
      refine fM rfl ?_
      refine Run.cond rfl rfl (fun h4 => ?_) (fun h4 => ?_)
      · have h4' : l.length > 4 := by simp at h4; omega
        rw [if_pos h4'] at hR
        subst hR
        refine fR rfl ?_
        refine Run.fin rfl (EndOk.go ?_); exact .tup2 (.nil rfl) (.t rfl)
      · have h4' : ¬ l.length > 4 := by simp at h4; omega
        rw [if_neg h4'] at hR
        refine fR rfl ?_
        refine lM rfl rfl rfl ?_
        refine fM rfl ?_
        refine rList l (fun i (_ : Unit) => { env := [(4, .t (.lst (l.map sE))), (29, .t (.int .i64 l.length)), (30, .t (.int .i64 i))], s := ⟨[], 0⟩ }) (fun r i _ => dupS [] l = dupS (l.take i) r) 0 () rfl rfl rfl rfl rfl ?_ ?_
        · intro _ hd
          rw [if_neg (by rw [hd]; simp [dupS])] at hR
          subst hR
          refine fR rfl ?_
          refine Run.condF rfl rfl (by simp) ?_
          refine fR rfl ?_
          refine Run.fin rfl (EndOk.go ?_); exact .tup2 (.t rfl) (.t rfl)
        · intro i x r _ h1 hi hdr hd ih
          have htk : l.take i ++ [x] = l.take (i + 1) := by rw [List.take_add_one, h1]; rfl
          refine fR rfl ?_
          refine Run.condT rfl rfl (by simp; omega) ?_
          refine fR rfl ?_
          refine rList (l.take i) (fun k (_ : Unit) => { env := [(4, .t (.lst (l.map sE))), (7, .t (.int .i64 i)), (29, .t (.int .i64 l.length)), (30, .t (.int .i64 i)), (33, .t (.int .i64 i)), (34, .t (.int .i64 k))], s := ⟨[], 0⟩ }) (fun r' k _ => decide (x ∈ l.take i) = decide (x ∈ r')) 0 () rfl rfl rfl rfl rfl ?_ ?_
          · intro _ hm
            have hm' : ¬ x ∈ l.take i := by simpa using hm
            refine fR rfl ?_
            refine Run.condF rfl rfl (by simp; omega) ?_
            refine fR rfl ?_
            refine aL rfl rfl rfl rfl rfl ?_
            refine fM rfl ?_
            exact rWeak 0 rfl (ih () (by rw [hd, dupS, ← htk]; simp [hm'])) rfl rfl rfl
          · intro k y r' _ g1 gi gd hm ih2
            have gi' : k < i := by rw [List.length_take] at gi; omega
            have g2 : l[k]? = some y := by rw [List.getElem?_take, if_pos gi'] at g1; exact g1
            refine fR rfl ?_
            refine Run.condT rfl rfl (by simp; omega) ?_
            refine fR rfl ?_
            refine Mid.elemMap rfl rfl rfl h1 rfl rfl ?_
            refine fM rfl ?_
            refine Mid.elemMap rfl rfl rfl g2 rfl rfl ?_
            refine fM rfl ?_
            refine Run.cond rfl rfl (fun he => ?_) (fun he => ?_)
            · have he' : x = y := by simpa using he
              have hmem : x ∈ l.take i := by
                have := hm.trans (decide_eq_true (by rw [he']; exact List.mem_cons_self ..))
                exact of_decide_eq_true this
              rw [if_pos (by rw [hd, dupS, decide_eq_true hmem]; rfl)] at hR
              subst hR
              refine fR rfl ?_
              refine Run.fin rfl (EndOk.go ?_); exact .tup2 (.nil rfl) (.t rfl)
            · have he' : ¬ x = y := by simpa using he
              refine fR rfl ?_
              refine aL rfl rfl rfl rfl rfl ?_
              refine fM rfl ?_
              exact rWeak 0 rfl (ih2 () (by rw [hm]; simp [he'])) rfl rfl rfl
    · intro i x r _ h1 hi hdr hinv ih
      have hx := hel x (List.mem_of_getElem? h1)
      refine fR rfl ?_
      refine Run.condT rfl rfl (by simp; omega) ?_
      refine fR rfl ?_
      refine Mid.elemMap rfl rfl rfl h1 rfl rfl ?_
      refine fM rfl ?_
      refine Mid.call (tname_ok H x hx) rfl rfl rfl rfl ?_
      refine fM rfl ?_
      refine caG rfl rfl (fun hg => ⟨_, rfl, treserved_ok H x hx, rfl⟩) rfl rfl ?_
      refine fM rfl ?_
      refine Run.cond rfl rfl (fun hb => ?_) (fun hb => ?_)
      · unfold setL at hR
        rw [if_pos (by rw [hinv, List.any_cons, show (!nameF x || resF x) = true from hb]; rfl)] at hR
        subst hR
        refine fR rfl ?_
        refine Run.fin rfl (EndOk.go ?_); exact .tup2 (.nil rfl) (.t rfl)
      · refine fR rfl ?_
        refine aL rfl rfl rfl rfl rfl ?_
        refine fM rfl ?_
        exact rWeak 0 rfl (ih () (by rw [hinv, List.any_cons, show (!nameF x || resF x) = false from hb]; rfl)) rfl rfl rfl
  exact hR _ rfl
end Go.GB.C23


/-
  F23E: chapter 23's functions: arguments, rules.
-/
namespace Go.GB.C23
open Go.GB Go.GB.C11
set_option linter.unusedSimpArgs false
set_option linter.unusedVariables false
set_option maxRecDepth 100000
set_option maxHeartbeats 4000000
variable {P : Program}

def dV (d : Dir) : V := .agg [.t (.str d.name), .t (.lst (d.args.map Arg.enc))]
theorem argV_ok (H : Pr23 P) (f : FuncId) (d : Dir) (hd : d.args.length ≤ 140737488355328) (a : Str) (hf : f = 72 ∨ f = 84) : FnOk P f [dV d, .t (.str a)] ⟨[], 0⟩ { v := .tup [((argF a d.args).getD Val.zero).v, .t (.bool (argF a d.args).isSome)] } := by
  rcases hf with rfl | rfl
  · refine FnOk.run H.i72 H.mixed rfl rfl ?_
    refine fR rfl ?_
    refine lM rfl rfl rfl ?_
    refine fM rfl ?_
    refine rList d.args (fun i (_ : Unit) => { env := [(1, .t (.str a)), (4, .ptr 1 0), (9, .t (.lst (d.args.map Arg.enc))), (10, .t (.int .i64 d.args.length)), (11, .t (.int .i64 i))], s := ⟨[(1, .cells [.t (.int .i64 0), .t (.int .i64 0), .t (.str []), .nils, .nils])], 2⟩ }) (fun r i _ => argF a d.args = argF a r) 2 () rfl rfl rfl rfl rfl ?_ ?_
    · intro _ hinv
      refine fR rfl ?_
      refine Run.condF rfl rfl (by simp) ?_
      refine fR rfl ?_
      have e : argF a d.args = none := by rw [hinv]; rfl
      rw [e]
      refine Run.fin rfl (EndOk.go ?_); exact .tup2 (.agg (.cons (.t rfl) (.cons (.t rfl) (.cons (.t rfl) (.cons (.nil rfl) (.cons (.nil rfl) .nil)))))) (.t rfl)
    · intro i x r _ h1 hi hdr hinv ih
      refine fR rfl ?_
      refine Run.condT rfl rfl (by simp; omega) ?_
      refine fR rfl ?_
      refine Mid.elemMap rfl rfl rfl h1 rfl rfl ?_
      refine fM rfl ?_
      refine Run.cond rfl rfl (fun h => ?_) (fun h => ?_)
      · have h' : x.name = a := by simpa using h
        refine fR rfl ?_
        have e : argF a d.args = some x.val := by rw [hinv]; simp only [argF]; rw [if_pos h']
        rw [e]
        refine Run.fin rfl (EndOk.go ?_); exact .tup2 (.le (.same rfl)) (.t rfl)
      · have h' : ¬ x.name = a := by simpa using h
        refine fR rfl ?_
        refine aL rfl rfl rfl rfl rfl ?_
        refine fM rfl ?_
        exact rWeak 2 rfl (ih () (by rw [hinv]; simp only [argF]; rw [if_neg h'])) rfl rfl rfl
  · refine FnOk.run H.i84 H.mixed rfl rfl ?_
    refine fR rfl ?_
    refine rList d.args (fun i (_ : Unit) => { env := [(1, .t (.str a)), (2, .ptr 0 0), (4, .ptr 1 0), (6, .t (.int .i64 i))], s := ⟨[(0, .cells [.t (.str d.name), .t (.lst (d.args.map Arg.enc))]), (1, .cells [.t (.int .i64 0), .t (.int .i64 0), .t (.str []), .nils, .nils])], 2⟩ }) (fun r i _ => argF a d.args = argF a r) 2 () rfl rfl rfl rfl rfl ?_ ?_
    · intro _ hinv
      refine fR rfl ?_
      refine lM rfl rfl rfl ?_
      refine fM rfl ?_
      refine Run.condF rfl rfl (by simp) ?_
      refine fR rfl ?_
      have e : argF a d.args = none := by rw [hinv]; rfl
      rw [e]
      refine Run.fin rfl (EndOk.go ?_); exact .tup2 (.agg (.cons (.t rfl) (.cons (.t rfl) (.cons (.t rfl) (.cons (.nil rfl) (.cons (.nil rfl) .nil)))))) (.t rfl)
    · intro i x r _ h1 hi hdr hinv ih
      refine fR rfl ?_
      refine lM rfl rfl rfl ?_
      refine fM rfl ?_
      refine Run.condT rfl rfl (by simp; omega) ?_
      refine fR rfl ?_
      refine Mid.elemMap rfl rfl rfl h1 rfl rfl ?_
      refine fM rfl ?_
      refine Run.cond rfl rfl (fun h => ?_) (fun h => ?_)
      · have h' : x.name = a := by simpa using h
        refine fR rfl ?_
        refine Mid.elemMap rfl rfl rfl h1 rfl rfl ?_
        refine fM rfl ?_
        have e : argF a d.args = some x.val := by rw [hinv]; simp only [argF]; rw [if_pos h']
        rw [e]
        refine Run.fin rfl (EndOk.go ?_); exact .tup2 (.le (.same rfl)) (.t rfl)
      · have h' : ¬ x.name = a := by simpa using h
        refine fR rfl ?_
        refine aL rfl rfl rfl rfl rfl ?_
        refine fM rfl ?_
        exact rWeak 2 rfl (ih () (by rw [hinv]; simp only [argF]; rw [if_neg h'])) rfl rfl rfl
theorem hasD_ok (H : Pr23 P) (f : FuncId) (l : List Dir) (hl : l.length ≤ 140737488355328) (n : Str) (hf : f = 21 ∨ f = 25) : FnOk P f [.t (.lst (l.map Dir.enc)), .t (.str n)] ⟨[], 0⟩ { v := .t (.bool (hasD n l)) } := by
  rcases hf with rfl | rfl
  · refine FnOk.run H.i21 H.mixed rfl rfl ?_
    refine fR rfl ?_
    refine lM rfl rfl rfl ?_
    refine fM rfl ?_
    refine rList l (fun i (_ : Unit) => { env := [(1, .t (.str n)), (7, .t (.lst (l.map Dir.enc))), (8, .t (.int .i64 l.length)), (9, .t (.int .i64 i))], s := ⟨[], 0⟩ }) (fun r i _ => hasD n l = hasD n r) 0 () rfl rfl rfl rfl rfl ?_ ?_
    · intro _ hinv
      refine fR rfl ?_
      refine Run.condF rfl rfl (by simp) ?_
      refine fR rfl ?_
      refine Run.fin rfl (EndOk.go ?_); exact .t (by rw [hinv]; rfl)
    · intro i x r _ h1 hi hdr hinv ih
      refine fR rfl ?_
      refine Run.condT rfl rfl (by simp; omega) ?_
      refine fR rfl ?_
      refine Mid.elemMap rfl rfl rfl h1 rfl rfl ?_
      refine fM rfl ?_
      refine Run.cond rfl rfl (fun h => ?_) (fun h => ?_)
      · refine fR rfl ?_
        refine Run.fin rfl (EndOk.go ?_); exact .t (by rw [hinv]; unfold hasD; rw [List.any_cons, h]; rfl)
      · refine fR rfl ?_
        refine aL rfl rfl rfl rfl rfl ?_
        refine fM rfl ?_
        exact rWeak 0 rfl (ih () (by rw [hinv]; unfold hasD; rw [List.any_cons, h]; rfl)) rfl rfl rfl
  · refine FnOk.run H.i25 H.mixed rfl rfl ?_
    refine fR rfl ?_
    refine rList l (fun i (_ : Unit) => { env := [(0, .t (.lst (l.map Dir.enc))), (1, .t (.str n)), (5, .t (.int .i64 i))], s := ⟨[], 0⟩ }) (fun r i _ => hasD n l = hasD n r) 0 () rfl rfl rfl rfl rfl ?_ ?_
    · intro _ hinv
      refine fR rfl ?_
      refine lM rfl rfl rfl ?_
      refine fM rfl ?_
      refine Run.condF rfl rfl (by simp) ?_
      refine fR rfl ?_
      refine Run.fin rfl (EndOk.go ?_); exact .t (by rw [hinv]; rfl)
    · intro i x r _ h1 hi hdr hinv ih
      refine fR rfl ?_
      refine lM rfl rfl rfl ?_
      refine fM rfl ?_
      refine Run.condT rfl rfl (by simp; omega) ?_
      refine fR rfl ?_
      refine Mid.elemMap rfl rfl rfl h1 rfl rfl ?_
      refine fM rfl ?_
      refine Run.cond rfl rfl (fun h => ?_) (fun h => ?_)
      · refine fR rfl ?_
        refine Run.fin rfl (EndOk.go ?_); exact .t (by rw [hinv]; unfold hasD; rw [List.any_cons, h]; rfl)
      · refine fR rfl ?_
        refine aL rfl rfl rfl rfl rfl ?_
        refine fM rfl ?_
        exact rWeak 0 rfl (ih () (by rw [hinv]; unfold hasD; rw [List.any_cons, h]; rfl)) rfl rfl rfl

/- rules -/
def fnK : Nat → FuncId
  | 0 => 117
  | 1 => 118
  | 2 => 119
  | 3 => 120
  | _ => 121
def PRule.enc (p : PRule) : List T := [.str p.name, .bool p.may, .fn (fnK p.k)]
def Rule.v (r : Rule) : V := .agg [.t (.int .i64 r.places), .t (.bool r.again), .t (.lst (r.params.map PRule.enc))]
def Rule.zero : Rule := ⟨0, false, []⟩
/- values that fit -/
end Go.GB.C23


/-
  F23F: chapter 23's functions: the reference's arguments and places.
-/
namespace Go.GB.C23
open Go.GB Go.GB.C11
set_option linter.unusedSimpArgs false
set_option linter.unusedVariables false
set_option maxRecDepth 100000
set_option maxHeartbeats 4000000
variable {P : Program}

def kmay (n a : Str) : Bool := n ++ [46] ++ a == [99, 97, 99, 104, 101, 67, 111, 110, 116, 114, 111, 108, 46, 112, 114, 105, 118, 97, 116, 101] || n ++ [46] ++ a == [100, 101, 112, 114, 101, 99, 97, 116, 101, 100, 46, 114, 101, 97, 115, 111, 110]
theorem kind_ok (H : Pr23 P) (n a : Str) (hn : n.length ≤ 140737488355328) (ha : a.length ≤ 140737488355328) : ∃ b, FnOk P 89 [.t (.str n), .t (.str a)] ⟨[], 0⟩ { v := .tup [.t (.str (kstr n a)), .t (.bool b)] } := by
  have hR : ∀ R, kstr n a = R → ∃ b, FnOk P 89 [.t (.str n), .t (.str a)] ⟨[], 0⟩ { v := .tup [.t (.str R), .t (.bool b)] } := by
    intro R hR
    unfold kstr at hR
    refine ⟨kmay n a, ?_⟩
    refine FnOk.run H.i89 H.mixed rfl rfl ?_
    refine fR rfl ?_
    refine pu rfl ?_
    refine fM rfl ?_
    refine pu rfl ?_
    refine fM rfl ?_
    refine Run.cond rfl rfl (fun h0 => ?_) (fun h0 => ?_)
    · have h' : n ++ [46] ++ a = [107, 101, 121, 46, 102, 105, 101, 108, 100, 115] := by simpa only [beq_iff_eq] using h0
      rw [if_pos h'] at hR
      subst hR
      skip
      refine Run.condT rfl rfl h0 ?_
      refine fR rfl ?_
      refine Run.fin rfl (EndOk.go ?_); exact .tup2 (.t rfl) (.t (by unfold kmay; rw [h']; rfl))
    · have n0 : ¬ n ++ [46] ++ a = [107, 101, 121, 46, 102, 105, 101, 108, 100, 115] := by simpa only [beq_eq_false_iff_ne, ne_eq] using h0
      rw [if_neg n0] at hR
      refine fR rfl ?_
      refine Run.cond rfl rfl (fun h1 => ?_) (fun h1 => ?_)
      · have h' : n ++ [46] ++ a = [114, 101, 113, 117, 105, 114, 101, 115, 46, 102, 105, 101, 108, 100, 115] := by simpa only [beq_iff_eq] using h1
        rw [if_pos h'] at hR
        subst hR
        skip
        refine Run.condT rfl rfl h1 ?_
        refine fR rfl ?_
        refine Run.fin rfl (EndOk.go ?_); exact .tup2 (.t rfl) (.t (by unfold kmay; rw [h']; rfl))
      · have n1 : ¬ n ++ [46] ++ a = [114, 101, 113, 117, 105, 114, 101, 115, 46, 102, 105, 101, 108, 100, 115] := by simpa only [beq_eq_false_iff_ne, ne_eq] using h1
        rw [if_neg n1] at hR
        refine fR rfl ?_
        refine Run.cond rfl rfl (fun h2 => ?_) (fun h2 => ?_)
        · have h' : n ++ [46] ++ a = [112, 114, 111, 118, 105, 100, 101, 115, 46, 102, 105, 101, 108, 100, 115] := by simpa only [beq_iff_eq] using h2
          rw [if_pos h'] at hR
          subst hR
          refine fR rfl ?_
          refine Run.fin rfl (EndOk.go ?_); exact .tup2 (.t rfl) (.t (by unfold kmay; rw [h']; rfl))
        · have n2 : ¬ n ++ [46] ++ a = [112, 114, 111, 118, 105, 100, 101, 115, 46, 102, 105, 101, 108, 100, 115] := by simpa only [beq_eq_false_iff_ne, ne_eq] using h2
          rw [if_neg n2] at hR
          refine fR rfl ?_
          refine Run.cond rfl rfl (fun h3 => ?_) (fun h3 => ?_)
          · have h' : n ++ [46] ++ a = [116, 97, 103, 46, 110, 97, 109, 101] := by simpa only [beq_iff_eq] using h3
            rw [if_pos h'] at hR
            subst hR
            refine fR rfl ?_
            refine Run.fin rfl (EndOk.go ?_); exact .tup2 (.t rfl) (.t (by unfold kmay; rw [h']; rfl))
          · have n3 : ¬ n ++ [46] ++ a = [116, 97, 103, 46, 110, 97, 109, 101] := by simpa only [beq_eq_false_iff_ne, ne_eq] using h3
            rw [if_neg n3] at hR
            refine fR rfl ?_
            refine Run.cond rfl rfl (fun h4 => ?_) (fun h4 => ?_)
            · have h' : n ++ [46] ++ a = [115, 99, 111, 112, 101, 115, 46, 97, 108, 108] := by simpa only [beq_iff_eq] using h4
              rw [if_pos h'] at hR
              subst hR
              refine fR rfl ?_
              refine Run.fin rfl (EndOk.go ?_); exact .tup2 (.t rfl) (.t (by unfold kmay; rw [h']; rfl))
            · have n4 : ¬ n ++ [46] ++ a = [115, 99, 111, 112, 101, 115, 46, 97, 108, 108] := by simpa only [beq_eq_false_iff_ne, ne_eq] using h4
              rw [if_neg n4] at hR
              refine fR rfl ?_
              refine Run.cond rfl rfl (fun h5 => ?_) (fun h5 => ?_)
              · have h' : n ++ [46] ++ a = [99, 111, 115, 116, 46, 119, 101, 105, 103, 104, 116] := by simpa only [beq_iff_eq] using h5
                rw [if_pos h'] at hR
                subst hR
                skip
                refine Run.condT rfl rfl h5 ?_
                refine fR rfl ?_
                refine Run.fin rfl (EndOk.go ?_); exact .tup2 (.t rfl) (.t (by unfold kmay; rw [h']; rfl))
              · have n5 : ¬ n ++ [46] ++ a = [99, 111, 115, 116, 46, 119, 101, 105, 103, 104, 116] := by simpa only [beq_eq_false_iff_ne, ne_eq] using h5
                rw [if_neg n5] at hR
                refine fR rfl ?_
                refine Run.cond rfl rfl (fun h6 => ?_) (fun h6 => ?_)
                · have h' : n ++ [46] ++ a = [108, 105, 115, 116, 83, 105, 122, 101, 46, 97, 115, 115, 117, 109, 101, 100] := by simpa only [beq_iff_eq] using h6
                  rw [if_pos h'] at hR
                  subst hR
                  skip
                  refine Run.condT rfl rfl h6 ?_
                  refine fR rfl ?_
                  refine Run.fin rfl (EndOk.go ?_); exact .tup2 (.t rfl) (.t (by unfold kmay; rw [h']; rfl))
                · have n6 : ¬ n ++ [46] ++ a = [108, 105, 115, 116, 83, 105, 122, 101, 46, 97, 115, 115, 117, 109, 101, 100] := by simpa only [beq_eq_false_iff_ne, ne_eq] using h6
                  rw [if_neg n6] at hR
                  refine fR rfl ?_
                  refine Run.cond rfl rfl (fun h7 => ?_) (fun h7 => ?_)
                  · have h' : n ++ [46] ++ a = [99, 97, 99, 104, 101, 67, 111, 110, 116, 114, 111, 108, 46, 109, 97, 120, 65, 103, 101] := by simpa only [beq_iff_eq] using h7
                    rw [if_pos h'] at hR
                    subst hR
                    refine fR rfl ?_
                    refine Run.fin rfl (EndOk.go ?_); exact .tup2 (.t rfl) (.t (by unfold kmay; rw [h']; rfl))
                  · have n7 : ¬ n ++ [46] ++ a = [99, 97, 99, 104, 101, 67, 111, 110, 116, 114, 111, 108, 46, 109, 97, 120, 65, 103, 101] := by simpa only [beq_eq_false_iff_ne, ne_eq] using h7
                    rw [if_neg n7] at hR
                    refine fR rfl ?_
                    refine Run.cond rfl rfl (fun h8 => ?_) (fun h8 => ?_)
                    · have h' : n ++ [46] ++ a = [99, 97, 99, 104, 101, 67, 111, 110, 116, 114, 111, 108, 46, 112, 114, 105, 118, 97, 116, 101] := by simpa only [beq_iff_eq] using h8
                      rw [if_pos h'] at hR
                      subst hR
                      refine fR rfl ?_
                      refine Run.fin rfl (EndOk.go ?_); exact .tup2 (.t rfl) (.t (by unfold kmay; rw [h']; rfl))
                    · have n8 : ¬ n ++ [46] ++ a = [99, 97, 99, 104, 101, 67, 111, 110, 116, 114, 111, 108, 46, 112, 114, 105, 118, 97, 116, 101] := by simpa only [beq_eq_false_iff_ne, ne_eq] using h8
                      rw [if_neg n8] at hR
                      refine fR rfl ?_
                      refine Run.cond rfl rfl (fun h9 => ?_) (fun h9 => ?_)
                      · have h' : n ++ [46] ++ a = [100, 101, 112, 114, 101, 99, 97, 116, 101, 100, 46, 114, 101, 97, 115, 111, 110] := by simpa only [beq_iff_eq] using h9
                        rw [if_pos h'] at hR
                        subst hR
                        refine fR rfl ?_
                        refine Run.fin rfl (EndOk.go ?_); exact .tup2 (.t rfl) (.t (by unfold kmay; rw [h']; rfl))
                      · have n9 : ¬ n ++ [46] ++ a = [100, 101, 112, 114, 101, 99, 97, 116, 101, 100, 46, 114, 101, 97, 115, 111, 110] := by simpa only [beq_eq_false_iff_ne, ne_eq] using h9
                        rw [if_neg n9] at hR
                        refine fR rfl ?_
                        subst hR
                        have e : kmay n a = false := by
                          unfold kmay
                          rw [h8, h9]; rfl
                        rw [e]
                        refine Run.fin rfl (EndOk.go ?_); exact .tup2 (.t rfl) (.t rfl)
  exact hR _ rfl
theorem needed_ok (H : Pr23 P) (n : Str) : FnOk P 90 [.t (.str n)] ⟨[], 0⟩ { v := .t (.str (needF n)) } := by
  refine FnOk.run H.i90 H.mixed rfl rfl ?_
  refine fR rfl ?_
  refine Run.cond rfl rfl (fun h0 => ?_) (fun h0 => ?_)
  · have h' : n = ([107, 101, 121] : Str) := by simpa using h0
    subst h'
    skip
    refine Run.condT rfl rfl rfl ?_
    refine fR rfl ?_
    refine Run.fin rfl (EndOk.go ?_); exact .t rfl
  · have n0 : ¬ n = ([107, 101, 121] : Str) := by simpa using h0
    refine fR rfl ?_
    refine Run.cond rfl rfl (fun h1 => ?_) (fun h1 => ?_)
    · have h' : n = ([114, 101, 113, 117, 105, 114, 101, 115] : Str) := by simpa using h1
      subst h'
      skip
      refine Run.condT rfl rfl rfl ?_
      refine fR rfl ?_
      refine Run.fin rfl (EndOk.go ?_); exact .t rfl
    · have n1 : ¬ n = ([114, 101, 113, 117, 105, 114, 101, 115] : Str) := by simpa using h1
      refine fR rfl ?_
      refine Run.cond rfl rfl (fun h2 => ?_) (fun h2 => ?_)
      · have h' : n = ([112, 114, 111, 118, 105, 100, 101, 115] : Str) := by simpa using h2
        subst h'
        refine fR rfl ?_
        refine Run.fin rfl (EndOk.go ?_); exact .t rfl
      · have n2 : ¬ n = ([112, 114, 111, 118, 105, 100, 101, 115] : Str) := by simpa using h2
        refine fR rfl ?_
        refine Run.cond rfl rfl (fun h3 => ?_) (fun h3 => ?_)
        · have h' : n = ([116, 97, 103] : Str) := by simpa using h3
          subst h'
          refine fR rfl ?_
          refine Run.fin rfl (EndOk.go ?_); exact .t rfl
        · have n3 : ¬ n = ([116, 97, 103] : Str) := by simpa using h3
          refine fR rfl ?_
          refine Run.cond rfl rfl (fun h4 => ?_) (fun h4 => ?_)
          · have h' : n = ([115, 99, 111, 112, 101, 115] : Str) := by simpa using h4
            subst h'
            refine fR rfl ?_
            refine Run.fin rfl (EndOk.go ?_); exact .t rfl
          · have n4 : ¬ n = ([115, 99, 111, 112, 101, 115] : Str) := by simpa using h4
            refine fR rfl ?_
            refine Run.cond rfl rfl (fun h5 => ?_) (fun h5 => ?_)
            · have h' : n = ([99, 111, 115, 116] : Str) := by simpa using h5
              subst h'
              refine fR rfl ?_
              refine Run.fin rfl (EndOk.go ?_); exact .t rfl
            · have n5 : ¬ n = ([99, 111, 115, 116] : Str) := by simpa using h5
              refine fR rfl ?_
              refine Run.cond rfl rfl (fun h6 => ?_) (fun h6 => ?_)
              · have h' : n = ([108, 105, 115, 116, 83, 105, 122, 101] : Str) := by simpa using h6
                subst h'
                refine fR rfl ?_
                refine Run.fin rfl (EndOk.go ?_); exact .t rfl
              · have n6 : ¬ n = ([108, 105, 115, 116, 83, 105, 122, 101] : Str) := by simpa using h6
                refine fR rfl ?_
                refine Run.cond rfl rfl (fun h7 => ?_) (fun h7 => ?_)
                · have h' : n = ([99, 97, 99, 104, 101, 67, 111, 110, 116, 114, 111, 108] : Str) := by simpa using h7
                  subst h'
                  refine fR rfl ?_
                  refine Run.fin rfl (EndOk.go ?_); exact .t rfl
                · have n7 : ¬ n = ([99, 97, 99, 104, 101, 67, 111, 110, 116, 114, 111, 108] : Str) := by simpa using h7
                  refine fR rfl ?_
                  have e : needF n = [] := by
                    unfold needF
                    rw [if_neg (fun h => by rcases h with h | h | h <;> first | exact n0 h | exact n1 h | exact n2 h), if_neg n3, if_neg n4, if_neg n5, if_neg n6, if_neg n7]
                  rw [e]
                  refine Run.fin rfl (EndOk.go ?_); exact .t rfl
theorem may_ok (H : Pr23 P) (n : Str) (p : Int) : FnOk P 63 [.t (.str n), .t (.int .i64 p)] ⟨[], 0⟩ { v := .t (.bool (mayF n p)) } := by
  refine FnOk.run H.i63 H.mixed rfl rfl ?_
  refine fR rfl ?_
  refine Run.cond rfl rfl (fun h0 => ?_) (fun h0 => ?_)
  · have h' : n = ([107, 101, 121] : Str) := by simpa using h0
    subst h'
    refine fR rfl ?_
    refine Run.fin rfl (EndOk.go ?_); exact .t rfl
  · have n0 : ¬ n = ([107, 101, 121] : Str) := by simpa using h0
    refine fR rfl ?_
    refine Run.cond rfl rfl (fun h1 => ?_) (fun h1 => ?_)
    · have h' : n = ([101, 120, 116, 101, 114, 110, 97, 108] : Str) := by simpa using h1
      subst h'
      skip
      refine Run.condT rfl rfl rfl ?_
      refine fR rfl ?_
      refine Run.fin rfl (EndOk.go ?_); exact .t rfl
    · have n1 : ¬ n = ([101, 120, 116, 101, 114, 110, 97, 108] : Str) := by simpa using h1
      refine fR rfl ?_
      refine Run.cond rfl rfl (fun h2 => ?_) (fun h2 => ?_)
      · have h' : n = ([115, 104, 97, 114, 101, 97, 98, 108, 101] : Str) := by simpa using h2
        subst h'
        skip
        refine Run.condT rfl rfl rfl ?_
        refine fR rfl ?_
        refine Run.fin rfl (EndOk.go ?_); exact .t rfl
      · have n2 : ¬ n = ([115, 104, 97, 114, 101, 97, 98, 108, 101] : Str) := by simpa using h2
        refine fR rfl ?_
        refine Run.cond rfl rfl (fun h3 => ?_) (fun h3 => ?_)
        · have h' : n = ([105, 110, 97, 99, 99, 101, 115, 115, 105, 98, 108, 101] : Str) := by simpa using h3
          subst h'
          skip
          refine Run.condT rfl rfl rfl ?_
          refine fR rfl ?_
          refine Run.fin rfl (EndOk.go ?_); exact .t rfl
        · have n3 : ¬ n = ([105, 110, 97, 99, 99, 101, 115, 115, 105, 98, 108, 101] : Str) := by simpa using h3
          refine fR rfl ?_
          refine Run.cond rfl rfl (fun h4 => ?_) (fun h4 => ?_)
          · have h' : n = ([114, 101, 113, 117, 105, 114, 101, 115] : Str) := by simpa using h4
            subst h'
            skip
            refine Run.condT rfl rfl rfl ?_
            refine fR rfl ?_
            refine Run.fin rfl (EndOk.go ?_); exact .t rfl
          · have n4 : ¬ n = ([114, 101, 113, 117, 105, 114, 101, 115] : Str) := by simpa using h4
            refine fR rfl ?_
            refine Run.cond rfl rfl (fun h5 => ?_) (fun h5 => ?_)
            · have h' : n = ([112, 114, 111, 118, 105, 100, 101, 115] : Str) := by simpa using h5
              subst h'
              refine fR rfl ?_
              refine Run.fin rfl (EndOk.go ?_); exact .t rfl
            · have n5 : ¬ n = ([112, 114, 111, 118, 105, 100, 101, 115] : Str) := by simpa using h5
              refine fR rfl ?_
              refine Run.cond rfl rfl (fun h6 => ?_) (fun h6 => ?_)
              · have h' : n = ([116, 97, 103] : Str) := by simpa using h6
                subst h'
                refine fR rfl ?_
                refine Run.fin rfl (EndOk.go ?_); exact .t rfl
              · have n6 : ¬ n = ([116, 97, 103] : Str) := by simpa using h6
                refine fR rfl ?_
                refine Run.cond rfl rfl (fun h7 => ?_) (fun h7 => ?_)
                · have h' : n = ([97, 117, 116, 104, 101, 110, 116, 105, 99, 97, 116, 101, 100] : Str) := by simpa using h7
                  subst h'
                  skip
                  refine Run.condT rfl rfl rfl ?_
                  refine fR rfl ?_
                  refine Run.fin rfl (EndOk.go ?_); exact .t rfl
                · have n7 : ¬ n = ([97, 117, 116, 104, 101, 110, 116, 105, 99, 97, 116, 101, 100] : Str) := by simpa using h7
                  refine fR rfl ?_
                  refine Run.cond rfl rfl (fun h8 => ?_) (fun h8 => ?_)
                  · have h' : n = ([115, 99, 111, 112, 101, 115] : Str) := by simpa using h8
                    subst h'
                    skip
                    refine Run.condT rfl rfl rfl ?_
                    refine fR rfl ?_
                    refine Run.fin rfl (EndOk.go ?_); exact .t rfl
                  · have n8 : ¬ n = ([115, 99, 111, 112, 101, 115] : Str) := by simpa using h8
                    refine fR rfl ?_
                    refine Run.cond rfl rfl (fun h9 => ?_) (fun h9 => ?_)
                    · have h' : n = ([99, 97, 99, 104, 101, 67, 111, 110, 116, 114, 111, 108] : Str) := by simpa using h9
                      subst h'
                      refine fR rfl ?_
                      refine Run.fin rfl (EndOk.go ?_); exact .t rfl
                    · have n9 : ¬ n = ([99, 97, 99, 104, 101, 67, 111, 110, 116, 114, 111, 108] : Str) := by simpa using h9
                      refine fR rfl ?_
                      refine Run.cond rfl rfl (fun h10 => ?_) (fun h10 => ?_)
                      · have h' : n = ([99, 111, 115, 116] : Str) := by simpa using h10
                        subst h'
                        skip
                        refine Run.condT rfl rfl rfl ?_
                        refine fR rfl ?_
                        refine Run.fin rfl (EndOk.go ?_); exact .t rfl
                      · have n10 : ¬ n = ([99, 111, 115, 116] : Str) := by simpa using h10
                        refine fR rfl ?_
                        refine Run.cond rfl rfl (fun h11 => ?_) (fun h11 => ?_)
                        · have h' : n = ([108, 105, 115, 116, 83, 105, 122, 101] : Str) := by simpa using h11
                          subst h'
                          refine fR rfl ?_
                          refine Run.fin rfl (EndOk.go ?_); exact .t rfl
                        · have n11 : ¬ n = ([108, 105, 115, 116, 83, 105, 122, 101] : Str) := by simpa using h11
                          refine fR rfl ?_
                          refine Run.cond rfl rfl (fun h12 => ?_) (fun h12 => ?_)
                          · have h' : n = ([100, 101, 112, 114, 101, 99, 97, 116, 101, 100] : Str) := by simpa using h12
                            subst h'
                            refine fR rfl ?_
                            refine Run.fin rfl (EndOk.go ?_); exact .t rfl
                          · have n12 : ¬ n = ([100, 101, 112, 114, 101, 99, 97, 116, 101, 100] : Str) := by simpa using h12
                            refine fR rfl ?_
                            have e : mayF n p = false := by
                              unfold mayF
                              simp only [n0, n1, n2, n3, n4, n5, n6, n7, n8, n9, n10, n11, n12, if_false, or_false]
                            rw [e]
                            refine Run.fin rfl (EndOk.go ?_); exact .t rfl
def glue (p : Str) : List Str → List Str
  | [] => [p]
  | h :: t => (p ++ h) :: t
theorem glue_nil {l : List Str} (h : l ≠ []) : glue [] l = l := by
  cases l with
  | nil => exact absurd rfl h
  | cons a r => rfl
structure SrOk (s : Str) (out : List Str) (fr i : Nat) : Prop where
  le : i ≤ s.length + 1
  fl : fr ≤ i
  ol : out.length ≤ i
  go : i ≤ s.length → splS s = out ++ glue ((s.take i).drop fr) (splS (s.drop i))
  en : i = s.length + 1 → splS s = out
theorem rSplit_ok (H : Pr23 P) (s : Str) (hs : s.length ≤ 1099511627776) : FnOk P 100 [.t (.str s)] ⟨[], 0⟩ { v := .t (.lst ((splS s).map sE)) } := by
  refine FnOk.run H.i100 H.mixed rfl rfl ?_
  refine fR rfl ?_
  refine rLoopM (β := List Str × Nat × Nat) (fun b => { env := [(0, .t (.str s)), (3, .own 0 1 (b.1.map sE)), (4, .t (.int .i64 b.2.1)), (5, .t (.int .i64 b.2.2))], s := ⟨[(0, .arr b.1.length)], 1⟩ })
    (fun b => SrOk s b.1 b.2.1 b.2.2) (fun b => s.length + 1 - b.2.2) 0 ([], 0, 0) rfl ⟨by simp, by simp, by simp, fun _ => by simp only [List.take_zero, List.drop_nil, List.drop_zero, List.nil_append]; rw [glue_nil (splS_ne s)], fun h => by simp only at h; omega⟩ rfl rfl rfl ?_
  rintro ⟨out, fr, i⟩ hinv ih
  have h1 := hinv.le
  have h2 := hinv.fl
  have h3 := hinv.go
  have h4 := hinv.en
  have h5 := hinv.ol
  simp only at h1 h2 h3 h4 h5
  dsimp only at ih ⊢
  by_cases hi : i ≤ s.length
  · by_cases he : i = s.length
    · subst he
      have hg := h3 hi
      rw [List.drop_length, splS, glue, List.append_nil] at hg
      refine fR rfl ?_
      refine Run.condT rfl rfl (by simp) ?_
      refine fR rfl ?_
      simp only [beq_self_eq_true]
      have h0 : s[((s.length : Nat) : Int).toNat]? = none := by simp
      refine Mid.grdF rfl rfl (by change (match s[((s.length : Nat) : Int).toNat]? with | some b => some _ | none => none) = none; rw [h0]) rfl rfl ?_
      refine Mid.grdF rfl rfl rfl rfl rfl ?_
      refine fM rfl ?_
      refine Run.condT rfl rfl rfl ?_
      refine fR rfl ?_
      refine sSub rfl rfl rfl rfl ?_
      refine fM rfl ?_
      refine apM sE out [(s.take s.length).drop fr] rfl rfl rfl rfl rfl ?_ (h1 := by first | omega | (simp; omega) | (simp; done)) (h2 := by first | omega | (simp; omega) | (simp; done))
      refine fM rfl ?_
      refine aL rfl rfl rfl rfl rfl ?_
      refine fM rfl ?_
      refine aL rfl rfl rfl rfl rfl ?_
      refine fM rfl ?_
      exact rWeak 1 rfl (ih (out ++ [(s.take s.length).drop fr], s.length + 1, s.length + 1) (by simp only; omega) ⟨by simp only; omega, by simp only; omega, by simp; omega, fun h => by simp only at h; omega, fun _ => hg⟩) rfl rfl rfl
    · have hi2 : i < s.length := by omega
      refine fR rfl ?_
      refine Run.condT rfl rfl (by simp; omega) ?_
      refine fR rfl ?_
      obtain ⟨c, hc⟩ : ∃ c, s[i]? = some c := ⟨s[i], List.getElem?_eq_getElem hi2⟩
      have hdr : s.drop i = c :: s.drop (i + 1) := by
        rw [List.drop_eq_getElem_cons hi2]
        rw [List.getElem?_eq_getElem hi2] at hc
        rw [Option.some.inj hc]
      have hg := h3 hi
      rw [hdr, splS] at hg
      have hb : ((i : Int) == (s.length : Int)) = false := by simp; omega
      refine byG rfl rfl rfl hc rfl ?_
      refine fM rfl ?_
      rw [hb]
      refine Run.cond rfl rfl (fun hcc => ?_) (fun hcc => ?_)
      · have hc' : c = 32 := by
          have : (c.toNat : Int) = 32 := by simpa using hcc
          exact UInt8.toNat_inj.1 (by have : c.toNat = 32 := by omega
                                      exact this)
        subst hc'
        rw [if_pos rfl, glue, List.append_nil] at hg
        refine fR rfl ?_
        refine sSub rfl rfl rfl rfl ?_
        refine fM rfl ?_
        refine apM sE out [(s.take i).drop fr] rfl rfl rfl rfl rfl ?_ (h1 := by first | omega | (simp; omega) | (simp; done)) (h2 := by first | omega | (simp; omega) | (simp; done))
        refine fM rfl ?_
        refine aL rfl rfl rfl rfl rfl ?_
        refine fM rfl ?_
        refine aL rfl rfl rfl rfl rfl ?_
        refine fM rfl ?_
        exact rWeak 1 rfl (ih (out ++ [(s.take i).drop fr], i + 1, i + 1) (by simp only; omega) ⟨by simp only; omega, by simp only; omega, by simp; omega, fun _ => by
          simp only
          rw [show (s.take (i + 1)).drop (i + 1) = [] from List.drop_of_length_le (by rw [List.length_take]; omega), glue_nil (splS_ne _), List.append_assoc]; exact hg, fun h => by simp only at h; omega⟩) rfl rfl rfl
      · have hc' : ¬ c = 32 := by
          intro e; subst e; simp at hcc
        rw [if_neg hc'] at hg
        refine fR rfl ?_
        refine aL rfl rfl rfl rfl rfl ?_
        refine fM rfl ?_
        exact rWeak 1 rfl (ih (out, fr, i + 1) (by simp only; omega) ⟨by simp only; omega, by simp only; omega, by simp only; omega, fun _ => by
          simp only
          rw [hg]
          have ht : (s.take (i + 1)).drop fr = (s.take i).drop fr ++ [c] := by
            rw [List.take_add_one, hc, Option.toList_some, List.drop_append_of_le_length (by rw [List.length_take]; omega)]
          rw [ht]
          have hne := splS_ne (s.drop (i + 1))
          cases hss : splS (s.drop (i + 1)) with
          | nil => exact absurd hss hne
          | cons h t => simp [glue], fun h => by simp only at h; omega⟩) rfl rfl rfl
  · have hi' : i = s.length + 1 := by omega
    rw [h4 hi']
    refine fR rfl ?_
    refine Run.condF rfl rfl (by simp; omega) ?_
    refine fR rfl ?_
    refine Run.fin rfl (EndOk.go ?_); exact .own rfl
end Go.GB.C23


/-
  F23G: chapter 23's functions: the reference's sets, values that fit, arguments.
-/
namespace Go.GB.C23
open Go.GB Go.GB.C11
set_option linter.unusedSimpArgs false
set_option linter.unusedVariables false
set_option maxRecDepth 100000
set_option maxHeartbeats 4000000
variable {P : Program}

theorem rSet_ok (H : Pr23 P) (s : Str) (hs : s.length ≤ 1099511627776) : FnOk P 85 [.t (.str s)] ⟨[], 0⟩ { v := .tup [.t (.lst ((setF s).1.map sE)), .t (.int .i64 (setF s).2)] } := by
  have hsp := rSplit_ok H s hs
  have hll := splS_len s
  have hcl : s.count 32 ≤ s.length := List.count_le_length
  have hel : ∀ x, x ∈ splS s → x.length ≤ 140737488355328 := fun x hx => Nat.le_trans (splS_mem hx) (by omega)
  have hR : ∀ R, setF s = R → FnOk P 85 [.t (.str s)] ⟨[], 0⟩ { v := .tup [.t (.lst (R.1.map sE)), .t (.int .i64 R.2)] } := by
    intro R hR
    unfold setF at hR
    generalize splS s = l at hsp hll hel hR
    refine FnOk.run H.i85 H.mixed rfl rfl ?_
    refine fR rfl ?_
    refine Mid.call (hsp) rfl rfl rfl rfl ?_
    refine fM rfl ?_
    refine rList l (fun i (_ : Unit) => { env := [(4, .t (.lst (l.map sE))), (5, .t (.int .i64 i))], s := ⟨[], 0⟩ }) (fun r i _ => (l.any fun x => !nameF x || resF x) = r.any fun x => !nameF x || resF x) 0 () rfl rfl rfl rfl rfl ?_ ?_
    · intro _ hinv
      have hb : (l.any fun x => !nameF x || resF x) = false := by rw [hinv]; rfl
      unfold setL at hR
      rw [if_neg (by rw [hb]; simp)] at hR
      refine fR rfl ?_
      refine lM rfl rfl rfl ?_
      refine fM rfl ?_
      refine Run.condF rfl rfl (by simp) ?_
      refine fR rfl ?_
      refine lM rfl rfl rfl ?_
      refine fM rfl ?_
      refine Run.cond rfl rfl (fun h4 => ?_) (fun h4 => ?_)
      · have h4' : l.length > 4 := by simp at h4; omega
        rw [if_pos h4'] at hR
        subst hR
        refine fR rfl ?_
        refine Run.fin rfl (EndOk.go ?_); exact .tup2 (.nil rfl) (.t rfl)
      · have h4' : ¬ l.length > 4 := by simp at h4; omega
        rw [if_neg h4'] at hR
        refine fR rfl ?_
        refine rList l (fun i (_ : Unit) => { env := [(4, .t (.lst (l.map sE))), (6, .t (.int .i64 i))], s := ⟨[], 0⟩ }) (fun r i _ => dupS [] l = dupS (l.take i) r) 0 () rfl rfl rfl rfl rfl ?_ ?_
        · intro _ hd
          rw [if_neg (by rw [hd]; simp [dupS])] at hR
          subst hR
          refine fR rfl ?_
          refine lM rfl rfl rfl ?_
          refine fM rfl ?_
          refine Run.condF rfl rfl (by simp) ?_
          refine fR rfl ?_
          refine Run.fin rfl (EndOk.go ?_); exact .tup2 (.t rfl) (.t rfl)
        · intro i x r _ h1 hi hdr hd ih
          have htk : l.take i ++ [x] = l.take (i + 1) := by rw [List.take_add_one, h1]; rfl
          refine fR rfl ?_
          refine lM rfl rfl rfl ?_
          refine fM rfl ?_
          refine Run.condT rfl rfl (by simp; omega) ?_
          refine fR rfl ?_
          refine rList (l.take i) (fun k (_ : Unit) => { env := [(4, .t (.lst (l.map sE))), (6, .t (.int .i64 i)), (7, .t (.int .i64 k))], s := ⟨[], 0⟩ }) (fun r' k _ => decide (x ∈ l.take i) = decide (x ∈ r')) 0 () rfl rfl rfl rfl rfl ?_ ?_
          · intro _ hm
            have hm' : ¬ x ∈ l.take i := by simpa using hm
            refine fR rfl ?_
            refine Run.condF rfl rfl (by simp; omega) ?_
            refine fR rfl ?_
            refine aL rfl rfl rfl rfl rfl ?_
            refine fM rfl ?_
            exact rWeak 0 rfl (ih () (by rw [hd, dupS, ← htk]; simp [hm'])) rfl rfl rfl
          · intro k y r' _ g1 gi gd hm ih2
            have gi' : k < i := by rw [List.length_take] at gi; omega
            have g2 : l[k]? = some y := by rw [List.getElem?_take, if_pos gi'] at g1; exact g1
            refine fR rfl ?_
            refine Run.condT rfl rfl (by simp; omega) ?_
            refine fR rfl ?_
            refine Mid.elemMap rfl rfl rfl h1 rfl rfl ?_
            refine fM rfl ?_
            refine Mid.elemMap rfl rfl rfl g2 rfl rfl ?_
            refine fM rfl ?_
            refine Run.cond rfl rfl (fun he => ?_) (fun he => ?_)
            · have he' : x = y := by simpa using he
              have hmem : x ∈ l.take i := by
                have := hm.trans (decide_eq_true (by rw [he']; exact List.mem_cons_self ..))
                exact of_decide_eq_true this
              rw [if_pos (by rw [hd, dupS, decide_eq_true hmem]; rfl)] at hR
              subst hR
              refine fR rfl ?_
              refine Run.fin rfl (EndOk.go ?_); exact .tup2 (.nil rfl) (.t rfl)
            · have he' : ¬ x = y := by simpa using he
              refine fR rfl ?_
              refine aL rfl rfl rfl rfl rfl ?_
              refine fM rfl ?_
              exact rWeak 0 rfl (ih2 () (by rw [hm]; simp [he'])) rfl rfl rfl
    · intro i x r _ h1 hi hdr hinv ih
      have hx := hel x (List.mem_of_getElem? h1)
      refine fR rfl ?_
      refine lM rfl rfl rfl ?_
      refine fM rfl ?_
      refine Run.condT rfl rfl (by simp; omega) ?_
      refine fR rfl ?_
      refine Mid.elemMap rfl rfl rfl h1 rfl rfl ?_
      refine fM rfl ?_
      refine Mid.call (name_ok H.toPr x hx) rfl rfl rfl rfl ?_
      refine fM rfl ?_
      refine elG rfl rfl rfl rfl h1 rfl rfl ?_
      refine fM rfl ?_
      refine caG rfl rfl (fun hg => ⟨_, rfl, reserved_ok H.toPr x hx, rfl⟩) rfl rfl ?_
      refine fM rfl ?_
      refine Run.cond rfl rfl (fun hb => ?_) (fun hb => ?_)
      · unfold setL at hR
        rw [if_pos (by rw [hinv, List.any_cons, show (!nameF x || resF x) = true from hb]; rfl)] at hR
        subst hR
        refine fR rfl ?_
        refine Run.fin rfl (EndOk.go ?_); exact .tup2 (.nil rfl) (.t rfl)
      · refine fR rfl ?_
        refine aL rfl rfl rfl rfl rfl ?_
        refine fM rfl ?_
        exact rWeak 0 rfl (ih () (by rw [hinv, List.any_cons, show (!nameF x || resF x) = false from hb]; rfl)) rfl rfl rfl
  exact hR _ rfl
theorem rFits_ok (H : Pr23 P) (v : Val) (hv : v.Ok) (ht : v.text.length ≤ 1048576) (t : Str) : FnOk P 91 [v.v, .t (.str t)] ⟨[], 0⟩ { v := .t (.bool (fitsS v t)) } := by
  have hil := hv.il
  refine FnOk.run H.i91 H.mixed rfl rfl ?_
  refine fR rfl ?_
  refine Run.cond rfl rfl (fun h1 => ?_) (fun h1 => ?_)
  · have h1' : t = ([115, 101, 116] : Str) := by simpa only [beq_iff_eq] using h1
    refine fR rfl ?_
    refine Mid.call (rSet_ok H v.text (by omega)) rfl rfl rfl rfl ?_
    refine fM rfl ?_
    refine Run.fin rfl (EndOk.go ?_); exact .t (by unfold fitsS; rw [if_pos h1'])
  · have h1' : ¬ t = ([115, 101, 116] : Str) := by simpa only [beq_eq_false_iff_ne, ne_eq] using h1
    refine fR rfl ?_
    refine Run.cond rfl rfl (fun h2 => ?_) (fun h2 => ?_)
    · have h2' : t = ([116, 101, 120, 116] : Str) := by simpa only [beq_iff_eq] using h2
      refine fR rfl ?_
      refine Run.fin rfl (EndOk.go ?_); exact .t (by unfold fitsS; rw [if_neg h1', if_pos h2'])
    · have h2' : ¬ t = ([116, 101, 120, 116] : Str) := by simpa only [beq_eq_false_iff_ne, ne_eq] using h2
      refine fR rfl ?_
      refine Run.cond rfl rfl (fun h3 => ?_) (fun h3 => ?_)
      · have h3' : t = ([116, 114, 117, 116, 104] : Str) := by simpa only [beq_iff_eq] using h3
        refine fR rfl ?_
        refine Run.fin rfl (EndOk.go ?_); exact .t (by unfold fitsS; rw [if_neg h1', if_neg h2', if_pos h3'])
      · have h3' : ¬ t = ([116, 114, 117, 116, 104] : Str) := by simpa only [beq_eq_false_iff_ne, ne_eq] using h3
        refine fR rfl ?_
        refine Run.cond rfl rfl (fun h4 => ?_) (fun h4 => ?_)
        · have h4' : t = ([110, 117, 109, 98, 101, 114] : Str) := by simpa only [beq_iff_eq] using h4
          refine fR rfl ?_
          refine Run.fin rfl (EndOk.go ?_); exact .t (by unfold fitsS; rw [if_neg h1', if_neg h2', if_neg h3', if_pos h4'])
        · have h4' : ¬ t = ([110, 117, 109, 98, 101, 114] : Str) := by simpa only [beq_eq_false_iff_ne, ne_eq] using h4
          have e : fitsS v t = ((v.items.all fun x => x.kind == 3) && v.kind == 5) := by unfold fitsS; rw [if_neg h1', if_neg h2', if_neg h3', if_neg h4']
          refine fR rfl ?_
          refine rList v.items (fun i (_ : Unit) => { env := [(2, .ptr 0 0), (7, .t (.int .i64 i))], s := ⟨[(0, .cells [.t (.int .i64 v.kind), .t (.int .i64 v.int), .t (.str v.text), .t (.lst (v.items.map Val.enc)), .t (.lst (v.keys.map sE))])], 1⟩ }) (fun r i _ => (v.items.all fun x => x.kind == 3) = r.all fun x => x.kind == 3) 1 () rfl rfl rfl rfl rfl ?_ ?_
          · intro _ hinv
            refine fR rfl ?_
            refine lM rfl rfl rfl ?_
            refine fM rfl ?_
            refine Run.condF rfl rfl (by simp) ?_
            refine fR rfl ?_
            refine Run.fin rfl (EndOk.go ?_); exact .t (by rw [e, hinv]; rfl)
          · intro i x r _ g1 hi hdr hinv ih
            refine fR rfl ?_
            refine lM rfl rfl rfl ?_
            refine fM rfl ?_
            refine Run.condT rfl rfl (by simp; omega) ?_
            refine fR rfl ?_
            refine Mid.elemMapC ((Val.enc_eq x)) rfl rfl rfl g1 rfl rfl ?_
            refine fM rfl ?_
            refine Run.cond rfl rfl (fun hc => ?_) (fun hc => ?_)
            · have hc' : (x.kind == 3) = false := by simpa using hc
              refine fR rfl ?_
              refine Run.fin rfl (EndOk.go ?_); exact .t (by rw [e, hinv, List.all_cons, hc']; rfl)
            · have hc' : (x.kind == 3) = true := by simpa using hc
              refine fR rfl ?_
              refine aL rfl rfl rfl rfl rfl ?_
              refine fM rfl ?_
              exact rWeak 1 rfl (ih () (by rw [hinv, List.all_cons, hc']; rfl)) rfl rfl rfl
/-- directives whose texts are not long -/
structure DOk (d : Dir) : Prop where
  l : d.args.length ≤ 140737488355328
  nm : d.name.length ≤ 140737488355328
  an : ∀ a, a ∈ d.args → a.name.length ≤ 140737488355328 ∧ a.val.Ok ∧ a.val.text.length ≤ 1048576
theorem args_ok (H : Pr23 P) (d : Dir) (hd : DOk d) : FnOk P 62 [dV d] ⟨[], 0⟩ { v := .t (.int .i64 (argsR d.name d.args)) } := by
  have hl := hd.l
  have hnm := hd.nm
  have tail : badR d.name [] d.args = false → (needF d.name != [] && !(argF (needF d.name) d.args).isSome) = false → Run P n62 0 (EndOk ⟨[], 0⟩ { v := .t (.int .i64 (argsR d.name d.args)) } r62 .ret) (advK 200 [It.c c62_11]) { env := [(1, .ptr 0 0)], s := ⟨[(0, .cells [.t (.str d.name), .t (.lst (d.args.map Arg.enc))])], 1⟩ } := by
    intro hb1 hb2
    have e : argsR d.name d.args = if unfitR d.name d.args = true then 23 else 0 := by unfold argsR; rw [if_neg (by rw [hb1]; simp), if_neg (by rw [hb2]; simp)]
    rw [e]
    refine fR rfl ?_
    refine rList d.args (fun i (_ : Unit) => { env := [(1, .ptr 0 0), (9, .t (.int .i64 i))], s := ⟨[(0, .cells [.t (.str d.name), .t (.lst (d.args.map Arg.enc))])], 1⟩ }) (fun r i _ => unfitR d.name d.args = unfitR d.name r) 1 () rfl rfl rfl rfl rfl ?_ ?_
    · intro _ hinv
      refine fR rfl ?_
      refine lM rfl rfl rfl ?_
      refine fM rfl ?_
      refine Run.condF rfl rfl (by simp) ?_
      refine fR rfl ?_
      rw [if_neg (by rw [hinv]; simp [unfitR])]
      refine Run.fin rfl (EndOk.go ?_); exact .t rfl
    · intro i x r _ g1 hi hdr hinv ih
      have hx := hd.an x (List.mem_of_getElem? g1)
      obtain ⟨b, hk⟩ := kind_ok H d.name x.name hnm hx.1
      refine fR rfl ?_
      refine lM rfl rfl rfl ?_
      refine fM rfl ?_
      refine Run.condT rfl rfl (by simp; omega) ?_
      refine fR rfl ?_
      refine Mid.elemMap rfl rfl rfl g1 rfl rfl ?_
      refine fM rfl ?_
      refine Mid.call (hk) rfl rfl rfl rfl ?_
      refine fM rfl ?_
      refine Mid.elemMap rfl rfl rfl g1 rfl rfl ?_
      refine fM rfl ?_
      refine Mid.call (rFits_ok H x.val hx.2.1 hx.2.2 (kstr d.name x.name)) rfl rfl rfl rfl ?_
      refine fM rfl ?_
      refine Run.cond rfl rfl (fun hc => ?_) (fun hc => ?_)
      · refine fR rfl ?_
        rw [if_pos (by rw [hinv]; unfold unfitR; rw [List.any_cons, hc]; rfl)]
        refine Run.fin rfl (EndOk.go ?_); exact .t rfl
      · refine fR rfl ?_
        refine aL rfl rfl rfl rfl rfl ?_
        refine fM rfl ?_
        exact rWeak 1 rfl (ih () (by rw [hinv]; unfold unfitR; rw [List.any_cons, hc]; rfl)) rfl rfl rfl
  refine FnOk.run H.i62 H.mixed rfl rfl ?_
  refine fR rfl ?_
  refine rList d.args (fun i (_ : Unit) => { env := [(1, .ptr 0 0), (3, .t (.int .i64 i))], s := ⟨[(0, .cells [.t (.str d.name), .t (.lst (d.args.map Arg.enc))])], 1⟩ }) (fun r i _ => badR d.name [] d.args = badR d.name (d.args.take i) r) 1 () rfl rfl rfl rfl rfl ?_ ?_
  · intro _ hinv
    have hb1 : badR d.name [] d.args = false := by rw [hinv]; rfl
    refine fR rfl ?_
    refine lM rfl rfl rfl ?_
    refine fM rfl ?_
    refine Run.condF rfl rfl (by simp) ?_
    refine fR rfl ?_
    refine Mid.call (needed_ok H d.name) rfl rfl rfl rfl ?_
    refine fM rfl ?_
    refine Run.cond rfl rfl (fun hn => ?_) (fun hn => ?_)
    · have hn' : (needF d.name != []) = true := hn
      refine fR rfl ?_
      refine Mid.call (needed_ok H d.name) rfl rfl rfl rfl ?_
      skip
      refine Mid.call (argV_ok H 84 d hl (needF d.name) (.inr rfl)) rfl rfl rfl rfl ?_
      refine fM rfl ?_
      refine Run.cond rfl rfl (fun hm => ?_) (fun hm => ?_)
      · have e : argsR d.name d.args = 22 := by unfold argsR; rw [if_neg (by rw [hb1]; simp), if_pos (by rw [hn', show (!(argF (needF d.name) d.args).isSome) = true from hm]; rfl)]
        rw [e]
        refine fR rfl ?_
        refine Run.fin rfl (EndOk.go ?_); exact .t rfl
      · exact rWeakC 1 rfl (tail hb1 (by rw [hn', show (!(argF (needF d.name) d.args).isSome) = false from hm]; rfl)) rfl rfl rfl
    · have hn' : (needF d.name != []) = false := hn
      exact rWeakC 1 rfl (tail hb1 (by rw [hn']; rfl)) rfl rfl rfl
  · intro i x r _ g1 hi hdr hinv ih
    have hx := hd.an x (List.mem_of_getElem? g1)
    have htk : d.args.take i ++ [x] = d.args.take (i + 1) := by rw [List.take_add_one, g1]; rfl
    obtain ⟨b, hk⟩ := kind_ok H d.name x.name hnm hx.1
    refine fR rfl ?_
    refine lM rfl rfl rfl ?_
    refine fM rfl ?_
    refine Run.condT rfl rfl (by simp; omega) ?_
    refine fR rfl ?_
    refine Mid.elemMap rfl rfl rfl g1 rfl rfl ?_
    refine fM rfl ?_
    refine Mid.call (hk) rfl rfl rfl rfl ?_
    refine fM rfl ?_
    refine Run.cond rfl rfl (fun hc => ?_) (fun hc => ?_)
    · have e : argsR d.name d.args = 22 := by
        unfold argsR
        rw [if_pos (by rw [hinv, badR, show (kstr d.name x.name == []) = true from hc]; rfl)]
      rw [e]
      refine fR rfl ?_
      refine Run.fin rfl (EndOk.go ?_); exact .t rfl
    · have hc' : (kstr d.name x.name == []) = false := hc
      refine fR rfl ?_
      refine rList (d.args.take i) (fun k (_ : Unit) => { env := [(1, .ptr 0 0), (3, .t (.int .i64 i)), (6, .t (.int .i64 k))], s := ⟨[(0, .cells [.t (.str d.name), .t (.lst (d.args.map Arg.enc))])], 1⟩ }) (fun r' k _ => ((d.args.take i).any fun y => y.name == x.name) = r'.any fun y => y.name == x.name) 1 () rfl rfl rfl rfl rfl ?_ ?_
      · intro _ hm
        refine fR rfl ?_
        refine Run.condF rfl rfl (by simp; omega) ?_
        refine fR rfl ?_
        refine aL rfl rfl rfl rfl rfl ?_
        refine fM rfl ?_
        exact rWeak 1 rfl (ih () (by rw [hinv, badR, hc', hm, ← htk]; rfl)) rfl rfl rfl
      · intro k y r' _ g2 gi gd hm ih2
        have gi' : k < i := by rw [List.length_take] at gi; omega
        have g3 : d.args[k]? = some y := by rw [List.getElem?_take, if_pos gi'] at g2; exact g2
        refine fR rfl ?_
        refine Run.condT rfl rfl (by simp; omega) ?_
        refine fR rfl ?_
        refine Mid.elemMap rfl rfl rfl g3 rfl rfl ?_
        refine fM rfl ?_
        refine Mid.elemMap rfl rfl rfl g1 rfl rfl ?_
        refine fM rfl ?_
        refine Run.cond rfl rfl (fun he => ?_) (fun he => ?_)
        · have e : argsR d.name d.args = 22 := by
            unfold argsR
            rw [if_pos (by rw [hinv, badR, hc', hm, List.any_cons, show (y.name == x.name) = true from he]; rfl)]
          rw [e]
          refine fR rfl ?_
          refine Run.fin rfl (EndOk.go ?_); exact .t rfl
        · refine fR rfl ?_
          refine aL rfl rfl rfl rfl rfl ?_
          refine fM rfl ?_
          exact rWeak 1 rfl (ih2 () (by rw [hm, List.any_cons, show (y.name == x.name) = false from he]; rfl)) rfl rfl rfl
end Go.GB.C23


/-
  F23H: chapter 23's functions: judging uses of directives.
-/
namespace Go.GB.C23
open Go.GB Go.GB.C11
set_option linter.unusedSimpArgs false
set_option linter.unusedVariables false
set_option maxRecDepth 100000
set_option maxHeartbeats 4000000
variable {P : Program}

/-- lists of uses whose texts are not long -/
structure DsOk (l : List Dir) : Prop where
  len : l.length ≤ 2199023255552
  all : ∀ d, d ∈ l → DOk d
end Go.GB.C23


/-
  F23I: chapter 23's functions: violations of documents, both ways.
-/
namespace Go.GB.C23
open Go.GB Go.GB.C11
set_option linter.unusedSimpArgs false
set_option linter.unusedVariables false
set_option maxRecDepth 100000
set_option maxHeartbeats 4000000
variable {P : Program}
theorem codeR29 {pre : List Dir} {x : Dir} {q : Int} (h : mayF x.name q = false) : codeR pre x q = 29 := by unfold codeR; rw [if_pos h]
theorem codeR7 {pre : List Dir} {x : Dir} {q : Int} (h : mayF x.name q = true) (h2 : ((hasD x.name pre && x.name != ([107, 101, 121] : Str)) && x.name != ([116, 97, 103] : Str)) = true) : codeR pre x q = 7 := by unfold codeR; rw [if_neg (by rw [h]; simp), if_pos h2]
theorem codeRA {pre : List Dir} {x : Dir} {q : Int} (h : mayF x.name q = true) (h2 : ((hasD x.name pre && x.name != ([107, 101, 121] : Str)) && x.name != ([116, 97, 103] : Str)) = false) : codeR pre x q = argsR x.name x.args := by unfold codeR; rw [if_neg (by rw [h]; simp), if_neg (by rw [h2]; simp)]

theorem rUses_ok (H : Pr23 P) (l : List Dir) (hd : DsOk l) (k : Nat) (p q : Int) (hk : plR k = (p, q)) (at_ : Str) : FnOk P 34 [.t (.lst (l.map Dir.enc)), .t (.int .i64 q), .t (.str at_)] ⟨[], 0⟩ { v := .t (.lst ((usesF p at_ [] l).map Fault.enc)) } := by
  have hll := hd.len
  have hR : ∀ R, usesF p at_ [] l = R → FnOk P 34 [.t (.lst (l.map Dir.enc)), .t (.int .i64 q), .t (.str at_)] ⟨[], 0⟩ { v := .t (.lst (R.map Fault.enc)) } := by
    intro R hR
    refine FnOk.run H.i34 H.mixed rfl rfl ?_
    refine fR rfl ?_
    refine rList l (fun i (B : List Fault) => { env := [(0, .t (.lst (l.map Dir.enc))), (1, .t (.int .i64 q)), (2, .t (.str at_)), (7, .own 0 2 (B.map Fault.enc)), (8, .t (.int .i64 i))], s := ⟨[(0, .arr B.length)], 1⟩ }) (fun r i B => B.length ≤ i ∧ B ++ usesF p at_ (l.take i) r = R) 0 [] rfl ⟨by simp, hR⟩ rfl rfl rfl ?_ ?_
    · rintro B ⟨_, hB⟩
      have hB' : B = R := by rw [← hB]; simp [usesF]
      subst hB'
      refine fR rfl ?_
      refine lM rfl rfl rfl ?_
      refine fM rfl ?_
      refine Run.condF rfl rfl (by simp) ?_
      refine fR rfl ?_
      refine Run.fin rfl (EndOk.go ?_); exact .own rfl
    · rintro i x r B h1 hi hdr ⟨hBl, hB⟩ ih
      have hBl' : B.length ≤ i := hBl
      have hx := hd.all x (List.mem_of_getElem? h1)
      have htk : l.take i ++ [x] = l.take (i + 1) := by rw [List.take_add_one, h1]; rfl
      have hco : codeR (l.take i) x q = judgeF (l.take i) x p := by have := code_eq (l.take i) x k; rw [hk] at this; exact this
      rw [usesF, htk, ← hco] at hB
      refine fR rfl ?_
      refine lM rfl rfl rfl ?_
      refine fM rfl ?_
      refine Run.condT rfl rfl (by simp; omega) ?_
      refine fR rfl ?_
      refine Mid.elemMap rfl rfl rfl h1 rfl rfl ?_
      refine fM rfl ?_
      refine Mid.call (args_ok H x hx) rfl rfl rfl rfl ?_
      refine fM rfl ?_
      refine lTo rfl rfl rfl rfl ?_
      refine fM rfl ?_
      refine Mid.call (hasD_ok H 25 (l.take i) (by rw [List.length_take]; omega) x.name (.inr rfl)) rfl rfl rfl rfl ?_
      refine fM rfl ?_
      refine Run.cond rfl rfl (fun hc => ?_) (fun hc => ?_)
      · have hc' : ((hasD x.name (l.take i) && x.name != ([107, 101, 121] : Str)) && x.name != ([116, 97, 103] : Str)) = true := hc
        refine fR rfl ?_
        refine Mid.call (may_ok H x.name q) rfl rfl rfl rfl ?_
        refine fM rfl ?_
        refine Run.cond rfl rfl (fun hm => ?_) (fun hm => ?_)
        · have hm' : mayF x.name q = false := by simpa using hm
          rw [codeR29 hm', if_neg (by decide)] at hB
          refine fR rfl ?_
          refine Run.condT rfl rfl rfl ?_
          refine fR rfl ?_
          refine apM Fault.enc B [(⟨29, at_⟩ : Fault)] rfl rfl rfl rfl rfl ?_ (h1 := by first | omega | (simp; omega) | (simp; done)) (h2 := by first | omega | (simp; omega) | (simp; done))
          refine fM rfl ?_
          refine aL rfl rfl rfl rfl rfl ?_
          refine fM rfl ?_
          exact rWeak 1 rfl (ih (B ++ [⟨29, at_⟩]) ⟨by simp; omega, by rw [List.append_assoc]; exact hB⟩) rfl rfl rfl
        · have hm' : mayF x.name q = true := by simpa using hm
          rw [codeR7 hm' hc', if_neg (by decide)] at hB
          refine fR rfl ?_
          refine Run.condT rfl rfl rfl ?_
          refine fR rfl ?_
          refine apM Fault.enc B [(⟨7, at_⟩ : Fault)] rfl rfl rfl rfl rfl ?_ (h1 := by first | omega | (simp; omega) | (simp; done)) (h2 := by first | omega | (simp; omega) | (simp; done))
          refine fM rfl ?_
          refine aL rfl rfl rfl rfl rfl ?_
          refine fM rfl ?_
          exact rWeak 1 rfl (ih (B ++ [⟨7, at_⟩]) ⟨by simp; omega, by rw [List.append_assoc]; exact hB⟩) rfl rfl rfl
      · have hc' : ((hasD x.name (l.take i) && x.name != ([107, 101, 121] : Str)) && x.name != ([116, 97, 103] : Str)) = false := hc
        refine fR rfl ?_
        refine Mid.call (may_ok H x.name q) rfl rfl rfl rfl ?_
        refine fM rfl ?_
        refine Run.cond rfl rfl (fun hm => ?_) (fun hm => ?_)
        · have hm' : mayF x.name q = false := by simpa using hm
          rw [codeR29 hm', if_neg (by decide)] at hB
          refine fR rfl ?_
          refine Run.condT rfl rfl rfl ?_
          refine fR rfl ?_
          refine apM Fault.enc B [(⟨29, at_⟩ : Fault)] rfl rfl rfl rfl rfl ?_ (h1 := by first | omega | (simp; omega) | (simp; done)) (h2 := by first | omega | (simp; omega) | (simp; done))
          refine fM rfl ?_
          refine aL rfl rfl rfl rfl rfl ?_
          refine fM rfl ?_
          exact rWeak 1 rfl (ih (B ++ [⟨29, at_⟩]) ⟨by simp; omega, by rw [List.append_assoc]; exact hB⟩) rfl rfl rfl
        · have hm' : mayF x.name q = true := by simpa using hm
          rw [codeRA hm' hc'] at hB
          refine fR rfl ?_
          refine Run.cond rfl rfl (fun h0 => ?_) (fun h0 => ?_)
          · have h0' : ¬ argsR x.name x.args = 0 := by simpa using h0
            rw [if_neg h0'] at hB
            refine fR rfl ?_
            refine apM Fault.enc B [(⟨argsR x.name x.args, at_⟩ : Fault)] rfl rfl rfl rfl rfl ?_ (h1 := by first | omega | (simp; omega) | (simp; done)) (h2 := by first | omega | (simp; omega) | (simp; done))
            refine fM rfl ?_
            refine aL rfl rfl rfl rfl rfl ?_
            refine fM rfl ?_
            exact rWeak 1 rfl (ih (B ++ [⟨argsR x.name x.args, at_⟩]) ⟨by simp; omega, by rw [List.append_assoc]; exact hB⟩) rfl rfl rfl
          · have h0' : argsR x.name x.args = 0 := by simpa using h0
            rw [if_pos h0', List.nil_append] at hB
            refine fR rfl ?_
            refine aL rfl rfl rfl rfl rfl ?_
            refine fM rfl ?_
            exact rWeak 1 rfl (ih B ⟨by omega, hB⟩) rfl rfl rfl
  exact hR _ rfl
/-- documents whose texts are not long -/
structure InpD (a : Input) : Prop where
  nm : a.name.length ≤ 140737488355328
  d : DsOk a.dirs
structure FldD (f : Field) : Prop where
  nm : f.name.length ≤ 140737488355328
  d : DsOk f.dirs
  al : f.args.length ≤ 140737488355328
  a : ∀ x, x ∈ f.args → InpD x
structure MemD (m : Member) : Prop where
  nm : m.name.length ≤ 140737488355328
  d : DsOk m.dirs
structure DefD (t : Def) : Prop where
  nm : t.name.length ≤ 140737488355328
  d : DsOk t.dirs
  fl : t.fields.length ≤ 549755813888
  f : ∀ x, x ∈ t.fields → FldD x
  ml : t.members.length ≤ 549755813888
  m : ∀ x, x ∈ t.members → MemD x
  il : t.inputs.length ≤ 549755813888
  i : ∀ x, x ∈ t.inputs → InpD x
def plK (k : Int) : Int := if k = 2 then 8 else 4
theorem rFields_ok (H : Pr23 P) (t : Def) (ht : DefD t) (hl : (fldL t.name (plK t.kind) t.fields).length ≤ 4398046511104) : FnOk P 35 [t.v] ⟨[], 0⟩ { v := .t (.lst ((fldL t.name (plK t.kind) t.fields).map Fault.enc)) } := by
  have hfl := ht.fl
  have hnm := ht.nm
  have hR : ∀ R, fldL t.name (plK t.kind) t.fields = R → R.length ≤ 4398046511104 → FnOk P 35 [t.v] ⟨[], 0⟩ { v := .t (.lst (R.map Fault.enc)) } := by
    intro R hR hl
    have go : ∀ (k : Nat) (p q : Int), plR k = (p, q) → fldL t.name p t.fields = R → Run P n35 0 (EndOk ⟨[], 0⟩ { v := .t (.lst (R.map Fault.enc)) } r35 .ret) [It.c c35_16, It.blk 0, It.c c35_0] { env := [(1, .ptr 0 0), (3, .nils), (4, .t (.int .i64 q)), (5, .t (.int .i64 0))], s := ⟨[(0, (.cells [.t (.int .i64 t.kind), .t (.str t.name), .t (.lst (t.implements.map sE)), .t (.lst (t.dirs.map Dir.enc)), .t (.lst (t.fields.map Field.enc)), .t (.lst (t.members.map Member.enc)), .t (.lst (t.inputs.map Input.enc))]))], 1⟩ } := by
      intro k p q hk hR
      refine rList t.fields (fun i (B : List Fault) => { env := [(1, .ptr 0 0), (3, .own 1 2 (B.map Fault.enc)), (4, .t (.int .i64 q)), (5, .t (.int .i64 i))], s := ⟨[(0, (.cells [.t (.int .i64 t.kind), .t (.str t.name), .t (.lst (t.implements.map sE)), .t (.lst (t.dirs.map Dir.enc)), .t (.lst (t.fields.map Field.enc)), .t (.lst (t.members.map Member.enc)), .t (.lst (t.inputs.map Input.enc))])), (1, .arr B.length)], 2⟩ }) (fun r i B => B ++ fldL t.name p r = R) 1 [] rfl hR rfl rfl rfl ?_ ?_
      · rintro B hB
        have hB' : B = R := by rw [← hB]; simp [fldL]
        subst hB'
        refine fR rfl ?_
        refine lM rfl rfl rfl ?_
        refine fM rfl ?_
        refine Run.condF rfl rfl (by simp) ?_
        refine fR rfl ?_
        refine Run.fin rfl (EndOk.go ?_); exact .own rfl
      · rintro i x r B h1 hi hdr hB ih
        have hx := ht.f x (List.mem_of_getElem? h1)
        have hxn := hx.nm
        have hal := hx.al
        have hlen := congrArg List.length hB
        simp only [fldL, List.length_append] at hlen
        refine fR rfl ?_
        refine lM rfl rfl rfl ?_
        refine fM rfl ?_
        refine Run.condT rfl rfl (by simp; omega) ?_
        refine fR rfl ?_
        refine Mid.elemMap rfl rfl rfl h1 rfl rfl ?_
        refine fM rfl ?_
        refine pu rfl ?_
        refine fM rfl ?_
        refine pu rfl ?_
        refine fM rfl ?_
        refine Mid.call (rUses_ok H x.dirs hx.d k p q hk (t.name ++ [46] ++ x.name)) rfl rfl rfl rfl ?_
        skip
        refine apM Fault.enc B (usesF p (t.name ++ [46] ++ x.name) [] x.dirs) rfl rfl rfl rfl rfl ?_ (h1 := by first | omega | (simp; omega) | (simp; done)) (h2 := by first | omega | (simp; omega) | (simp; done))
        refine fM rfl ?_
        refine rList x.args (fun j (C : List Fault) => { env := [(1, .ptr 0 0), (3, .own 1 2 (C.map Fault.enc)), (4, .t (.int .i64 q)), (5, .t (.int .i64 i)), (6, .ptr 2 0), (7, .t (.str (t.name ++ [46] ++ x.name))), (8, .t (.int .i64 j))], s := ⟨[(0, (.cells [.t (.int .i64 t.kind), .t (.str t.name), .t (.lst (t.implements.map sE)), .t (.lst (t.dirs.map Dir.enc)), .t (.lst (t.fields.map Field.enc)), .t (.lst (t.members.map Member.enc)), .t (.lst (t.inputs.map Input.enc))])), (1, .arr C.length), (2, (.cells [.t (.str x.name), .t (.lst (x.args.map Input.enc)), .t (.str x.ty.name), .t (.lst (x.ty.wraps.map nE)), .t (.lst (x.dirs.map Dir.enc))]))], 3⟩ }) (fun r2 j C => C ++ (argL (t.name ++ [46] ++ x.name) r2 ++ fldL t.name p r) = R) 3 (B ++ usesF p (t.name ++ [46] ++ x.name) [] x.dirs) rfl (by rw [← hB]; simp [fldL]) rfl rfl rfl ?_ ?_
        · rintro C hC
          refine fR rfl ?_
          refine lM rfl rfl rfl ?_
          refine fM rfl ?_
          refine Run.condF rfl rfl (by simp) ?_
          refine fR rfl ?_
          refine aL rfl rfl rfl rfl rfl ?_
          refine fM rfl ?_
          exact rWeak 2 rfl (ih C (by rw [← hC]; simp [argL])) rfl rfl rfl
        · rintro j a r2 C h2 hj hjd hC ih2
          have ha := hx.a a (List.mem_of_getElem? h2)
          have han := ha.nm
          have hlen2 := congrArg List.length hC
          simp only [argL, List.length_append] at hlen2
          refine fR rfl ?_
          refine lM rfl rfl rfl ?_
          refine fM rfl ?_
          refine Run.condT rfl rfl (by simp; omega) ?_
          refine fR rfl ?_
          refine Mid.elemMap rfl rfl rfl h2 rfl rfl ?_
          refine fM rfl ?_
          refine pu rfl ?_
          refine fM rfl ?_
          refine Mid.elemMap rfl rfl rfl h2 rfl rfl ?_
          refine fM rfl ?_
          refine pu rfl ?_
          refine pu rfl ?_
          refine Mid.call (rUses_ok H a.dirs ha.d 5 0 6 rfl (t.name ++ [46] ++ x.name ++ [40] ++ a.name ++ [41])) rfl rfl rfl rfl ?_
          skip
          refine apM Fault.enc C (usesF 0 (t.name ++ [46] ++ x.name ++ [40] ++ a.name ++ [41]) [] a.dirs) rfl rfl rfl rfl rfl ?_ (h1 := by first | omega | (simp; omega) | (simp; done)) (h2 := by first | omega | (simp; omega) | (simp; done))
          refine fM rfl ?_
          refine aL rfl rfl rfl rfl rfl ?_
          refine fM rfl ?_
          exact rWeak 3 rfl (ih2 (C ++ usesF 0 (t.name ++ [46] ++ x.name ++ [40] ++ a.name ++ [41]) [] a.dirs) (by rw [← hC]; simp [argL])) rfl rfl rfl
    refine FnOk.run H.i35 H.mixed rfl rfl ?_
    refine fR rfl ?_
    refine Run.cond rfl rfl (fun h2 => ?_) (fun h2 => ?_)
    · have h2' : t.kind = 2 := by simpa using h2
      rw [plK, if_pos h2'] at hR
      refine fR rfl ?_
      exact rWeakC 1 rfl (go 3 8 4 rfl hR) rfl rfl rfl
    · have h2' : ¬ t.kind = 2 := by simpa using h2
      rw [plK, if_neg h2'] at hR
      refine fR rfl ?_
      exact rWeakC 1 rfl (go 2 4 3 rfl hR) rfl rfl rfl
  exact hR _ rfl hl
theorem rMembers_ok (H : Pr23 P) (t : Def) (ht : DefD t) (k : Nat) (p q : Int) (hk : plR k = (p, q)) (hl : (memL t.name p t.members).length ≤ 4398046511104) : FnOk P 36 [t.v, .t (.int .i64 q)] ⟨[], 0⟩ { v := .t (.lst ((memL t.name p t.members).map Fault.enc)) } := by
  have hml := ht.ml
  have hnm := ht.nm
  have hR : ∀ R, memL t.name p t.members = R → R.length ≤ 4398046511104 → FnOk P 36 [t.v, .t (.int .i64 q)] ⟨[], 0⟩ { v := .t (.lst (R.map Fault.enc)) } := by
    intro R hR hl
    refine FnOk.run H.i36 H.mixed rfl rfl ?_
    refine fR rfl ?_
    refine rList t.members (fun i (B : List Fault) => { env := [(1, .t (.int .i64 q)), (2, .ptr 0 0), (5, .own 1 2 (B.map Fault.enc)), (6, .t (.int .i64 i))], s := ⟨[(0, (.cells [.t (.int .i64 t.kind), .t (.str t.name), .t (.lst (t.implements.map sE)), .t (.lst (t.dirs.map Dir.enc)), .t (.lst (t.fields.map Field.enc)), .t (.lst (t.members.map Member.enc)), .t (.lst (t.inputs.map Input.enc))])), (1, .arr B.length)], 2⟩ }) (fun r i B => B ++ memL t.name p r = R) 1 [] rfl hR rfl rfl rfl ?_ ?_
    · rintro B hB
      have hB' : B = R := by rw [← hB]; simp [memL]
      subst hB'
      refine fR rfl ?_
      refine lM rfl rfl rfl ?_
      refine fM rfl ?_
      refine Run.condF rfl rfl (by simp) ?_
      refine fR rfl ?_
      refine Run.fin rfl (EndOk.go ?_); exact .own rfl
    · rintro i x r B h1 hi hdr hB ih
      have hx := ht.m x (List.mem_of_getElem? h1)
      have hxn := hx.nm
      have hlen := congrArg List.length hB
      simp only [memL, List.length_append] at hlen
      refine fR rfl ?_
      refine lM rfl rfl rfl ?_
      refine fM rfl ?_
      refine Run.condT rfl rfl (by simp; omega) ?_
      refine fR rfl ?_
      refine Mid.elemMap rfl rfl rfl h1 rfl rfl ?_
      refine fM rfl ?_
      refine pu rfl ?_
      refine fM rfl ?_
      refine Mid.elemMap rfl rfl rfl h1 rfl rfl ?_
      refine fM rfl ?_
      refine pu rfl ?_
      refine Mid.call (rUses_ok H x.dirs hx.d k p q hk (t.name ++ [46] ++ x.name)) rfl rfl rfl rfl ?_
      skip
      refine apM Fault.enc B (usesF p (t.name ++ [46] ++ x.name) [] x.dirs) rfl rfl rfl rfl rfl ?_ (h1 := by first | omega | (simp; omega) | (simp; done)) (h2 := by first | omega | (simp; omega) | (simp; done))
      refine fM rfl ?_
      refine aL rfl rfl rfl rfl rfl ?_
      refine fM rfl ?_
      exact rWeak 2 rfl (ih (B ++ usesF p (t.name ++ [46] ++ x.name) [] x.dirs) (by rw [← hB]; simp [memL])) rfl rfl rfl
  exact hR _ rfl hl
theorem partL1 {t : Def} (h : t.kind = 1 ∨ t.kind = 2) : partL t = fldL t.name (plK t.kind) t.fields := by
  unfold partL plK
  rcases h with h | h <;> simp [h]
theorem partL3 {t : Def} (h : t.kind = 3) : partL t = memL t.name 0 t.members := by unfold partL; simp [h]
theorem partL4 {t : Def} (h : t.kind = 4) : partL t = memL t.name 16 t.members := by unfold partL; simp [h]
theorem partL5 {t : Def} (h : t.kind = 5) : partL t = inpL t.name t.inputs := by unfold partL; simp [h]
theorem partL0 {t : Def} (h1 : ¬ t.kind = 1) (h2 : ¬ t.kind = 2) (h3 : ¬ t.kind = 3) (h4 : ¬ t.kind = 4) (h5 : ¬ t.kind = 5) : partL t = [] := by unfold partL; simp [h1, h2, h3, h4, h5]
theorem rCheck_ok (H : Pr23 P) (ds : List Def) (hdl : ds.length ≤ 140737488355328) (hD : ∀ t, t ∈ ds → DefD t) (hl : (chkD ds).length ≤ 4398046511104) : FnOk P 14 [docV ds] ⟨[], 0⟩ { v := .t (.lst ((chkD ds).map Fault.enc)) } := by
  have hR : ∀ R, chkD ds = R → R.length ≤ 4398046511104 → FnOk P 14 [docV ds] ⟨[], 0⟩ { v := .t (.lst (R.map Fault.enc)) } := by
    intro R hR hl
    refine FnOk.run H.i14 H.mixed rfl rfl ?_
    refine fR rfl ?_
    refine rList ds (fun i (B : List Fault) => { env := [(1, .ptr 0 0), (3, .own 1 2 (B.map Fault.enc)), (4, .t (.int .i64 i))], s := ⟨[(0, .cells [.t (.lst (ds.map Def.enc))]), (1, .arr B.length)], 2⟩ }) (fun r i B => B ++ chkD r = R) 1 [] rfl hR rfl rfl rfl ?_ ?_
    · rintro B hB
      have hB' : B = R := by rw [← hB]; simp [chkD]
      subst hB'
      refine fR rfl ?_
      refine lM rfl rfl rfl ?_
      refine fM rfl ?_
      refine Run.condF rfl rfl (by simp) ?_
      refine fR rfl ?_
      refine Run.fin rfl (EndOk.go ?_); exact .own rfl
    · rintro i t r B h1 hi hdr hB ih
      have ht := hD t (List.mem_of_getElem? h1)
      have hnm := ht.nm
      have hlen := congrArg List.length hB
      simp only [chkD, defL, List.length_append] at hlen
      have hB2 : (B ++ usesF (ownP t.kind) t.name [] t.dirs) ++ partL t ++ chkD r = R := by rw [← hB]; simp [chkD, defL]
      refine fR rfl ?_
      refine lM rfl rfl rfl ?_
      refine fM rfl ?_
      refine Run.condT rfl rfl (by simp; omega) ?_
      refine fR rfl ?_
      refine Mid.elemMap rfl rfl rfl h1 rfl rfl ?_
      refine fM rfl ?_
      by_cases k1 : t.kind = 1
      · have ho : ownP t.kind = 1 := by unfold ownP; rw [if_pos k1]
        rw [ho] at hB2 hlen
        rw [partL1 (.inl k1)] at hB2 hlen
        refine Run.condT rfl rfl (by simp [k1]) ?_
        refine fR rfl ?_
        refine Mid.call (rUses_ok H t.dirs ht.d 0 1 1 rfl t.name) rfl rfl rfl rfl ?_
        skip
        refine apM Fault.enc B (usesF 1 t.name [] t.dirs) rfl rfl rfl rfl rfl ?_ (h1 := by first | omega | (simp; omega) | (simp; done)) (h2 := by first | omega | (simp; omega) | (simp; done))
        refine fM rfl ?_
        refine Run.condT rfl rfl (by simp [k1]) ?_
        refine Run.condT rfl rfl (by simp [k1]) ?_
        refine fR rfl ?_
        refine Mid.call (rFields_ok H t ht (by omega)) rfl rfl rfl rfl ?_
        skip
        refine apM Fault.enc (B ++ usesF 1 t.name [] t.dirs) (fldL t.name (plK t.kind) t.fields) rfl rfl rfl rfl rfl ?_ (h1 := by first | omega | (simp; omega) | (simp; done)) (h2 := by first | omega | (simp; omega) | (simp; done))
        refine fM rfl ?_
        refine aL rfl rfl rfl rfl rfl ?_
        refine fM rfl ?_
        exact rWeak 2 rfl (ih (B ++ usesF 1 t.name [] t.dirs ++ fldL t.name (plK t.kind) t.fields) hB2) rfl rfl rfl
      · have ho : ownP t.kind = 2 := by unfold ownP; rw [if_neg k1]
        rw [ho] at hB2 hlen
        refine Run.condF rfl rfl (by simp [k1]) ?_
        refine fR rfl ?_
        refine Mid.call (rUses_ok H t.dirs ht.d 1 2 2 rfl t.name) rfl rfl rfl rfl ?_
        skip
        refine apM Fault.enc B (usesF 2 t.name [] t.dirs) rfl rfl rfl rfl rfl ?_ (h1 := by first | omega | (simp; omega) | (simp; done)) (h2 := by first | omega | (simp; omega) | (simp; done))
        refine fM rfl ?_
        refine Run.condF rfl rfl (by simp [k1]) ?_
        refine fR rfl ?_
        by_cases k2 : t.kind = 2
        · rw [partL1 (.inr k2)] at hB2 hlen
          refine Run.condT rfl rfl (by simp [k2]) ?_
          refine fR rfl ?_
          refine Mid.call (rFields_ok H t ht (by omega)) rfl rfl rfl rfl ?_
          skip
          refine apM Fault.enc (B ++ usesF 2 t.name [] t.dirs) (fldL t.name (plK t.kind) t.fields) rfl rfl rfl rfl rfl ?_ (h1 := by first | omega | (simp; omega) | (simp; done)) (h2 := by first | omega | (simp; omega) | (simp; done))
          refine fM rfl ?_
          refine aL rfl rfl rfl rfl rfl ?_
          refine fM rfl ?_
          exact rWeak 2 rfl (ih (B ++ usesF 2 t.name [] t.dirs ++ fldL t.name (plK t.kind) t.fields) hB2) rfl rfl rfl
        · refine Run.condF rfl rfl (by simp [k2]) ?_
          refine fR rfl ?_
          by_cases k3 : t.kind = 3
          · rw [partL3 k3] at hB2 hlen
            refine Run.condT rfl rfl (by simp [k3]) ?_
            refine fR rfl ?_
            refine Mid.call (rMembers_ok H t ht 5 0 6 rfl (by omega)) rfl rfl rfl rfl ?_
            skip
            refine apM Fault.enc (B ++ usesF 2 t.name [] t.dirs) (memL t.name 0 t.members) rfl rfl rfl rfl rfl ?_ (h1 := by first | omega | (simp; omega) | (simp; done)) (h2 := by first | omega | (simp; omega) | (simp; done))
            refine fM rfl ?_
            refine aL rfl rfl rfl rfl rfl ?_
            refine fM rfl ?_
            exact rWeak 2 rfl (ih (B ++ usesF 2 t.name [] t.dirs ++ memL t.name 0 t.members) hB2) rfl rfl rfl
          · refine Run.condF rfl rfl (by simp [k3]) ?_
            refine fR rfl ?_
            by_cases k4 : t.kind = 4
            · rw [partL4 k4] at hB2 hlen
              refine Run.condT rfl rfl (by simp [k4]) ?_
              refine fR rfl ?_
              refine Mid.call (rMembers_ok H t ht 4 16 5 rfl (by omega)) rfl rfl rfl rfl ?_
              skip
              refine apM Fault.enc (B ++ usesF 2 t.name [] t.dirs) (memL t.name 16 t.members) rfl rfl rfl rfl rfl ?_ (h1 := by first | omega | (simp; omega) | (simp; done)) (h2 := by first | omega | (simp; omega) | (simp; done))
              refine fM rfl ?_
              refine aL rfl rfl rfl rfl rfl ?_
              refine fM rfl ?_
              exact rWeak 2 rfl (ih (B ++ usesF 2 t.name [] t.dirs ++ memL t.name 16 t.members) hB2) rfl rfl rfl
            · refine Run.condF rfl rfl (by simp [k4]) ?_
              refine fR rfl ?_
              by_cases k5 : t.kind = 5
              · rw [partL5 k5] at hB2 hlen
                have hil := ht.il
                refine Run.condT rfl rfl (by simp [k5]) ?_
                refine fR rfl ?_
                refine rList t.inputs (fun j (C : List Fault) => { env := [(1, .ptr 0 0), (3, .own 1 2 (C.map Fault.enc)), (4, .t (.int .i64 i)), (5, .ptr 2 0), (7, .t (.int .i64 j))], s := ⟨[(0, .cells [.t (.lst (ds.map Def.enc))]), (1, .arr C.length), (2, (.cells [.t (.int .i64 t.kind), .t (.str t.name), .t (.lst (t.implements.map sE)), .t (.lst (t.dirs.map Dir.enc)), .t (.lst (t.fields.map Field.enc)), .t (.lst (t.members.map Member.enc)), .t (.lst (t.inputs.map Input.enc))]))], 3⟩ }) (fun r2 j C => C ++ (inpL t.name r2 ++ chkD r) = R) 3 (B ++ usesF 2 t.name [] t.dirs) rfl (by rw [← hB2]; simp) rfl rfl rfl ?_ ?_
                · rintro C hC
                  refine fR rfl ?_
                  refine lM rfl rfl rfl ?_
                  refine fM rfl ?_
                  refine Run.condF rfl rfl (by simp) ?_
                  refine fR rfl ?_
                  refine aL rfl rfl rfl rfl rfl ?_
                  refine fM rfl ?_
                  exact rWeak 2 rfl (ih C (by rw [← hC]; simp [inpL])) rfl rfl rfl
                · rintro j a r2 C h2 hj hjd hC ih2
                  have ha := ht.i a (List.mem_of_getElem? h2)
                  have han := ha.nm
                  have hlen2 := congrArg List.length hC
                  simp only [inpL, List.length_append] at hlen2
                  refine fR rfl ?_
                  refine lM rfl rfl rfl ?_
                  refine fM rfl ?_
                  refine Run.condT rfl rfl (by simp; omega) ?_
                  refine fR rfl ?_
                  refine Mid.elemMap rfl rfl rfl h2 rfl rfl ?_
                  refine fM rfl ?_
                  refine pu rfl ?_
                  refine fM rfl ?_
                  refine Mid.elemMap rfl rfl rfl h2 rfl rfl ?_
                  refine fM rfl ?_
                  refine pu rfl ?_
                  refine Mid.call (rUses_ok H a.dirs ha.d 5 0 6 rfl (t.name ++ [46] ++ a.name)) rfl rfl rfl rfl ?_
                  skip
                  refine apM Fault.enc C (usesF 0 (t.name ++ [46] ++ a.name) [] a.dirs) rfl rfl rfl rfl rfl ?_ (h1 := by first | omega | (simp; omega) | (simp; done)) (h2 := by first | omega | (simp; omega) | (simp; done))
                  refine fM rfl ?_
                  refine aL rfl rfl rfl rfl rfl ?_
                  refine fM rfl ?_
                  exact rWeak 3 rfl (ih2 (C ++ usesF 0 (t.name ++ [46] ++ a.name) [] a.dirs) (by rw [← hC]; simp [inpL])) rfl rfl rfl
              · rw [partL0 k1 k2 k3 k4 k5] at hB2
                refine Run.condF rfl rfl (by simp [k5]) ?_
                refine fR rfl ?_
                refine aL rfl rfl rfl rfl rfl ?_
                refine fM rfl ?_
                exact rWeak 2 rfl (ih (B ++ usesF 2 t.name [] t.dirs) (by rw [← hB2]; simp)) rfl rfl rfl
  exact hR _ rfl hl
end Go.GB.C23


/-
  F23K: chapter 23's functions: the directives without those of subgraphs; values found.
-/
namespace Go.GB.C23
open Go.GB Go.GB.C11
set_option linter.unusedSimpArgs false
set_option linter.unusedVariables false
set_option maxRecDepth 100000
set_option maxHeartbeats 4000000
variable {P : Program}
/-- the value of an argument of the first of the uses by a name -/
def argD (n a : Str) : List Dir → Option Val
  | [] => none
  | d :: r => if d.name = n then argF a d.args else argD n a r
/-- those of all -/
def allD (n a : Str) (l : List Dir) : List Val := l.flatMap fun d => match argF a d.args with | some v => if d.name = n then [v] else [] | none => []
theorem allD_cons (n a : Str) (d : Dir) (r : List Dir) : allD n a (d :: r) = (match argF a d.args with | some v => if d.name = n then [v] else [] | none => []) ++ allD n a r := rfl
structure AOk (l : List Dir) : Prop where
  len : l.length ≤ 1099511627776
  all : ∀ d, d ∈ l → d.args.length ≤ 140737488355328
theorem arg_ok (H : Pr23 P) (l : List Dir) (hd : AOk l) (n a : Str) : FnOk P 47 [.t (.lst (l.map Dir.enc)), .t (.str n), .t (.str a)] ⟨[], 0⟩ { v := .tup [((argD n a l).getD Val.zero).v, .t (.bool (argD n a l).isSome)] } := by
  have hl := hd.len
  have hR : ∀ R, argD n a l = R → FnOk P 47 [.t (.lst (l.map Dir.enc)), .t (.str n), .t (.str a)] ⟨[], 0⟩ { v := .tup [(R.getD Val.zero).v, .t (.bool R.isSome)] } := by
    intro R hR
    refine FnOk.run H.i47 H.mixed rfl rfl ?_
    refine fR rfl ?_
    refine lM rfl rfl rfl ?_
    refine fM rfl ?_
    refine rList l (fun i (_ : Unit) => { env := [(1, .t (.str n)), (2, .t (.str a)), (6, .ptr 0 0), (10, .t (.lst (l.map Dir.enc))), (11, .t (.int .i64 l.length)), (12, .t (.int .i64 i))], s := ⟨[(0, .cells [.t (.int .i64 0), .t (.int .i64 0), .t (.str []), .nils, .nils])], 1⟩ }) (fun r i _ => argD n a r = R) 1 () rfl hR rfl rfl rfl ?_ ?_
    · rintro _ hB
      have hB' : R = none := by rw [← hB]; rfl
      subst hB'
      refine fR rfl ?_
      refine Run.condF rfl rfl (by simp) ?_
      refine fR rfl ?_
      refine Run.fin rfl (EndOk.go ?_); exact .tup2 (.agg (.cons (.t rfl) (.cons (.t rfl) (.cons (.t rfl) (.cons (.nil rfl) (.cons (.nil rfl) .nil)))))) (.t rfl)
    · rintro i x r _ h1 hi hdr hB ih
      have hx := hd.all x (List.mem_of_getElem? h1)
      refine fR rfl ?_
      refine Run.condT rfl rfl (by simp; omega) ?_
      refine fR rfl ?_
      refine Mid.elemMap rfl rfl rfl h1 rfl rfl ?_
      refine fM rfl ?_
      refine Run.cond rfl rfl (fun hc => ?_) (fun hc => ?_)
      · have hc' : x.name = n := by simpa using hc
        rw [argD, if_pos hc'] at hB
        subst hB
        refine fR rfl ?_
        refine Mid.call (argV_ok H 72 x hx a (.inl rfl)) rfl rfl rfl rfl ?_
        refine fM rfl ?_
        refine Run.fin rfl (EndOk.go ?_); exact .tup2 (.le (.same rfl)) (.t rfl)
      · have hc' : ¬ x.name = n := by simpa using hc
        rw [argD, if_neg hc'] at hB
        refine fR rfl ?_
        refine aL rfl rfl rfl rfl rfl ?_
        refine fM rfl ?_
        exact rWeak 1 rfl (ih () hB) rfl rfl rfl
  exact hR _ rfl
theorem rArg_ok (H : Pr23 P) (l : List Dir) (hd : AOk l) (n a : Str) : FnOk P 53 [.t (.lst (l.map Dir.enc)), .t (.str n), .t (.str a)] ⟨[], 0⟩ { v := .tup [((argD n a l).getD Val.zero).v, .t (.bool (argD n a l).isSome)] } := by
  have hl := hd.len
  have hR : ∀ R, argD n a l = R → FnOk P 53 [.t (.lst (l.map Dir.enc)), .t (.str n), .t (.str a)] ⟨[], 0⟩ { v := .tup [(R.getD Val.zero).v, .t (.bool R.isSome)] } := by
    intro R hR
    refine FnOk.run H.i53 H.mixed rfl rfl ?_
    refine fR rfl ?_
    refine rList l (fun i (_ : Unit) => { env := [(0, .t (.lst (l.map Dir.enc))), (1, .t (.str n)), (2, .t (.str a)), (6, .ptr 0 0), (8, .t (.int .i64 i))], s := ⟨[(0, .cells [.t (.int .i64 0), .t (.int .i64 0), .t (.str []), .nils, .nils])], 1⟩ }) (fun r i _ => argD n a r = R) 1 () rfl hR rfl rfl rfl ?_ ?_
    · rintro _ hB
      have hB' : R = none := by rw [← hB]; rfl
      subst hB'
      refine fR rfl ?_
      refine lM rfl rfl rfl ?_
      refine fM rfl ?_
      refine Run.condF rfl rfl (by simp) ?_
      refine fR rfl ?_
      refine Run.fin rfl (EndOk.go ?_); exact .tup2 (.agg (.cons (.t rfl) (.cons (.t rfl) (.cons (.t rfl) (.cons (.nil rfl) (.cons (.nil rfl) .nil)))))) (.t rfl)
    · rintro i x r _ h1 hi hdr hB ih
      have hx := hd.all x (List.mem_of_getElem? h1)
      refine fR rfl ?_
      refine lM rfl rfl rfl ?_
      refine fM rfl ?_
      refine Run.condT rfl rfl (by simp; omega) ?_
      refine fR rfl ?_
      refine Mid.elemMap rfl rfl rfl h1 rfl rfl ?_
      refine fM rfl ?_
      refine Run.cond rfl rfl (fun hc => ?_) (fun hc => ?_)
      · have hc' : x.name = n := by simpa using hc
        rw [argD, if_pos hc'] at hB
        subst hB
        refine fR rfl ?_
        refine Mid.elemMap rfl rfl rfl h1 rfl rfl ?_
        refine fM rfl ?_
        refine Mid.call (argV_ok H 84 x hx a (.inr rfl)) rfl rfl rfl rfl ?_
        refine fM rfl ?_
        refine Run.fin rfl (EndOk.go ?_); exact .tup2 (.le (.same rfl)) (.t rfl)
      · have hc' : ¬ x.name = n := by simpa using hc
        rw [argD, if_neg hc'] at hB
        refine fR rfl ?_
        refine aL rfl rfl rfl rfl rfl ?_
        refine fM rfl ?_
        exact rWeak 1 rfl (ih () hB) rfl rfl rfl
  exact hR _ rfl
theorem rAll_ok (H : Pr23 P) (l : List Dir) (hd : AOk l) (n a : Str) : FnOk P 51 [.t (.lst (l.map Dir.enc)), .t (.str n), .t (.str a)] ⟨[], 0⟩ { v := .t (.lst ((allD n a l).map Val.enc)) } := by
  have hl := hd.len
  have hR : ∀ R, allD n a l = R → FnOk P 51 [.t (.lst (l.map Dir.enc)), .t (.str n), .t (.str a)] ⟨[], 0⟩ { v := .t (.lst (R.map Val.enc)) } := by
    intro R hR
    refine FnOk.run H.i51 H.mixed rfl rfl ?_
    refine fR rfl ?_
    refine rList l (fun i (B : List Val) => { env := [(0, .t (.lst (l.map Dir.enc))), (1, .t (.str n)), (2, .t (.str a)), (7, .own 0 5 (B.map Val.enc)), (8, .t (.int .i64 i))], s := ⟨[(0, .arr B.length)], 1⟩ }) (fun r i B => B.length ≤ i ∧ B ++ allD n a r = R) 0 [] rfl ⟨by simp, hR⟩ rfl rfl rfl ?_ ?_
    · rintro B ⟨_, hB⟩
      have hB' : B = R := by rw [← hB]; simp [allD]
      subst hB'
      refine fR rfl ?_
      refine lM rfl rfl rfl ?_
      refine fM rfl ?_
      refine Run.condF rfl rfl (by simp) ?_
      refine fR rfl ?_
      refine Run.fin rfl (EndOk.go ?_); exact .own rfl
    · rintro i x r B h1 hi hdr ⟨hBl, hB⟩ ih
      have hBl' : B.length ≤ i := hBl
      have hx := hd.all x (List.mem_of_getElem? h1)
      have hav := argV_ok H 84 x hx a (.inr rfl)
      refine fR rfl ?_
      refine lM rfl rfl rfl ?_
      refine fM rfl ?_
      refine Run.condT rfl rfl (by simp; omega) ?_
      refine fR rfl ?_
      refine Mid.elemMap rfl rfl rfl h1 rfl rfl ?_
      refine fM rfl ?_
      cases hf : argF a x.args with
      | none =>
        rw [hf] at hav
        rw [allD_cons, hf] at hB
        refine Mid.call (hav) rfl rfl rfl rfl ?_
        refine fM rfl ?_
        refine Mid.elemMap rfl rfl rfl h1 rfl rfl ?_
        refine fM rfl ?_
        refine Run.condF rfl rfl (by simp) ?_
        refine fR rfl ?_
        refine aL rfl rfl rfl rfl rfl ?_
        refine fM rfl ?_
        exact rWeak 1 rfl (ih B ⟨by omega, hB⟩) rfl rfl rfl
      | some v =>
        rw [hf] at hav
        rw [allD_cons, hf] at hB
        refine Mid.call (hav) rfl rfl rfl rfl ?_
        refine fM rfl ?_
        refine Mid.elemMap rfl rfl rfl h1 rfl rfl ?_
        refine fM rfl ?_
        refine Run.cond rfl rfl (fun hc => ?_) (fun hc => ?_)
        · have hc' : x.name = n := by simpa using hc
          simp only [if_pos hc'] at hB
          refine fR rfl ?_
          refine apM Val.enc B [v] rfl (congrArg (fun c => some (T.lst [c])) (Val.enc_eq v).symm) rfl rfl rfl ?_ (hl := fun x => (congrArg List.length (Val.enc_eq x)).trans rfl)
          refine fM rfl ?_
          refine aL rfl rfl rfl rfl rfl ?_
          refine fM rfl ?_
          exact rWeak 1 rfl (ih (B ++ [v]) ⟨by simp; omega, by rw [← hB]; simp⟩) rfl rfl rfl
        · have hc' : ¬ x.name = n := by simpa using hc
          simp only [if_neg hc'] at hB
          refine fR rfl ?_
          refine aL rfl rfl rfl rfl rfl ?_
          refine fM rfl ?_
          exact rWeak 1 rfl (ih B ⟨by omega, hB⟩) rfl rfl rfl
  exact hR _ rfl
end Go.GB.C23


/-
  F23J: chapter 23's functions: the program's check of directives.
-/
namespace Go.GB.C23
open Go.GB Go.GB.C11
set_option linter.unusedSimpArgs false
set_option linter.unusedVariables false
set_option maxRecDepth 100000
set_option maxHeartbeats 4000000
variable {P : Program}

end Go.GB.C23


/-
  F25A: moves: sets of fields that directives name; keys of types.
-/
namespace Go.GB.C23
open Go.GB Go.GB.C11
set_option linter.unusedSimpArgs false
set_option linter.unusedVariables false
set_option maxRecDepth 100000
set_option maxHeartbeats 4000000
structure Pr25 (P : Program) : Prop extends Pr23 P where
  i4 : fnInfo P 4 = some (n4, c4.bare, r4)
  i5 : fnInfo P 5 = some (n5, c5.bare, r5)
  i6 : fnInfo P 6 = some (n6, c6.bare, r6)
  i7 : fnInfo P 7 = some (n7, c7.bare, r7)
  i16 : fnInfo P 16 = some (n16, c16.bare, r16)
  i17 : fnInfo P 17 = some (n17, c17.bare, r17)
  i28 : fnInfo P 28 = some (n28, c28.bare, r28)
  i27 : fnInfo P 27 = some (n27, c27.bare, r27)
  i12 : fnInfo P 12 = some (n12, c12.bare, r12)
  i15 : fnInfo P 15 = some (n15, c15.bare, r15)
  i18 : fnInfo P 18 = some (n18, c18.bare, r18)
  i19 : fnInfo P 19 = some (n19, c19.bare, r19)
  i20 : fnInfo P 20 = some (n20, c20.bare, r20)
  i22 : fnInfo P 22 = some (n22, c22.bare, r22)
  i37 : fnInfo P 37 = some (n37, c37.bare, r37)
  i39 : fnInfo P 39 = some (n39, c39.bare, r39)
  i40 : fnInfo P 40 = some (n40, c40.bare, r40)
  i41 : fnInfo P 41 = some (n41, c41.bare, r41)
  i42 : fnInfo P 42 = some (n42, c42.bare, r42)
  i43 : fnInfo P 43 = some (n43, c43.bare, r43)
  i44 : fnInfo P 44 = some (n44, c44.bare, r44)
  i46 : fnInfo P 46 = some (n46, c46.bare, r46)
  i65 : fnInfo P 65 = some (n65, c65.bare, r65)
  i67 : fnInfo P 67 = some (n67, c67.bare, r67)
  i68 : fnInfo P 68 = some (n68, c68.bare, r68)
  i69 : fnInfo P 69 = some (n69, c69.bare, r69)
  i70 : fnInfo P 70 = some (n70, c70.bare, r70)
  i71 : fnInfo P 71 = some (n71, c71.bare, r71)
  i93 : fnInfo P 93 = some (n93, c93.bare, r93)
  i94 : fnInfo P 94 = some (n94, c94.bare, r94)
variable {P : Program}

/-- one element of a list, as a list -/
theorem take_drop_one {α : Type} {l : List α} {i : Nat} {a : α} (h : l[i]? = some a) : (l.take (i + 1)).drop i = [a] := by
  rw [List.take_add_one, h, List.drop_append_of_le_length (by rw [List.length_take]; have := (List.getElem?_eq_some_iff.1 h).1; omega)]
  simp
theorem lstOne {n m : Nat} {R : St → Prop} {draw : Bool} {all : List AO} {after : List (List Nat)} {live : List Nat} {k : List It} {b : Nat} {fl : List (Bool × Bool)} {ops : List AO} {st st' : St} {d : Option Nat}
    {α : Type} {f : α → List T} {l : List α} {sz : Nat} {x lo hi : Ar} {v : V} {kd kd' : IntKind} {i : Nat} {j : Int} {a : α} (hx : rd true st x = (v, [])) (hv : v.cell1 = some (.lst (l.map f))) (hlo : rd true st lo = (.t (.int kd i), [])) (hhi : rd true st hi = (.t (.int kd' j), [])) (hj : j = ((i + 1 : Nat) : Int)) (ha : l[i]? = some a) (hsz : ∀ x, (f x).length = sz) (hs : stepV st d (.t (.lst ([a].map f))) some = some st')
    (h' : Mid P n m R draw all after live k b ((false, false) :: fl) ops st') : Mid P n m R draw all after live k b fl (⟨d, none, .sll sz x (some lo) (some hi)⟩ :: ops) st := by
  have hi' := (List.getElem?_eq_some_iff.1 ha).1
  have e : ((l.map f).take (i + 1)).drop i = [a].map f := by rw [← List.map_take, ← List.map_drop, take_drop_one ha]
  subst hj
  exact Mid.val (v := .t (.lst ([a].map f))) (ps := [true, true, true, true]) (by simp only [evalE, hx, hv, bnd, hlo, hhi]; rw [show ((i : Nat) : Int).toNat = i from Int.toNat_natCast i, show ((i + 1 : Nat) : Int).toNat = i + 1 from Int.toNat_natCast _, e]; simp [allLen, hsz]; omega) rfl ⟨rfl, rfl, rfl, rfl, trivial⟩ hs h'

/- what is said of the texts of values -/
theorem argF_tx {a : Str} {v : Val} : ∀ {l : List Arg}, (∀ x, x ∈ l → x.val.text.length ≤ 1048576) → argF a l = some v → v.text.length ≤ 1048576
  | [], _, h => by cases h
  | x :: r, ho, h => by
    rw [argF] at h
    split at h
    · rw [← Option.some.inj h]; exact ho x (List.mem_cons_self ..)
    · exact argF_tx (fun y hy => ho y (List.mem_cons_of_mem _ hy)) h
theorem argD_tx {n a : Str} {v : Val} : ∀ {l : List Dir}, (∀ d, d ∈ l → DOk d) → argD n a l = some v → v.text.length ≤ 1048576
  | [], _, h => by cases h
  | x :: r, ho, h => by
    rw [argD] at h
    split at h
    · exact argF_tx (fun y hy => ((ho x (List.mem_cons_self ..)).an y hy).2.2) h
    · exact argD_tx (fun y hy => ho y (List.mem_cons_of_mem _ hy)) h
/-- directives of a document of bounded bulk -/
structure DK (ds : List Dir) : Prop where
  l : ds.length ≤ 1048576
  d : ∀ d, d ∈ ds → DOk d
theorem DK.aok {l : List Dir} (h : DK l) : AOk l := ⟨by have := h.l; omega, fun d hd => (h.d d hd).l⟩
theorem DK.len {l : List Dir} (h : DK l) : l.length ≤ 140737488355328 := by have := h.l; omega
/-- the set of fields of the first use of a directive -/
def setM (l : List Dir) (n : Str) : List Str := (setF ((argD n ([102, 105, 101, 108, 100, 115] : Str) l).getD Val.zero).text).1
theorem setF_bad {s : Str} (h : ¬ (setF s).2 = 0) : (setF s).1 = [] := by
  unfold setF setL at h ⊢
  split
  · rfl
  · rename_i h1
    rw [if_neg h1] at h
    split
    · rfl
    · rename_i h2
      rw [if_neg h2] at h
      split
      · rfl
      · rename_i h3
        rw [if_neg h3] at h
        exact absurd rfl h
theorem setF_le (s : Str) : (setF s).1.length ≤ 4 := by
  unfold setF setL
  split
  · simp
  · split
    · simp
    · split
      · simp
      · simp; omega
theorem setM_le (l : List Dir) (n : Str) : (setM l n).length ≤ 4 := setF_le _
theorem set_ok (H : Pr25 P) (l : List Dir) (hd : DK l) (n : Str) : FnOk P 22 [.t (.lst (l.map Dir.enc)), .t (.str n)] ⟨[], 0⟩ { v := .t (.lst ((setM l n).map sE)) } := by
  have htx : ((argD n ([102, 105, 101, 108, 100, 115] : Str) l).getD Val.zero).text.length ≤ 1048576 := by
    cases hq : argD n ([102, 105, 101, 108, 100, 115] : Str) l with
    | none => exact Nat.zero_le _
    | some v => exact argD_tx hd.d hq
  have hcn : ((argD n ([102, 105, 101, 108, 100, 115] : Str) l).getD Val.zero).text.count 32 ≤ ((argD n ([102, 105, 101, 108, 100, 115] : Str) l).getD Val.zero).text.length := List.count_le_length
  have h1 := arg_ok H.toPr23 l hd.aok n ([102, 105, 101, 108, 100, 115] : Str)
  unfold setM
  generalize (argD n ([102, 105, 101, 108, 100, 115] : Str) l).getD Val.zero = v at h1 htx hcn
  generalize (argD n ([102, 105, 101, 108, 100, 115] : Str) l).isSome = b at h1
  have h2 := dSet_ok H.toPr23 v.text (by omega) (by omega)
  have h3 := fun h => setF_bad (s := v.text) h
  generalize setF v.text = R at h2 h3
  refine FnOk.run H.i22 H.mixed rfl rfl ?_
  refine fR rfl ?_
  refine Mid.call (h1) rfl rfl rfl rfl ?_
  refine fM rfl ?_
  refine Mid.call (h2) rfl rfl rfl rfl ?_
  refine fM rfl ?_
  refine Run.cond rfl rfl (fun h => ?_) (fun h => ?_)
  · have h' : ¬ R.2 = 0 := by simpa using h
    refine fR rfl ?_
    rw [h3 h']
    refine Run.fin rfl (EndOk.go ?_); exact .nil rfl
  · refine fR rfl ?_
    refine Run.fin rfl (EndOk.go ?_); exact .t rfl

/- keys -/
def lE (k : List Str) : List T := [.lst (k.map sE)]
def keysD : List Dir → List (List Str)
  | [] => []
  | d :: r => (if d.name = ([107, 101, 121] : Str) then [setM [d] ([107, 101, 121] : Str)] else []) ++ keysD r
theorem keysD_len : ∀ l : List Dir, (keysD l).length ≤ l.length
  | [] => by simp [keysD]
  | d :: r => by
    have := keysD_len r
    rw [keysD, List.length_append, List.length_cons]
    split <;> simp <;> omega
theorem keysD_mem {k : List Str} : ∀ {l : List Dir}, k ∈ keysD l → k.length ≤ 4
  | [], h => by cases h
  | d :: r, h => by
    rw [keysD] at h
    rcases List.mem_append.1 h with h | h
    · split at h
      · simp at h; rw [h]; exact setM_le _ _
      · cases h
    · exact keysD_mem h
theorem keysOf_ok (H : Pr25 P) (t : Def) (hd : DK t.dirs) : FnOk P 19 [t.v] ⟨[], 0⟩ { v := .t (.lst ((keysD t.dirs).map lE)) } := by
  have hl := hd.l
  generalize hR : keysD t.dirs = R
  refine FnOk.run H.i19 H.mixed rfl rfl ?_
  refine fR rfl ?_
  refine lM rfl rfl rfl ?_
  refine fM rfl ?_
  refine rList t.dirs (fun i (B : List (List Str)) => { env := [(1, .ptr 0 0), (3, .own 1 1 (B.map lE)), (7, .t (.lst (t.dirs.map Dir.enc))), (8, .t (.int .i64 t.dirs.length)), (9, .t (.int .i64 i))], s := ⟨[(0, (.cells [.t (.int .i64 t.kind), .t (.str t.name), .t (.lst (t.implements.map sE)), .t (.lst (t.dirs.map Dir.enc)), .t (.lst (t.fields.map Field.enc)), .t (.lst (t.members.map Member.enc)), .t (.lst (t.inputs.map Input.enc))])), (1, .arr B.length)], 2⟩ }) (fun r i B => B.length ≤ i ∧ B ++ keysD r = R) 1 [] rfl ⟨by simp, hR⟩ rfl rfl rfl ?_ ?_
  · rintro B ⟨_, hB⟩
    have hB' : B = R := by rw [← hB]; simp [keysD]
    subst hB'
    refine fR rfl ?_
    refine Run.condF rfl rfl (by simp) ?_
    refine fR rfl ?_
    refine Run.fin rfl (EndOk.go ?_); exact .own rfl
  · rintro i d r B h1 hi hdr ⟨hBl, hB⟩ ih
    have hBl' : B.length ≤ i := hBl
    have hdd := hd.d d (List.mem_of_getElem? h1)
    have hB2 : B ++ ((if d.name = ([107, 101, 121] : Str) then [setM [d] ([107, 101, 121] : Str)] else []) ++ keysD r) = R := hB
    refine fR rfl ?_
    refine Run.condT rfl rfl (by simp; omega) ?_
    refine fR rfl ?_
    refine Mid.elemMap rfl rfl rfl h1 rfl rfl ?_
    refine fM rfl ?_
    refine Run.cond rfl rfl (fun hk => ?_) (fun hk => ?_)
    · have hk' : d.name = ([107, 101, 121] : Str) := by simpa using hk
      rw [if_pos hk'] at hB2
      refine fR rfl ?_
      refine aL rfl rfl rfl rfl rfl ?_
      refine lstOne (f := Dir.enc) rfl rfl rfl rfl (by simp) h1 (fun _ => rfl) rfl ?_
      skip
      refine Mid.call (set_ok H [d] ⟨by simp, by simpa using hdd⟩ ([107, 101, 121] : Str)) rfl rfl rfl rfl ?_
      refine fM rfl ?_
      refine apM lE B [setM [d] ([107, 101, 121] : Str)] rfl rfl rfl rfl rfl ?_ (h1 := by first | omega | (simp; omega) | (simp; done)) (h2 := by first | omega | (simp; omega) | (simp; done))
      refine fM rfl ?_
      refine aL rfl rfl rfl rfl rfl ?_
      refine fM rfl ?_
      exact rWeak 2 rfl (ih (B ++ [setM [d] ([107, 101, 121] : Str)]) ⟨by simp; omega, by rw [← hB2]; simp⟩) rfl rfl rfl
    · have hk' : ¬ d.name = ([107, 101, 121] : Str) := by simpa using hk
      rw [if_neg hk', List.nil_append] at hB2
      refine fR rfl ?_
      refine aL rfl rfl rfl rfl rfl ?_
      refine fM rfl ?_
      exact rWeak 2 rfl (ih B ⟨by omega, hB2⟩) rfl rfl rfl

/- a field of a key -/
def isKeyM (l : List Dir) (f : Str) : Bool := (keysD l).any fun k => decide (f ∈ k)
def idxG {α : Type} (p : α → Bool) : Int → List α → Int
  | _, [] => -1
  | i, b :: l => if p b = true then i else idxG p (i + 1) l
theorem idxG_ge {α : Type} (p : α → Bool) : ∀ (l : List α) (i : Int), 0 ≤ i → decide (idxG p i l ≥ 0) = l.any p
  | [], i, h => by simp [idxG]
  | b :: l, i, h => by
    have ih := idxG_ge p l (i + 1) (by omega)
    by_cases hp : p b = true
    · simp [idxG, hp, h]
    · have e : idxG p i (b :: l) = idxG p (i + 1) l := by simp only [idxG]; rw [if_neg hp]
      rw [e, ih]; simp [hp]
theorem isKey1_ok (H : Pr25 P) (k : List Str) (hk : k.length ≤ 4) (f : Str) : FnOk P 71 [.t (.lst (k.map sE)), .ptr 0 0] ⟨[(0, .cells [.t (.str f)])], 1⟩ { v := .t (.bool (decide (f ∈ k))), rd := true } := by
  refine FnOk.run H.i71 H.mixed rfl rfl ?_
  refine fR rfl ?_
  refine Mid.call (contains_ok H.toPr k (by omega) f) rfl rfl rfl rfl ?_
  refine fM rfl ?_
  refine Run.fin rfl (EndOk.sameX rfl rfl rfl (by first | exact rfl | exact nSto_bd | exact tSto_bd) (.t (rfl)))
theorem indexFK_ok (H : Pr25 P) (l : List (List Str)) (hl : l.length ≤ 140737488355328) (hk : ∀ k, k ∈ l → k.length ≤ 4) (f : Str) : FnOk P 94 [.t (.lst (l.map lE)), .fn 71 [(0, 0)]] ⟨[(0, .cells [.t (.str f)])], 1⟩ { v := .t (.int .i64 (idxG (fun k => decide (f ∈ k)) 0 l)), rd := true } := by
  refine FnOk.run H.i94 H.mixed rfl rfl ?_
  refine fR rfl ?_
  refine lM rfl rfl rfl ?_
  refine fM rfl ?_
  refine rList l (fun i (_ : Unit) => { env := [(0, .t (.lst (l.map lE))), (1, .fn 71 [(0, 0)]), (7, .t (.int .i64 l.length)), (8, .t (.int .i64 i))], s := ⟨[(0, .cells [.t (.str f)])], 1⟩ }) (fun r i _ => idxG (fun k => decide (f ∈ k)) 0 l = idxG (fun k => decide (f ∈ k)) i r) 1 () rfl rfl rfl rfl rfl ?_ ?_
  · intro _ hinv
    refine fR rfl ?_
    refine Run.condF rfl rfl (by simp) ?_
    refine fR rfl ?_
    refine Run.fin rfl (EndOk.sameX rfl rfl rfl (by first | exact rfl | exact nSto_bd | exact tSto_bd) (.t ((by rw [hinv]; rfl))))
  · intro i x r _ h1 hi hd hinv ih
    refine fR rfl ?_
    refine Run.condT rfl rfl (by simp; omega) ?_
    refine fR rfl ?_
    refine Mid.elemMap rfl rfl rfl h1 rfl rfl ?_
    refine fM rfl ?_
    refine Mid.callvS rfl (isKey1_ok H x (hk x (List.mem_of_getElem? h1)) f) rfl rfl rfl rfl ?_
    refine fM rfl ?_
    refine Run.cond rfl rfl (fun hc => ?_) (fun hc => ?_)
    · refine fR rfl ?_
      refine Run.fin rfl (EndOk.sameX rfl rfl rfl (by first | exact rfl | exact nSto_bd | exact tSto_bd) (.t ((by rw [hinv]; simp only [idxG]; rw [if_pos hc]))))
    · refine fR rfl ?_
      refine aL rfl rfl rfl rfl rfl ?_
      refine fM rfl ?_
      have h' : ¬ decide (f ∈ x) = true := by rw [hc]; simp
      exact rWeak 1 rfl (ih () (by rw [hinv]; simp only [idxG]; rw [if_neg h']; rfl)) rfl rfl rfl
theorem containsFK_ok (H : Pr25 P) (l : List (List Str)) (hl : l.length ≤ 140737488355328) (hk : ∀ k, k ∈ l → k.length ≤ 4) (f : Str) : FnOk P 70 [.t (.lst (l.map lE)), .fn 71 [(0, 0)]] ⟨[(0, .cells [.t (.str f)])], 1⟩ { v := .t (.bool (l.any fun k => decide (f ∈ k))), rd := true } := by
  refine FnOk.run H.i70 H.mixed rfl rfl ?_
  refine fR rfl ?_
  refine Mid.callS (indexFK_ok H l hl hk f) rfl rfl (by first | exact rfl | exact nSto_bd | exact tSto_bd) rfl ?_
  refine fM rfl ?_
  refine Run.fin rfl (EndOk.sameX rfl rfl rfl (by first | exact rfl | exact nSto_bd | exact tSto_bd) (.t ((by rw [← idxG_ge (fun k => decide (f ∈ k)) l 0 (by omega)]))))
theorem isKey_ok (H : Pr25 P) (t : Def) (hd : DK t.dirs) (f : Str) : FnOk P 46 [t.v, .t (.str f)] ⟨[], 0⟩ { v := .t (.bool (isKeyM t.dirs f)) } := by
  have hl := hd.l
  have hkl := keysD_len t.dirs
  refine FnOk.run H.i46 H.mixed rfl rfl ?_
  refine fR rfl ?_
  refine Mid.call (keysOf_ok H t hd) rfl rfl rfl rfl ?_
  refine fM rfl ?_
  refine Mid.callRd [1] (containsFK_ok H (keysD t.dirs) (by omega) (fun k hk => keysD_mem hk) f) rfl rfl rfl rfl (by simp [stoBd]; simp [AObj.bd, V.bds, V.bd]) (by repeat' (first | exact trivial | exact rfl | refine And.intro ?_ ?_ | exact (congrArg some (AObj.ren_mE _ _ _ _ _ _)).symm | exact (congrArg some (AObj.ren_cE _ _ _)).symm)) rfl ?_
  refine fM rfl ?_
  refine Run.fin rfl (EndOk.go ?_); exact .t rfl
end Go.GB.C23


/-
  F25B: moves: leaf types, fields that graphs resolve, fields that are external.
-/
namespace Go.GB.C23
open Go.GB Go.GB.C11
set_option linter.unusedSimpArgs false
set_option linter.unusedVariables false
set_option maxRecDepth 100000
set_option maxHeartbeats 4000000
variable {P : Program}

structure Graph where
  name : Str
  doc : List Def
def Graph.enc (g : Graph) : List T := [.str g.name, .lst (g.doc.map Def.enc)]
def Graph.v (g : Graph) : V := .agg [.t (.str g.name), .t (.lst (g.doc.map Def.enc))]

structure FK (x : Field) : Prop where
  d : DK x.dirs
  al : x.args.length ≤ 140737488355328
  w : x.ty.wraps.length ≤ 140737488355328
  nm : x.name.length ≤ 140737488355328
structure TK (t : Def) : Prop where
  d : DK t.dirs
  fl : t.fields.length ≤ 1048576
  f : ∀ x, x ∈ t.fields → FK x
  nm : t.name.length ≤ 140737488355328
structure GK (ds : List Def) : Prop where
  ok : DocOk ds
  l : ds.length ≤ 1048576
  t : ∀ t, t ∈ ds → TK t
theorem DK.nil : DK [] := ⟨by decide, by simp⟩
theorem FK.zero : FK Field.zero := ⟨DK.nil, by decide, by decide, by decide⟩
theorem TK.zero : TK Def.zero := ⟨DK.nil, by decide, by simp [Def.zero], by decide⟩
theorem GK.find {ds : List Def} (h : GK ds) (n : Str) : TK ((findDef n ds).getD Def.zero) := by
  cases hf : findDef n ds with
  | none => exact TK.zero
  | some t => exact h.t t (findDef_mem hf)
theorem TK.field {t : Def} (h : TK t) (n : Str) : FK ((findField n t.fields).getD Field.zero) := by
  cases hf : findField n t.fields with
  | none => exact FK.zero
  | some t => exact h.f t (findField_mem hf)
theorem GK.len {ds : List Def} (h : GK ds) : ds.length ≤ 140737488355328 := h.ok.l

def kindM (ds : List Def) (n : Str) : Int := ((findDef n ds).getD Def.zero).kind
def leafM (ds : List Def) (n : Str) : Bool := scalF n || kindM ds n == 4
theorem kind25_ok (H : Pr25 P) (ds : List Def) (gk : GK ds) (n : Str) : FnOk P 65 [docV ds, .t (.str n)] ⟨[], 0⟩ { v := .t (.int .i64 (kindM ds n)) } := by
  refine FnOk.run H.i65 H.mixed rfl rfl ?_
  refine fR rfl ?_
  refine Mid.call (find_ok H.toPr ds gk.len n) rfl rfl rfl rfl ?_
  refine fM rfl ?_
  refine Run.fin rfl (EndOk.go ?_); exact .t rfl
theorem leaf25_ok (H : Pr25 P) (ds : List Def) (gk : GK ds) (n : Str) : FnOk P 39 [docV ds, .t (.str n)] ⟨[], 0⟩ { v := .t (.bool (leafM ds n)) } := by
  refine FnOk.run H.i39 H.mixed rfl rfl ?_
  refine fR rfl ?_
  refine Mid.call (scalar_ok H.toPr n) rfl rfl rfl rfl ?_
  refine fM rfl ?_
  refine caG rfl rfl (fun hg => ⟨_, rfl, kind25_ok H ds gk n, rfl⟩) rfl rfl ?_
  refine fM rfl ?_
  refine Run.fin rfl (EndOk.go ?_); exact .t rfl

def resM (ds : List Def) (n f : Str) : Bool :=
  (((findDef n ds).isSome && (findField f ((findDef n ds).getD Def.zero).fields).isSome) && ((findDef n ds).getD Def.zero).kind == 1) && !hasD ([101, 120, 116, 101, 114, 110, 97, 108] : Str) ((findField f ((findDef n ds).getD Def.zero).fields).getD Field.zero).dirs
theorem resolves_ok (H : Pr25 P) (g : Graph) (gk : GK g.doc) (n f : Str) : FnOk P 67 [g.v, .t (.str n), .t (.str f)] ⟨[], 0⟩ { v := .t (.bool (resM g.doc n f)) } := by
  have hT := gk.find n
  have hF := hT.field f
  have hfl := hT.fl
  refine FnOk.run H.i67 H.mixed rfl rfl ?_
  refine fR rfl ?_
  refine Mid.call (find_ok H.toPr g.doc gk.len n) rfl rfl rfl rfl ?_
  refine fM rfl ?_
  refine Mid.call (fieldOf_ok H.toPr ((findDef n g.doc).getD Def.zero) (by omega) f) rfl rfl rfl rfl ?_
  refine fM rfl ?_
  refine caG rfl rfl (fun hg => ⟨_, rfl, hasD_ok H.toPr23 21 ((findField f ((findDef n g.doc).getD Def.zero).fields).getD Field.zero).dirs hF.d.len ([101, 120, 116, 101, 114, 110, 97, 108] : Str) (.inl rfl), rfl⟩) rfl rfl ?_
  refine fM rfl ?_
  refine Run.fin rfl (EndOk.go ?_); exact .t rfl

def othM (a : Nat) (n f : Str) : Nat → List Graph → Bool
  | _, [] => false
  | i, g :: r => (((i : Int) != (a : Int)) && resM g.doc n f) || othM a n f (i + 1) r
theorem others_ok (H : Pr25 P) (gs : List Graph) (hl : gs.length ≤ 140737488355328) (gk : ∀ g, g ∈ gs → GK g.doc) (out : List Fault) (a : Nat) (n f : Str) : FnOk P 42 [.ptr 0 0, .t (.int .i64 a), .t (.str n), .t (.str f)] ⟨[(0, .cells [.t (.lst (gs.map Graph.enc)), .own 1 2 (out.map Fault.enc)]), (1, .arr out.length)], 2⟩ { v := .t (.bool (othM a n f 0 gs)), rd := true } := by
  refine FnOk.run H.i42 H.mixed rfl rfl ?_
  refine fR rfl ?_
  refine lM rfl rfl rfl ?_
  refine fM rfl ?_
  refine rList gs (fun i (_ : Unit) => { env := [(1, .t (.int .i64 a)), (2, .t (.str n)), (3, .t (.str f)), (14, .t (.lst (gs.map Graph.enc))), (15, .t (.int .i64 gs.length)), (16, .t (.int .i64 i))], s := ⟨[(0, .cells [.t (.lst (gs.map Graph.enc)), .own 1 2 (out.map Fault.enc)]), (1, .arr out.length)], 2⟩ }) (fun r i _ => othM a n f 0 gs = othM a n f i r) 2 () rfl rfl rfl rfl rfl ?_ ?_
  · intro _ hinv
    refine fR rfl ?_
    refine Run.condF rfl rfl (by simp) ?_
    refine fR rfl ?_
    refine Run.fin rfl (EndOk.sameX rfl rfl rfl (by first | exact rfl | exact nSto_bd | exact tSto_bd) (.t ((by rw [hinv]; rfl))))
  · intro i g r _ h1 hi hd hinv ih
    have hgg := gk g (List.mem_of_getElem? h1)
    refine fR rfl ?_
    refine Run.condT rfl rfl (by simp; omega) ?_
    refine fR rfl ?_
    refine Mid.elemMap rfl rfl rfl h1 rfl rfl ?_
    refine fM rfl ?_
    refine caG rfl rfl (fun hg => ⟨_, rfl, resolves_ok H g hgg n f, rfl⟩) rfl rfl ?_
    refine fM rfl ?_
    refine Run.cond rfl rfl (fun hc => ?_) (fun hc => ?_)
    · have hc' : (((i : Int) != (a : Int)) && resM g.doc n f) = true := hc
      refine fR rfl ?_
      refine Run.fin rfl (EndOk.sameX rfl rfl rfl (by first | exact rfl | exact nSto_bd | exact tSto_bd) (.t ((by rw [hinv, othM, hc']; rfl))))
    · have hc' : (((i : Int) != (a : Int)) && resM g.doc n f) = false := hc
      refine fR rfl ?_
      refine aL rfl rfl rfl rfl rfl ?_
      refine fM rfl ?_
      exact rWeak 2 rfl (ih () (by rw [hinv, othM, hc']; rfl)) rfl rfl rfl

/-- a name that is not an external field without arguments, of a leaf type -/
def outB (ds : List Def) (t : Def) (n : Str) : Bool :=
  ((!(findField n t.fields).isSome || !hasD ([101, 120, 116, 101, 114, 110, 97, 108] : Str) ((findField n t.fields).getD Field.zero).dirs) || decide ((((findField n t.fields).getD Field.zero).args.length : Int) > 0)) || !leafM ds ((findField n t.fields).getD Field.zero).ty.name
def outM (ds : List Def) (t : Def) (l : List Str) : Bool := !l.any (outB ds t) && decide ((l.length : Int) > 0)
theorem outside_ok (H : Pr25 P) (g : Graph) (gk : GK g.doc) (t : Def) (ht : TK t) (l : List Str) (hl : l.length ≤ 140737488355328) : FnOk P 44 [g.v, t.v, .t (.lst (l.map sE))] ⟨[], 0⟩ { v := .t (.bool (outM g.doc t l)) } := by
  have hfl := ht.fl
  refine FnOk.run H.i44 H.mixed rfl rfl ?_
  refine fR rfl ?_
  refine lM rfl rfl rfl ?_
  refine fM rfl ?_
  refine rList l (fun i (_ : Unit) => { env := [(2, .t (.lst (l.map sE))), (3, .ptr 0 0), (4, .ptr 1 0), (11, .t (.lst (l.map sE))), (12, .t (.int .i64 l.length)), (13, .t (.int .i64 i))], s := ⟨[(0, .cells [.t (.str g.name), .t (.lst (g.doc.map Def.enc))]), (1, (.cells [.t (.int .i64 t.kind), .t (.str t.name), .t (.lst (t.implements.map sE)), .t (.lst (t.dirs.map Dir.enc)), .t (.lst (t.fields.map Field.enc)), .t (.lst (t.members.map Member.enc)), .t (.lst (t.inputs.map Input.enc))]))], 2⟩ }) (fun r i _ => l.any (outB g.doc t) = r.any (outB g.doc t)) 2 () rfl rfl rfl rfl rfl ?_ ?_
  · intro _ hinv
    refine fR rfl ?_
    refine Run.condF rfl rfl (by simp) ?_
    refine fR rfl ?_
    refine lM rfl rfl rfl ?_
    refine fM rfl ?_
    refine Run.fin rfl (EndOk.go ?_); exact .t (by unfold outM; rw [hinv]; rfl)
  · intro i n r _ h1 hi hd hinv ih
    have hF := ht.field n
    have hal := hF.al
    refine fR rfl ?_
    refine Run.condT rfl rfl (by simp; omega) ?_
    refine fR rfl ?_
    refine Mid.elemMap rfl rfl rfl h1 rfl rfl ?_
    refine fM rfl ?_
    refine Mid.call (fieldOf_ok H.toPr t (by omega) n) rfl rfl rfl rfl ?_
    refine fM rfl ?_
    refine caG rfl rfl (fun hg => ⟨_, rfl, hasD_ok H.toPr23 21 ((findField n t.fields).getD Field.zero).dirs hF.d.len ([101, 120, 116, 101, 114, 110, 97, 108] : Str) (.inl rfl), rfl⟩) rfl rfl ?_
    refine fM rfl ?_
    refine lMG rfl rfl rfl rfl ?_
    refine fM rfl ?_
    refine caG rfl rfl (fun hg => ⟨_, rfl, leaf25_ok H g.doc gk ((findField n t.fields).getD Field.zero).ty.name, rfl⟩) rfl rfl ?_
    refine fM rfl ?_
    refine Run.cond rfl rfl (fun hc => ?_) (fun hc => ?_)
    · have hc' : outB g.doc t n = true := hc
      refine fR rfl ?_
      refine Run.fin rfl (EndOk.go ?_); exact .t (by unfold outM; rw [hinv, List.any_cons, hc']; rfl)
    · have hc' : outB g.doc t n = false := hc
      refine fR rfl ?_
      refine aL rfl rfl rfl rfl rfl ?_
      refine fM rfl ?_
      exact rWeak 2 rfl (ih () (by rw [hinv, List.any_cons, hc']; rfl)) rfl rfl rfl
end Go.GB.C23

