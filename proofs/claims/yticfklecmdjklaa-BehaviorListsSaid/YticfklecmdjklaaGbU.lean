/-
  GbU: code on abstract states; functions.
-/
import Derived.Test.YticfklecmdjklaaGbT
import Derived.LoopN
namespace Go.GB

inductive AExit where
  | normal
  | exit (id : Nat)
  | ret

def exitOf : Exit → Option AExit
  | .normal => some .normal
  | .exit id => some (.exit id)
  | .ret => some .ret
  | _ => none

/-- every slot that is written lies in the frame -/
def codeOk (n : Nat) : Code → Bool
  | .region _ ops _ => ops.all fun o => match o.dst with | some d => decide (d < n) | none => true
  | .seq a b => codeOk n a && codeOk n b
  | .cond _ a b => codeOk n a && codeOk n b
  | .block _ c => codeOk n c
  | .loop c => codeOk n c
  | _ => true

def keepE (live : List Nat) : List (Nat × V) → List (Nat × V)
  | [] => []
  | (t, x) :: r => if live.contains t then (t, x) :: keepE live r else keepE live r

theorem look_keepE (live : List Nat) : ∀ (e : List (Nat × V)) (t : Nat), look (keepE live e) t = look e t ∨ look (keepE live e) t = .top
  | [], t => .inl rfl
  | (k, x) :: r, t => by
    simp only [keepE]
    by_cases hk : live.contains k = true
    · simp only [hk, if_true]
      by_cases e : k = t
      · subst e; left; simp [look, aget]
      · have := look_keepE live r t; simpa [look, aget, e] using this
    · simp only [hk, Bool.false_eq_true, if_false]
      by_cases e : k = t
      · subst e
        right
        have : ∀ r : List (Nat × V), look (keepE live r) k = .top := by
          intro r
          induction r with
          | nil => rfl
          | cons h r ih =>
            obtain ⟨j, y⟩ := h
            simp only [keepE]
            by_cases hj : live.contains j = true
            · have hne : j ≠ k := by rintro rfl; exact hk hj
              simp only [hj, if_true]; simpa [look, aget, hne] using ih
            · simp only [hj, Bool.false_eq_true, if_false]; exact ih
        exact this r
      · have := look_keepE live r t; simpa [look, aget, e] using this

def Post (C : Ctx) (Q : AExit → St → Prop) : Exit → Act → World → Prop := fun e a w => ∃ x st Λ, exitOf e = some x ∧ Q x st ∧ Rel C Λ st a ∧ Λ.nxt = st.s.nxt ∧ Λ.w = w

/-- Code on an abstract state: n slots; m names at the function's entry. -/
def Sat (P : Program) (n m : Nat) (c : ACode) (st : St) (Q : AExit → St → Prop) : Prop :=
  ∀ (code : Code), resC P code = some c.bare → codeOk n code = true → P.follows .mixedOrders = true → ∀ (C : Ctx) (Λ : L) (a : Act), C.P = P → C.n = n → C.Λ.nxt = m → Rel C Λ st a → Λ.nxt = st.s.nxt →
    code.wp P (Post C Q) a Λ.w

section
variable {P : Program} {n m : Nat} {st : St} {Q : AExit → St → Prop}

theorem Sat.mono {c : ACode} {Q' : AExit → St → Prop} (h : Sat P n m c st Q) (hq : ∀ e st, Q e st → Q' e st) : Sat P n m c st Q' := by
  intro code h1 h2 h3 C Λ a h4 h5 h6 h7 h8
  exact wp_mono (h code h1 h2 h3 C Λ a h4 h5 h6 h7 h8) fun e a w ⟨x, s, Λ', k1, k2, k3⟩ => ⟨x, s, Λ', k1, hq _ _ k2, k3⟩

theorem resC_cases {code : Code} {c : ACode} (h : resC P code = some c) :
    match c with
    | .skip => code = .skip
    | .region draw l after live => ∃ id ops, code = .region id ops draw ∧ resOs P ops ops.toList = some l ∧ (draw = true → after = afterOf ops) ∧ live = []
    | .seq a b => ∃ x y, code = .seq x y ∧ resC P x = some a ∧ resC P y = some b
    | .cond z a b => ∃ c x y, code = .cond c x y ∧ opA c = some z ∧ resC P x = some a ∧ resC P y = some b
    | .block id a => ∃ x, code = .block id x ∧ resC P x = some a
    | .loop a => ∃ x, code = .loop x ∧ resC P x = some a
    | .exit id => code = .exit id
    | .ret => code = .ret := by
  cases code with
  | skip => simp [resC] at h; subst h; rfl
  | region id ops draw =>
    simp only [resC] at h
    split at h
    · rename_i l hl
      simp at h; subst h
      refine ⟨id, ops, rfl, hl, fun hd => ?_, rfl⟩
      simp [hd]
    · cases h
  | seq a b =>
    simp only [resC] at h
    split at h
    · rename_i x y h1 h2; simp at h; subst h; exact ⟨a, b, rfl, h1, h2⟩
    · cases h
  | cond c a b =>
    simp only [resC] at h
    split at h
    · rename_i z x y h1 h2 h3; simp at h; subst h; exact ⟨c, a, b, rfl, h1, h2, h3⟩
    · cases h
  | block id c => simp only [resC, Option.map_eq_some_iff] at h; obtain ⟨x, h1, rfl⟩ := h; exact ⟨c, rfl, h1⟩
  | loop c => simp only [resC, Option.map_eq_some_iff] at h; obtain ⟨x, h1, rfl⟩ := h; exact ⟨c, rfl, h1⟩
  | exit id => simp [resC] at h; subst h; rfl
  | ret => simp [resC] at h; subst h; rfl
  | _ => simp [resC] at h

theorem Sat.skip (h : Q .normal st) : Sat P n m .skip st Q := by
  intro code h1 h2 _ C Λ a h4 h5 h6 h7 h8
  have := resC_cases h1
  simp only [ACode.bare] at this
  subst this
  exact wp_skip ⟨.normal, st, Λ, rfl, h, h7, h8, rfl⟩

theorem Sat.ret (h : Q .ret st) : Sat P n m .ret st Q := by
  intro code h1 h2 _ C Λ a h4 h5 h6 h7 h8
  have := resC_cases h1
  simp only [ACode.bare] at this
  subst this
  exact wp_ret ⟨.ret, st, Λ, rfl, h, h7, h8, rfl⟩

theorem Sat.exit {id : Nat} (h : Q (.exit id) st) : Sat P n m (.exit id) st Q := by
  intro code h1 h2 _ C Λ a h4 h5 h6 h7 h8
  have := resC_cases h1
  simp only [ACode.bare] at this
  subst this
  exact wp_exit ⟨.exit id, st, Λ, rfl, h, h7, h8, rfl⟩

/-- what follows the first part -/
def thenA (K : St → Prop) (Q : AExit → St → Prop) : AExit → St → Prop
  | .normal, st => K st
  | e, st => Q e st

theorem Sat.seq {a b : ACode} (h : Sat P n m a st (thenA (fun st' => Sat P n m b st' Q) Q)) : Sat P n m (.seq a b) st Q := by
  intro code h1 h2 h3 C Λ ac h4 h5 h6 h7 h8
  have := resC_cases h1
  simp only [ACode.bare] at this
  obtain ⟨x, y, rfl, hx, hy⟩ := this
  simp only [codeOk, Bool.and_eq_true] at h2
  refine wp_seq (wp_mono (h x hx h2.1 h3 C Λ ac h4 h5 h6 h7 h8) fun e a' w' hp => ?_)
  obtain ⟨z, st', Λ', k1, k2, k3, k4, rfl⟩ := hp
  cases e with
  | normal =>
    simp [exitOf] at k1; subst k1
    exact k2 y hy h2.2 h3 C Λ' a' h4 h5 h6 k3 k4
  | exit id => simp [exitOf] at k1; subst k1; exact ⟨_, st', Λ', rfl, k2, k3, k4, rfl⟩
  | ret => simp [exitOf] at k1; subst k1; exact ⟨_, st', Λ', rfl, k2, k3, k4, rfl⟩
  | goto l => simp [exitOf] at k1
  | panic c => simp [exitOf] at k1
  | outgrown => simp [exitOf] at k1

theorem Sat.cond {z : Ar} {a b : ACode} {t : Bool} (hz : z.v st = .t (.bool t)) (h : Sat P n m (if t then a else b) st Q) : Sat P n m (.cond z a b) st Q := by
  intro code h1 h2 h3 C Λ ac h4 h5 h6 h7 h8
  have := resC_cases h1
  simp only [ACode.bare] at this
  obtain ⟨c, x, y, rfl, hc, hx, hy⟩ := this
  simp only [codeOk, Bool.and_eq_true] at h2
  have hv := h7.opd hc
  rw [hz] at hv
  refine wp_cond hv.repT.bool_inv ?_
  cases t with
  | true => exact h x hx h2.1 h3 C Λ ac h4 h5 h6 h7 h8
  | false => exact h y hy h2.2 h3 C Λ ac h4 h5 h6 h7 h8

def inBlk (id : Nat) (Q : AExit → St → Prop) : AExit → St → Prop
  | .exit id', st => if id' = id then Q .normal st else Q (.exit id') st
  | e, st => Q e st

theorem Sat.block {id : Nat} {a : ACode} (h : Sat P n m a st (inBlk id Q)) : Sat P n m (.block id a) st Q := by
  intro code h1 h2 h3 C Λ ac h4 h5 h6 h7 h8
  have := resC_cases h1
  simp only [ACode.bare] at this
  obtain ⟨x, rfl, hx⟩ := this
  simp only [codeOk] at h2
  refine wp_block (wp_mono (h x hx h2 h3 C Λ ac h4 h5 h6 h7 h8) fun e a' w' hp => ?_)
  obtain ⟨z, st', Λ', k1, k2, k3, k4, rfl⟩ := hp
  cases e with
  | normal => simp [exitOf] at k1; subst k1; exact ⟨_, st', Λ', rfl, k2, k3, k4, rfl⟩
  | exit id' =>
    simp [exitOf] at k1; subst k1
    simp only [inBlk] at k2
    simp only [Exit.inBlock]
    split
    · rename_i e; simp only [e, if_true] at k2; exact ⟨_, st', Λ', rfl, k2, k3, k4, rfl⟩
    · rename_i e; simp only [e, if_false] at k2; exact ⟨_, st', Λ', rfl, k2, k3, k4, rfl⟩
  | ret => simp [exitOf] at k1; subst k1; exact ⟨_, st', Λ', rfl, k2, k3, k4, rfl⟩
  | goto l => simp [exitOf] at k1
  | panic c => simp [exitOf] at k1
  | outgrown => simp [exitOf] at k1

/-- from the head of a loop on -/
def wpLp (P : Program) (c : Code) (Q : Exit → Act → World → Prop) (a : Act) (w : World) : Prop :=
  ∀ (b : Frame) (k : List Item) (cs : List Frame), ∃ e a' w', Q e a' w' ∧ Arrives P (lone (b.at a (.code c :: .inLoop c :: k)) cs w) b k cs e a' w'

theorem wp_of_lp {c : Code} {Q : Exit → Act → World → Prop} {a : Act} {w : World} (h : wpLp P c Q a w) : (Code.loop c).wp P Q a w := by
  intro b k cs
  obtain ⟨e, a', w', hq, harr⟩ := h b k cs
  exact ⟨e, a', w', hq, .of_steps (.one step_loop) harr⟩

theorem lp_unroll {c : Code} {Q : Exit → Act → World → Prop} {a : Act} {w : World} (h : c.wp P (Exit.then (wpLp P c Q) Q) a w) : wpLp P c Q a w := by
  intro b k cs
  obtain ⟨e, a₁, w₁, hq, harr⟩ := h b (.inLoop c :: k) cs
  cases e with
  | normal =>
    obtain ⟨e₂, a₂, w₂, hq₂, harr₂⟩ := hq b k cs
    exact ⟨e₂, a₂, w₂, hq₂, .of_steps (Steps.trans harr (.one step_inLoop)) harr₂⟩
  | exit id => exact ⟨_, a₁, w₁, hq, .pass (x := .inLoop c) rfl (fun _ _ => .inl (by simp)) harr⟩
  | goto l => exact ⟨_, a₁, w₁, hq, .pass (x := .inLoop c) rfl (fun _ _ => .inl (by simp)) harr⟩
  | ret => exact ⟨_, a₁, w₁, hq, .pass (x := .inLoop c) rfl (fun _ _ => .inl (by simp)) harr⟩
  | panic ch => exact ⟨_, a₁, w₁, hq, .pass (x := .inLoop c) rfl (fun _ _ => .inl (by simp)) harr⟩
  | outgrown => exact ⟨_, a₁, w₁, hq, .pass (x := .inLoop c) rfl (fun _ _ => .inl (by simp)) harr⟩

/-- A loop, from its head on. -/
def SatL (P : Program) (n m : Nat) (c : ACode) (st : St) (Q : AExit → St → Prop) : Prop :=
  ∀ (code : Code), resC P code = some c.bare → codeOk n code = true → P.follows .mixedOrders = true → ∀ (C : Ctx) (Λ : L) (a : Act), C.P = P → C.n = n → C.Λ.nxt = m → Rel C Λ st a → Λ.nxt = st.s.nxt →
    wpLp P code (Post C Q) a Λ.w

theorem Sat.loop {c : ACode} (h : SatL P n m c st Q) : Sat P n m (.loop c) st Q := by
  intro code h1 h2 h3 C Λ ac h4 h5 h6 h7 h8
  have := resC_cases h1
  simp only [ACode.bare] at this
  obtain ⟨x, rfl, hx⟩ := this
  simp only [codeOk] at h2
  exact wp_of_lp (h x hx h2 h3 C Λ ac h4 h5 h6 h7 h8)

theorem SatL.unroll {c : ACode} (h : Sat P n m c st (thenA (fun st' => SatL P n m c st' Q) Q)) : SatL P n m c st Q := by
  intro code h1 h2 h3 C Λ ac h4 h5 h6 h7 h8
  refine lp_unroll (wp_mono (h code h1 h2 h3 C Λ ac h4 h5 h6 h7 h8) fun e a' w' hp => ?_)
  obtain ⟨z, st', Λ', k1, k2, k3, k4, rfl⟩ := hp
  cases e with
  | normal =>
    simp [exitOf] at k1; subst k1
    exact k2 code h1 h2 h3 C Λ' a' h4 h5 h6 k3 k4
  | exit id => simp [exitOf] at k1; subst k1; exact ⟨_, st', Λ', rfl, k2, k3, k4, rfl⟩
  | ret => simp [exitOf] at k1; subst k1; exact ⟨_, st', Λ', rfl, k2, k3, k4, rfl⟩
  | goto l => simp [exitOf] at k1
  | panic c => simp [exitOf] at k1
  | outgrown => simp [exitOf] at k1

/-- Knowing less: k names are kept. -/
theorem Sat.weak {c : ACode} {st' : St} (k : Nat) (h : Sat P n m c st' Q) (h1 : m ≤ k) (h2 : k ≤ st.s.nxt) (h3 : k ≤ st'.s.nxt) (he : LeE k st'.s.nxt st.env st'.env) (hs : LeS k st'.s.nxt st.s.sto st'.s.sto) : Sat P n m c st Q := by
  intro code e1 e2 e3 C Λ a e4 e5 e6 e7 e8
  exact h code e1 e2 e3 C (Λ.cut k st'.s.nxt) a e4 e5 e6 (e7.weak (by omega) (by omega) h3 he hs) rfl

theorem SatL.weak {c : ACode} {st' : St} (k : Nat) (h : SatL P n m c st' Q) (h1 : m ≤ k) (h2 : k ≤ st.s.nxt) (h3 : k ≤ st'.s.nxt) (he : LeE k st'.s.nxt st.env st'.env) (hs : LeS k st'.s.nxt st.s.sto st'.s.sto) : SatL P n m c st Q := by
  intro code e1 e2 e3 C Λ a e4 e5 e6 e7 e8
  exact h code e1 e2 e3 C (Λ.cut k st'.s.nxt) a e4 e5 e6 (e7.weak (by omega) (by omega) h3 he hs) rfl

/-- the state behind a region -/
def regSt (live : List Nat) (b : Nat) (st : St) : St := { env := keepE live st.env, s := { st.s with nxt := b } }

theorem Rel.keep {C : Ctx} {Λ : L} {a : Act} (h : Rel C Λ st a) (live : List Nat) (b : Nat) : Rel C Λ (regSt live b st) a := by
  refine ⟨h.kp, h.size, h.defers, fun t => ?_, ⟨h.s.sto, h.s.inj, h.s.new, h.s.bnd, h.s.frz⟩⟩
  rcases look_keepE live st.env t with e | e
  · simp only [regSt, e]; exact h.env t
  · simp only [regSt, e]; exact .top

/-- no region asks for more in an order that is not drawn -/
def regOk (draw : Bool) (ops : List AO) (after : List (List Nat)) (fl : List (Bool × Bool)) : Prop := draw = true → indep ops after fl = true

theorem Sat.region {draw : Bool} {ops : List AO} {after : List (List Nat)} {live : List Nat} (h : evR P st.s.nxt st ops [] (fun b st' fl => regOk draw ops after fl ∧ Q .normal (regSt live b st'))) : Sat P n m (.region draw ops after live) st Q := by
  intro code h1 h2 h3 C Λ a h4 h5 h6 h7 h8
  have := resC_cases h1
  simp only [ACode.bare] at this
  obtain ⟨id, os, rfl, hres, haft, _⟩ := this
  obtain ⟨outs, b', st', hch, hok, hq⟩ := evR_chain h
  simp only [List.nil_append] at hok
  have hd : DstOk C os := by
    intro j p d hp hpd
    simp only [codeOk, Array.all_eq_true'] at h2
    have := h2 p (Array.mem_of_getElem? hp)
    rw [hpd] at this
    rw [h5]; simpa using this
  have hle := Ch.le hch
  have hr' := h7.up (m := b') (by omega)
  have hfree : ∀ k, st.s.nxt ≤ k → Free Λ k ∧ aget st.s.sto k = none := by
    intro k hk
    refine ⟨h7.s.free (by omega), ?_⟩
    cases ha : aget st.s.sto k with
    | none => rfl
    | some o => have := (h7.s.sto k o ha).1; omega
  have hfin : ∀ (a' : Act) (Λ' : L), Rel C Λ' st' a' → Λ'.nxt = b' → Post C Q .normal a' Λ'.w := fun a' Λ' k1 k2 => ⟨.normal, _, Λ', rfl, hq, k1.keep live b', k2, rfl⟩
  obtain ⟨hlen, _⟩ := resOs_at hres
  cases draw with
  | false =>
    refine wp_region ?_
    have := seq_ops (Q := Post C Q) h4 hd hres b' ops 0 st.s.nxt st outs (Λ.up b') a rfl hch hr' rfl (Nat.le_refl _) (fun k k1 k2 => ⟨⟨(hfree k k1).1.obj, (hfree k k1).1.arr, (hfree k k1).1.fro⟩, (hfree k k1).2⟩) hfin
    rw [List.range_eq_range']
    rw [← hlen, Array.length_toList] at this
    exact this
  | true =>
    refine wp_region_any h3 ?_
    rw [haft rfl] at hok
    have h0 : ∀ j, dOf (Array.replicate os.size false) j = false := by
      intro j; unfold dOf; simp [Array.getD_eq_getD_getElem?, Array.getElem?_replicate]
      split <;> rfl
    have hst0 : stD (dOf (Array.replicate os.size false)) 0 st ops outs = st := stD_none _ _ _ _ (fun j _ => h0 j)
    have hdrew : Rel C { Λ.up b' with w := { Λ.w with drawn := Λ.w.drawn + 1 } } st a := by
      have hk : Kp (Λ.up b') { Λ.up b' with w := { Λ.w with drawn := Λ.w.drawn + 1 } } :=
        ⟨⟨rfl, rfl, rfl, Nat.le_refl _, fun _ _ _ h => ⟨h, rfl⟩, fun _ _ _ _ h o ho => ⟨by simp [Rd, h, ho], rfl⟩⟩, Nat.le_refl _, fun _ _ _ h => h, fun _ _ _ _ _ h _ => ⟨h, rfl⟩, fun _ _ => Nat.le_refl _⟩
      refine ⟨hr'.kp.trans hk, hr'.size, hr'.defers, fun t => (hr'.env t).mono hk, hr'.s.step hk rfl (fun k o ho => .inl ⟨ho, fun _ _ => rfl, rfl⟩) hr'.s.inj hr'.s.new hr'.s.bnd hr'.s.frz⟩
    have := drawn_ops (Q := Post C Q) h4 hd hres hch (hok rfl) (Nat.le_refl _) hfin os.size (Array.replicate os.size false) { Λ.up b' with w := { Λ.w with drawn := Λ.w.drawn + 1 } } a (by simp) (by rw [unl_all (fun j _ => h0 j)]; exact Nat.le_refl _)
      (fun i hi => by rw [h0] at hi; cases hi) (by rw [hst0]; exact hdrew) rfl (fun i o _ _ k k1 k2 => by
        rw [hst0]
        have hk : st.s.nxt ≤ k := by omega
        exact ⟨⟨(hfree k hk).1.obj, (hfree k hk).1.arr, (hfree k hk).1.fro⟩, (hfree k hk).2⟩)
    exact this

end
end Go.GB
