/-
  GbJ: every operation that only computes does what its evaluation says.
-/
import Derived.Test.YticfklecmdjklaaGbI
namespace Go.GB
section
variable {P : Program} {ops : Array Oper} {o : Oper} {gc : Bool} {st : St}

theorem e_ext {x : Operand} {ix : Nat} {x' : Ar} {vs : List V} {v : V} {p : List Bool} (ho : o.op = .extract x ix) (hx : opA x = some x') (h1 : rd gc st x' = (.tup vs, p)) (hp : ∀ q ∈ p, q) (hv : vs[ix]? = some v) : ESound P o gc st v := by
  intro C Λ ac _ hg h
  have hx1 := rd_sound h hx h1 hp hg
  generalize hv' : ac.eval x = u at hx1
  cases hx1 with
  | @tup us _ hs h' =>
    have hlt := (List.getElem?_eq_some_iff.1 hv).1
    have hg' : us[ix]? = some (us[ix]'(by omega)) := by simp
    refine ⟨_, ?_, h' _ _ v hg' hv⟩
    simp only [execOp, ho, hv']
    simp [Instr.extract, hg']

theorem evalE_sound {aop : AOp} {v : V} {ps : List Bool} (hres : resOp P ops o = some aop) (he : evalE gc st aop = some (v, ps)) (hp : ∀ q ∈ ps, q) : ESound P o gc st v := by
  unfold resOp at hres
  split at hres
  · rename_i t hop
    simp at hres; subst hres; simp only [evalE, Option.some.injEq] at he
    exact e_mv (x := .s t) (p := ps) (.inl hop) rfl he hp
  · rename_i t hop
    simp at hres; subst hres; simp only [evalE, Option.some.injEq] at he
    exact e_mv (x := .s t) (p := ps) (.inr hop) rfl he hp
  · rename_i c hop
    simp only [Option.map_eq_some_iff] at hres
    obtain ⟨x, hx, rfl⟩ := hres
    simp [evalE] at he; obtain ⟨rfl, rfl⟩ := he
    exact e_cst (.inl hop) (fun _ => .of_litV hx)
  · rename_i c hop
    simp only [Option.map_eq_some_iff] at hres
    obtain ⟨x, hx, rfl⟩ := hres
    simp [evalE] at he; obtain ⟨rfl, rfl⟩ := he
    exact e_cst (.inr hop) (fun _ => .of_litV hx)
  · rename_i f hop
    simp at hres; subst hres
    simp [evalE] at he; obtain ⟨rfl, rfl⟩ := he
    exact e_mv (v := .t (.fn f)) (x := .c (.t (.fn f))) (p := []) (.inl hop) rfl rfl (by simp)
  · rename_i f hop
    simp at hres; subst hres
    simp [evalE] at he; obtain ⟨rfl, rfl⟩ := he
    exact e_mv (v := .t (.fn f)) (x := .c (.t (.fn f))) (p := []) (.inr hop) rfl rfl (by simp)
  · -- pick
    rename_i c a b hop
    simp only [Option.bind_eq_bind, Option.bind_eq_some_iff, Option.some.injEq] at hres
    obtain ⟨c', hc, a', ha, b', hb, rfl⟩ := hres
    simp only [evalE] at he
    split at he
    · rename_i cb p1 hc1
      split at he
      · rename_i h2 h3
        simp only [Option.some.injEq, Prod.mk.injEq] at he; obtain ⟨rfl, rfl⟩ := he
        exact e_pick hop hc ha hb hc1 h2 h3 hp
      · rename_i h2 h3
        simp only [Option.some.injEq, Prod.mk.injEq] at he; obtain ⟨rfl, rfl⟩ := he
        exact e_pick1 hop hc ha hc1 h2 hp
      · rename_i h2 h3
        simp only [Option.some.injEq, Prod.mk.injEq] at he; obtain ⟨rfl, rfl⟩ := he
        exact e_pick2 hop hc hb hc1 h3 hp
      · simp at he
    · simp at he
  · -- unOp
    rename_i op ty x hop
    simp only [Option.bind_eq_bind, Option.bind_eq_some_iff, Option.some.injEq] at hres
    obtain ⟨x', hx, rfl⟩ := hres
    cases op with
    | not =>
      simp only [evalE] at he
      split at he
      · rename_i h1; simp only [Option.some.injEq, Prod.mk.injEq] at he; obtain ⟨rfl, rfl⟩ := he; exact e_not hop hx h1 hp
      · simp at he
    | neg =>
      simp only [evalE] at he
      split at he
      · rename_i h1; simp only [Option.some.injEq, Prod.mk.injEq] at he; obtain ⟨rfl, rfl⟩ := he; exact e_neg hop hx h1 hp
      · simp at he
    | _ => simp [evalE] at he
  · -- binOp
    rename_i op xt x y ty hop
    have hbin : ∀ aop, ((opA x).bind fun a => (opA y).bind fun b => some (AOp.bin op a b)) = some aop → evalE gc st aop = some (v, ps) → ESound P o gc st v := by
      intro aop h1 h2
      simp only [Option.bind_eq_some_iff, Option.some.injEq] at h1
      obtain ⟨x', hx, y', hy, rfl⟩ := h1
      simp only [evalE] at h2
      split at h2
      · rename_i a p1 b p2 e1 e2
        simp only [Option.map_eq_some_iff] at h2
        obtain ⟨⟨r, p3⟩, hb, h2⟩ := h2
        simp at h2; obtain ⟨rfl, rfl⟩ := h2
        exact e_bin hop hx hy e1 e2 hb hp
      · simp at h2
    split at hres
    · exact hbin _ hres he
    · exact hbin _ hres he
    · rename_i hu
      split at hres
      · simp only [Option.bind_eq_bind, Option.bind_eq_some_iff, Option.some.injEq] at hres
        obtain ⟨x', hx, y', hy, rfl⟩ := hres
        simp only [evalE] at he
        split at he
        · rename_i e1 e2; simp only [Option.some.injEq, Prod.mk.injEq] at he; obtain ⟨rfl, rfl⟩ := he; exact e_eqb (neg := false) hu hop hx hy e1 e2 hp
        · simp at he
      · simp only [Option.bind_eq_bind, Option.bind_eq_some_iff, Option.some.injEq] at hres
        obtain ⟨x', hx, y', hy, rfl⟩ := hres
        simp only [evalE] at he
        split at he
        · rename_i e1 e2; simp only [Option.some.injEq, Prod.mk.injEq] at he; obtain ⟨rfl, rfl⟩ := he
          have := e_eqb (neg := true) hu hop hx hy e1 e2 hp
          simpa using this
        · simp at he
      · simp at hres
    · rename_i e hu
      have key : ∀ neg, o.op = .binOp (if neg then .neq else .eql) xt x (.const (.pointer none)) ty → ∀ x', opA x = some x' → evalE gc st (.eqp neg x') = some (v, ps) → ESound P o gc st v := by
        intro neg hop x' hx he
        simp only [evalE] at he
        split at he
        · simp only [Option.some.injEq, Prod.mk.injEq] at he; obtain ⟨rfl, rfl⟩ := he
          exact e_eqn (neg := neg) (.inl ⟨⟨_, hu⟩, rfl⟩) hop hx (by assumption) hp (.inl ⟨rfl, .inl ⟨rfl, rfl⟩⟩)
        · simp only [Option.some.injEq, Prod.mk.injEq] at he; obtain ⟨rfl, rfl⟩ := he
          exact e_eqn (neg := neg) (.inl ⟨⟨_, hu⟩, rfl⟩) hop hx (by assumption) hp (.inl ⟨rfl, .inr (.inl ⟨⟨_, _, rfl⟩, rfl⟩)⟩)
        · simp only [Option.some.injEq, Prod.mk.injEq] at he; obtain ⟨rfl, rfl⟩ := he
          exact e_eqn (neg := neg) (.inl ⟨⟨_, hu⟩, rfl⟩) hop hx (by assumption) hp (.inl ⟨rfl, .inr (.inr ⟨⟨_, rfl⟩, rfl⟩)⟩)
        · simp at he
      split at hres
      · simp only [Option.bind_eq_bind, Option.bind_eq_some_iff, Option.some.injEq] at hres
        obtain ⟨x', hx, rfl⟩ := hres
        exact key false hop x' hx he
      · simp only [Option.bind_eq_bind, Option.bind_eq_some_iff, Option.some.injEq] at hres
        obtain ⟨x', hx, rfl⟩ := hres
        exact key true hop x' hx he
      · simp at hres
    · rename_i k e hu
      have key : ∀ neg, o.op = .binOp (if neg then .neq else .eql) xt x (.const (.map none)) ty → ∀ x', opA x = some x' → evalE gc st (.eqm neg x') = some (v, ps) → ESound P o gc st v := by
        intro neg hop x' hx he
        simp only [evalE] at he
        split at he
        · simp only [Option.some.injEq, Prod.mk.injEq] at he; obtain ⟨rfl, rfl⟩ := he
          exact e_eqn (neg := neg) (.inr ⟨⟨_, _, hu⟩, rfl⟩) hop hx (by assumption) hp (.inr ⟨rfl, .inl ⟨rfl, rfl⟩⟩)
        · simp only [Option.some.injEq, Prod.mk.injEq] at he; obtain ⟨rfl, rfl⟩ := he
          exact e_eqn (neg := neg) (.inr ⟨⟨_, _, hu⟩, rfl⟩) hop hx (by assumption) hp (.inr ⟨rfl, .inr ⟨⟨_, rfl⟩, rfl⟩⟩)
        · simp at he
      split at hres
      · simp only [Option.bind_eq_bind, Option.bind_eq_some_iff, Option.some.injEq] at hres
        obtain ⟨x', hx, rfl⟩ := hres
        exact key false hop x' hx he
      · simp only [Option.bind_eq_bind, Option.bind_eq_some_iff, Option.some.injEq] at hres
        obtain ⟨x', hx, rfl⟩ := hres
        exact key true hop x' hx he
      · simp at hres
    · simp at hres
  · -- convert
    rename_i src dst x hop
    split at hres
    · rename_i k1 k hs hd
      simp only [Option.bind_eq_bind, Option.bind_eq_some_iff, Option.some.injEq] at hres
      obtain ⟨x', hx, rfl⟩ := hres
      simp only [evalE] at he
      split at he
      · rename_i h1; simp only [Option.some.injEq, Prod.mk.injEq] at he; obtain ⟨rfl, rfl⟩ := he; exact e_conv hs hd hop hx h1 hp
      · simp at he
    · rename_i hs hd
      simp only [Option.bind_eq_bind, Option.bind_eq_some_iff, Option.some.injEq] at hres
      obtain ⟨x', hx, rfl⟩ := hres
      simp only [evalE] at he
      split at he
      · rename_i h1; simp only [Option.some.injEq, Prod.mk.injEq] at he; obtain ⟨rfl, rfl⟩ := he; exact e_convs hs hd hop hx h1 hp ⟨_, rfl⟩
      · simp at he
    · simp at hres
  · -- nilCheck
    rename_i x hop
    simp only [Option.bind_eq_bind, Option.bind_eq_some_iff, Option.some.injEq] at hres
    obtain ⟨x', hx, rfl⟩ := hres
    simp only [evalE] at he
    split at he
    · rename_i h1; simp only [Option.some.injEq, Prod.mk.injEq] at he; obtain ⟨rfl, rfl⟩ := he; exact e_nilck hop hx h1 hp (.inl ⟨_, _, rfl⟩)
    · rename_i h1; simp only [Option.some.injEq, Prod.mk.injEq] at he; obtain ⟨rfl, rfl⟩ := he; exact e_nilck hop hx h1 hp (.inr (.inl ⟨_, rfl⟩))
    · rename_i h1; simp only [Option.some.injEq, Prod.mk.injEq] at he; obtain ⟨rfl, rfl⟩ := he; exact e_nilck hop hx h1 hp (.inr (.inr (.inl ⟨_, rfl⟩)))
    · rename_i h1; simp only [Option.some.injEq, Prod.mk.injEq] at he; obtain ⟨rfl, rfl⟩ := he; exact e_nilck hop hx h1 hp (.inr (.inr (.inr ⟨_, _, rfl⟩)))
    · simp at he
  · -- fieldAddr
    rename_i s x f hop
    split at hres
    · rename_i fs hu
      simp only [Option.bind_eq_bind, Option.bind_eq_some_iff] at hres
      obtain ⟨fd, hf, n, hn, hres⟩ := hres
      split at hres
      · simp at hres
      · rename_i h0
        simp only [Option.bind_eq_some_iff, Option.some.injEq] at hres
        obtain ⟨x', hx, rfl⟩ := hres
        simp only [evalE] at he
        split at he
        · rename_i h1; simp only [Option.some.injEq, Prod.mk.injEq] at he; obtain ⟨rfl, rfl⟩ := he; exact e_fa hu hf hn h0 hop hx h1 hp (.inl ⟨_, _, rfl, rfl⟩)
        · rename_i h1; simp only [Option.some.injEq, Prod.mk.injEq] at he; obtain ⟨rfl, rfl⟩ := he; exact e_fa hu hf hn h0 hop hx h1 hp (.inr ⟨_, rfl, rfl⟩)
        · simp at he
    · simp at hres
  · -- load
    rename_i t x hop
    simp only [Option.bind_eq_bind, Option.bind_eq_some_iff] at hres
    obtain ⟨n, hn, hres⟩ := hres
    split at hres
    · simp at hres
    · rename_i d hu
      split at hres
      · rename_i hag
        simp only [Option.bind_eq_some_iff, Option.some.injEq] at hres
        obtain ⟨x', hx, rfl⟩ := hres
        simp only [evalE, if_true] at he
        split at he
        · rename_i h1
          split at he
          · rename_i hle; simp only [Option.some.injEq, Prod.mk.injEq] at he; obtain ⟨rfl, rfl⟩ := he; exact e_ld_vpa hn hag hop hx h1 hp hle
          · simp at he
        · rename_i h1
          split at he
          · rename_i hk
            split at he
            · rename_i hle; simp only [Option.some.injEq, Prod.mk.injEq] at he; obtain ⟨rfl, rfl⟩ := he; exact e_ld_ptra hn hag hop hx h1 hp hk hle
            · simp at he
          · simp at he
        · simp at he
      · rename_i hag
        have hag' : isAggT P t = false := by simpa using hag
        simp only [Option.bind_eq_some_iff, Option.some.injEq] at hres
        obtain ⟨x', hx, rfl⟩ := hres
        simp only [evalE, Bool.false_eq_true, if_false] at he
        split at he
        · rename_i h1
          split at he
          · rename_i hc; simp only [Option.some.injEq, Prod.mk.injEq] at he; obtain ⟨rfl, rfl⟩ := he; exact e_ld_vp hu hag' hop hx h1 hp hc
          · simp at he
        · rename_i h1
          split at he
          · rename_i hk
            split at he
            · rename_i hc; simp only [Option.some.injEq, Prod.mk.injEq] at he; obtain ⟨rfl, rfl⟩ := he; exact e_ld_ptr hu hag' hop hx h1 hp hk hc
            · simp at he
          · simp at he
        · simp at he
  · -- store
    simp only [Option.bind_eq_bind, Option.bind_eq_some_iff, Option.some.injEq] at hres
    obtain ⟨_, _, _, _, _, _, rfl⟩ := hres
    simp [evalE] at he
  · -- indexAddr
    rename_i t x ix hop
    split at hres
    · rename_i e hu
      simp only [Option.bind_eq_bind, Option.bind_eq_some_iff, Option.some.injEq] at hres
      obtain ⟨sz, hs, x', hx, i', hi, rfl⟩ := hres
      simp only [evalE] at he
      split at he
      · rename_i w p1 k n p2 h1 h2
        split at he
        · split at he
          · rename_i hsz; subst hsz; simp only [Option.some.injEq, Prod.mk.injEq] at he; obtain ⟨rfl, rfl⟩ := he; exact e_ia_slc hu hs hop hx hi h1 h2 hp
          · simp at he
        · split at he
          · rename_i hv
            split at he
            · rename_i hc
              split at he
              · rename_i hsz; simp only [Option.some.injEq, Prod.mk.injEq] at he; obtain ⟨rfl, rfl⟩ := he; exact e_ia hu hs hop hx hi h1 h2 hv hc hsz hp
              · simp at he
            · simp at he
          · simp at he
      · simp at he
    · rename_i m e hu
      simp only [Option.bind_eq_bind, Option.bind_eq_some_iff, Option.some.injEq] at hres
      obtain ⟨sz, hs, x', hx, i', hi, rfl⟩ := hres
      simp only [evalE] at he
      split at he
      · rename_i h1 h2; simp only [Option.some.injEq, Prod.mk.injEq] at he; obtain ⟨rfl, rfl⟩ := he; exact e_iarr hu hs hop hx hi h1 h2 hp (.inl ⟨_, _, rfl, rfl⟩)
      · rename_i h1 h2; simp only [Option.some.injEq, Prod.mk.injEq] at he; obtain ⟨rfl, rfl⟩ := he; exact e_iarr hu hs hop hx hi h1 h2 hp (.inr ⟨_, rfl, rfl⟩)
      · simp at he
    · simp at hres
  · -- index
    rename_i t x ix hop
    split at hres
    · rename_i hu
      simp only [Option.bind_eq_bind, Option.bind_eq_some_iff, Option.some.injEq] at hres
      obtain ⟨x', hx, i', hi, rfl⟩ := hres
      simp only [evalE] at he
      split at he
      · rename_i h1 h2
        split at he
        · rename_i hb; simp only [Option.some.injEq, Prod.mk.injEq] at he; obtain ⟨rfl, rfl⟩ := he; exact e_ixs hu hop hx hi h1 h2 hb hp
        · simp at he
      · simp at he
    · rename_i m e hu
      split at hres
      · simp at hres
      · rename_i d hd
        simp only [Option.bind_eq_bind, Option.bind_eq_some_iff, Option.some.injEq] at hres
        obtain ⟨sz, hs, x', hx, i', hi, rfl⟩ := hres
        simp only [evalE] at he
        split at he
        · rename_i h1 h2
          split at he
          · rename_i hag
            split at he
            · rename_i hle; simp only [Option.some.injEq, Prod.mk.injEq] at he; obtain ⟨rfl, rfl⟩ := he; exact e_ixaa hu hs hag hop hx hi h1 h2 hle hp
            · simp at he
          · rename_i hag
            split at he
            · rename_i hc; simp only [Option.some.injEq, Prod.mk.injEq] at he; obtain ⟨rfl, rfl⟩ := he; exact e_ixa hu hs hd (by simpa using hag) hop hx hi h1 h2 hc hp
            · simp at he
        · simp at he
    · simp at hres
  · -- slice
    rename_i t x lo hi hop
    split at hres
    · rename_i hu
      simp only [Option.bind_eq_bind, Option.bind_eq_some_iff, Option.some.injEq] at hres
      obtain ⟨l', hl, h', hh, x', hx, rfl⟩ := hres
      simp only [evalE] at he
      split at he
      · rename_i h1
        split at he
        · rename_i h2 h3; simp only [Option.some.injEq, Prod.mk.injEq] at he; obtain ⟨rfl, rfl⟩ := he; exact e_sls hu hop hx hl hh h1 h2 h3 hp
        · simp at he
      · simp at he
    · rename_i e hu
      simp only [Option.bind_eq_bind, Option.bind_eq_some_iff, Option.some.injEq] at hres
      obtain ⟨l', hl, h', hh, sz, hs, x', hx, rfl⟩ := hres
      simp only [evalE] at he
      generalize hr : rd gc st x' = r at he
      obtain ⟨v', p'⟩ := r
      simp only at he
      split at he
      · rename_i h1
        split at he
        · rename_i h2 h3; simp only [Option.some.injEq, Prod.mk.injEq] at he; obtain ⟨rfl, rfl⟩ := he; exact e_sll hu hs hop hx hl hh hr h1 h2 h3 hp
        · simp at he
      · simp at he
    · simp at hres
  · -- field
    rename_i t x f hop
    split at hres
    · rename_i fs hu
      simp only [Option.bind_eq_bind, Option.bind_eq_some_iff] at hres
      obtain ⟨fd, hf, n, hn, hres⟩ := hres
      split at hres
      · simp at hres
      · rename_i d hd
        simp only [Option.bind_eq_some_iff, Option.some.injEq] at hres
        obtain ⟨x', hx, rfl⟩ := hres
        simp only [evalE] at he
        split at he
        · rename_i h1
          split at he
          · rename_i hag
            split at he
            · rename_i hle; simp only [Option.some.injEq, Prod.mk.injEq] at he; obtain ⟨rfl, rfl⟩ := he; exact e_flda hu hf hn hag hop hx h1 hp hle
            · simp at he
          · rename_i hag
            split at he
            · rename_i hc; simp only [Option.some.injEq, Prod.mk.injEq] at he; obtain ⟨rfl, rfl⟩ := he; exact e_fld hu hf hd (by simpa using hag) hop hx h1 hp hc
            · simp at he
        · simp at he
    · simp at hres
  · -- build
    rename_i t parts hop
    split at hres
    · rename_i fs hu
      simp only [Option.bind_eq_bind, Option.bind_eq_some_iff, Option.some.injEq] at hres
      obtain ⟨pl, hpl, zs, hz, ps', hps, rfl⟩ := hres
      simp only [evalE] at he
      split at he
      · rename_i hf; simp only [Option.some.injEq, Prod.mk.injEq] at he; obtain ⟨rfl, rfl⟩ := he; exact e_build hop hz (.inl ⟨fs, pl, hu, hpl, hps⟩) hf hp
      · simp at he
    · rename_i m e hu
      simp only [Option.bind_eq_bind, Option.bind_eq_some_iff, Option.some.injEq] at hres
      obtain ⟨sz, hs, zs, hz, ps', hps, rfl⟩ := hres
      simp only [evalE] at he
      split at he
      · rename_i hf; simp only [Option.some.injEq, Prod.mk.injEq] at he; obtain ⟨rfl, rfl⟩ := he; exact e_build hop hz (.inr ⟨m, e, sz, hu, hs, hps⟩) hf hp
      · simp at he
    · simp at hres
  · -- makeFunc
    rename_i f first caps hop
    split at hres
    · rename_i hfirst
      simp only [Option.bind_eq_bind, Option.bind_eq_some_iff, Option.some.injEq] at hres
      obtain ⟨caps', hc, rfl⟩ := hres
      simp only [evalE] at he
      split at he
      · rename_i hcs; simp only [Option.some.injEq, Prod.mk.injEq] at he; obtain ⟨rfl, rfl⟩ := he; exact e_mkfn hop hfirst hc hcs
      · simp at he
    · simp at hres
  · simp only [Option.bind_eq_bind, Option.bind_eq_some_iff, Option.some.injEq] at hres
    obtain ⟨_, _, rfl⟩ := hres
    simp [evalE] at he
  · simp only [Option.bind_eq_bind, Option.bind_eq_some_iff, Option.some.injEq] at hres
    obtain ⟨_, _, _, _, rfl⟩ := hres
    simp [evalE] at he
  · split at hres
    · simp only [Option.bind_eq_bind, Option.bind_eq_some_iff] at hres
      obtain ⟨_, _, _, _, _, _, hres⟩ := hres
      split at hres
      · simp only [Option.bind_eq_some_iff, Option.some.injEq] at hres
        obtain ⟨_, _, rfl⟩ := hres
        simp [evalE] at he
      · simp at hres
    · simp at hres
  · -- extract
    rename_i x ix hop
    simp only [Option.bind_eq_bind, Option.bind_eq_some_iff, Option.some.injEq] at hres
    obtain ⟨x', hx, rfl⟩ := hres
    simp only [evalE] at he
    split at he
    · rename_i h1
      split at he
      · rename_i hv; simp only [Option.some.injEq, Prod.mk.injEq] at he; obtain ⟨rfl, rfl⟩ := he; exact e_ext hop hx h1 hp hv
      · simp at he
    · simp at he
  · split at hres
    · simp at hres; subst hres; simp [evalE] at he
    · simp at hres
  · split at hres
    · simp only [Option.bind_eq_bind, Option.bind_eq_some_iff] at hres
      obtain ⟨_, _, hres⟩ := hres
      split at hres
      · simp only [Option.bind_eq_some_iff, Option.some.injEq] at hres
        obtain ⟨_, _, rfl⟩ := hres
        simp [evalE] at he
      · simp at hres
    · simp at hres
  · -- len
    rename_i args ats hop
    split at hres
    · rename_i t x hat ha
      split at hres
      · rename_i hu
        simp only [Option.bind_eq_bind, Option.bind_eq_some_iff, Option.some.injEq] at hres
        obtain ⟨x', hx, rfl⟩ := hres
        simp only [evalE] at he
        split at he
        · rename_i h1; simp only [Option.some.injEq, Prod.mk.injEq] at he; obtain ⟨rfl, rfl⟩ := he; exact e_len ha hat hu (.inl rfl) hop hx h1 hp (.inl ⟨rfl, _, rfl, rfl⟩)
        · simp at he
      · rename_i hu
        simp only [Option.bind_eq_bind, Option.bind_eq_some_iff, Option.some.injEq] at hres
        obtain ⟨x', hx, rfl⟩ := hres
        simp only [evalE] at he
        split at he
        · rename_i h1; simp only [Option.some.injEq, Prod.mk.injEq] at he; obtain ⟨rfl, rfl⟩ := he; exact e_len ha hat hu (.inr ⟨_, rfl⟩) hop hx h1 hp (.inr ⟨⟨_, rfl⟩, .inl ⟨_, rfl, rfl⟩⟩)
        · rename_i h1; simp only [Option.some.injEq, Prod.mk.injEq] at he; obtain ⟨rfl, rfl⟩ := he; exact e_len ha hat hu (.inr ⟨_, rfl⟩) hop hx h1 hp (.inr ⟨⟨_, rfl⟩, .inl ⟨_, rfl, rfl⟩⟩)
        · rename_i h1; simp only [Option.some.injEq, Prod.mk.injEq] at he; obtain ⟨rfl, rfl⟩ := he; exact e_len (n := 0) ha hat hu (.inr ⟨_, rfl⟩) hop hx h1 hp (.inr ⟨⟨_, rfl⟩, .inl ⟨[], rfl, rfl⟩⟩)
        · rename_i h1; simp only [Option.some.injEq, Prod.mk.injEq] at he; obtain ⟨rfl, rfl⟩ := he; exact e_len ha hat hu (.inr ⟨_, rfl⟩) hop hx h1 hp (.inr ⟨⟨_, rfl⟩, .inr ⟨_, _, _, rfl⟩⟩)
        · simp at he
      · simp only [Option.bind_eq_bind, Option.bind_eq_some_iff, Option.some.injEq] at hres
        obtain ⟨_, _, rfl⟩ := hres
        simp [evalE] at he
      · simp at hres
    · simp at hres
  · -- max
    rename_i args _ hop
    split at hres
    · rename_i x y ha
      simp only [Option.bind_eq_bind, Option.bind_eq_some_iff, Option.some.injEq] at hres
      obtain ⟨x', hx, y', hy, rfl⟩ := hres
      simp only [evalE] at he
      split at he
      · rename_i h1 h2
        split at he
        · rename_i hk; subst hk; simp only [Option.some.injEq, Prod.mk.injEq] at he; obtain ⟨rfl, rfl⟩ := he; exact e_max (b := true) ha hop hx hy h1 h2 hp
        · simp at he
      · simp at he
    · simp at hres
  · -- min
    rename_i args _ hop
    split at hres
    · rename_i x y ha
      simp only [Option.bind_eq_bind, Option.bind_eq_some_iff, Option.some.injEq] at hres
      obtain ⟨x', hx, y', hy, rfl⟩ := hres
      simp only [evalE] at he
      split at he
      · rename_i h1 h2
        split at he
        · rename_i hk; subst hk; simp only [Option.some.injEq, Prod.mk.injEq] at he; obtain ⟨rfl, rfl⟩ := he
          have := e_max (P := P) (b := false) ha hop hx hy h1 h2 hp
          simpa using this
        · simp at he
      · simp at he
    · simp at hres
  · split at hres
    · split at hres
      · split at hres
        · simp only [Option.bind_eq_bind, Option.bind_eq_some_iff] at hres
          obtain ⟨_, _, _, _, hres⟩ := hres
          split at hres
          · simp at hres
          · simp only [Option.bind_eq_some_iff, Option.some.injEq] at hres
            obtain ⟨_, _, _, _, rfl⟩ := hres
            simp [evalE] at he
        · simp at hres
      · simp at hres
    · simp at hres
  · simp only [Option.bind_eq_bind, Option.bind_eq_some_iff, Option.some.injEq] at hres
    obtain ⟨_, _, rfl⟩ := hres
    simp [evalE] at he
  · simp only [Option.bind_eq_bind, Option.bind_eq_some_iff, Option.some.injEq] at hres
    obtain ⟨_, _, rfl⟩ := hres
    simp [evalE] at he
  · simp at hres

end
end Go.GB
