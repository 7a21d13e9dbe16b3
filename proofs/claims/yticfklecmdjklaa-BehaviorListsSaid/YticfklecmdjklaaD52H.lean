/-
  D52H: chapter 52's data out of shapes.
-/
import Derived.Test.YticfklecmdjklaaD52G
import Derived.Test.YticfklecmdjklaaGbZA
namespace Go.GB.C52
open Go.GB

def behSh : List Sh := [.int .i64, .int .i64, .int .i64, .int .i64, .int .i64, .str]
theorem beh_of {ts : List T} (h : Sh.oks behSh ts) : ∃ b : Beh, ts = b.enc ∧ b.ok := by
  obtain ⟨x1, ts, rfl, ⟨a1, rfl, _⟩, h1⟩ := Sh.oks_cons h
  obtain ⟨x2, ts, rfl, ⟨a2, rfl, _⟩, h2⟩ := Sh.oks_cons h1
  obtain ⟨x3, ts, rfl, ⟨a3, rfl, _⟩, h3⟩ := Sh.oks_cons h2
  obtain ⟨x4, ts, rfl, ⟨a4, rfl, _⟩, h4⟩ := Sh.oks_cons h3
  obtain ⟨x5, ts, rfl, ⟨a5, rfl, _⟩, h5⟩ := Sh.oks_cons h4
  obtain ⟨x6, ts, rfl, ⟨s, rfl, hs⟩, h6⟩ := Sh.oks_cons h5
  obtain rfl := Sh.oks_nil h6
  exact ⟨⟨a1, a2, a3, a4, a5, s⟩, rfl, by unfold Beh.ok; simp only; unfold maxLen at hs; omega⟩
theorem behs_of {ts : List T} (h : Sh.oks [.lst behSh] ts) : ∃ l : List Beh, ts = [.lst (l.map Beh.enc)] ∧ ∀ b ∈ l, b.ok := by
  obtain ⟨x, ts, rfl, ⟨xs, rfl, _, hc⟩, h1⟩ := Sh.oks_cons h
  obtain rfl := Sh.oks_nil h1
  obtain ⟨l, rfl, hl⟩ := choose_map xs fun c hcm => beh_of (hc c hcm)
  exact ⟨l, rfl, hl⟩
theorem int_of {ts : List T} (h : Sh.oks [.int .i64] ts) : ∃ n, ts = [.int .i64 n] := by
  obtain ⟨x1, ts, rfl, ⟨a1, rfl, _⟩, h1⟩ := Sh.oks_cons h
  obtain rfl := Sh.oks_nil h1
  exact ⟨_, rfl⟩
theorem str_of {ts : List T} (h : Sh.oks [.str] ts) : ∃ s, ts = [.str s] := by
  obtain ⟨x1, ts, rfl, ⟨a1, rfl, _⟩, h1⟩ := Sh.oks_cons h
  obtain rfl := Sh.oks_nil h1
  exact ⟨_, rfl⟩
theorem two_of {ts : List T} (h : Sh.oks [.int .i64, .int .i64] ts) : ∃ a b, ts = [.int .i64 a, .int .i64 b] := by
  obtain ⟨x1, ts, rfl, ⟨a1, rfl, _⟩, h1⟩ := Sh.oks_cons h
  obtain ⟨b, rfl⟩ := int_of h1
  exact ⟨_, _, rfl⟩
theorem three_of {ts : List T} (h : Sh.oks [.int .i64, .int .i64, .int .i64] ts) : ∃ a b c, ts = [.int .i64 a, .int .i64 b, .int .i64 c] := by
  obtain ⟨x1, ts, rfl, ⟨a1, rfl, _⟩, h1⟩ := Sh.oks_cons h
  obtain ⟨b, c, rfl⟩ := two_of h1
  exact ⟨_, _, _, rfl⟩
end Go.GB.C52
