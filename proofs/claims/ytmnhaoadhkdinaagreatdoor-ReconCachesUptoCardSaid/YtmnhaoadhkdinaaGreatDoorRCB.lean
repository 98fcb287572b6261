/- A part of the proof of the law ReconCaches. CONDITIONS: those that each theorem names. -/
import Derived.Test.YtmnhaoadhkdinaaGreatDoorRCB6
namespace Go.Proofs.YtmnhaoadhkdinaaGreatDoor
open Go.ChangeShapes Go.WideShapes Go.ChangeAt Go.RowKit Go.Ai
set_option maxRecDepth 100000
theorem law_closed : joinedFacts Tryz.prog 3 Tryz.f3 (Rows.OpenSpec.upto Rows.reconCachesSpec).bare Rows.reconCachesUptoRow = true := by
  have h5 := closed5; have h6 := closed6; have h7 := closed7; have h8 := closed8; have h9 := closed9; have h11 := closed11; have h14 := closed14; have h15 := closed15
  have h1 := closed1; have h2 := closed2; have h3 := closed3; have h4 := closed4; have h10 := closed10; have h12 := closed12; have h13 := closed13
  unfold joinedFacts
  simp only [Bool.and_eq_true] at h5 h6 h7 h8 h9 h11 h14 h15 ⊢
  obtain ⟨⟨a1, a2⟩, a3⟩ := h5
  obtain ⟨b1, b2⟩ := h6
  obtain ⟨⟨⟨c1, c2⟩, c3⟩, c4⟩ := h7
  obtain ⟨⟨⟨⟨d1, d2⟩, d3⟩, d4⟩, d5⟩ := h8
  obtain ⟨⟨⟨e1, e2⟩, e3⟩, e4⟩ := h9
  obtain ⟨f1, f2⟩ := h11
  obtain ⟨⟨g1, g2⟩, g3⟩ := h14
  obtain ⟨i1, i2⟩ := h15
  exact ⟨⟨⟨⟨⟨⟨⟨⟨⟨⟨⟨⟨⟨⟨⟨⟨⟨⟨⟨⟨⟨⟨⟨⟨⟨⟨⟨⟨⟨⟨⟨a1, a2⟩, a3⟩, b1⟩, b2⟩, c1⟩, c2⟩, c3⟩, c4⟩, h1⟩, h2⟩, h3⟩, h4⟩, d1⟩, d2⟩, d3⟩, d4⟩, d5⟩, e1⟩, e2⟩, e3⟩, e4⟩, h10⟩, f1⟩, f2⟩, h12⟩, h13⟩, g1⟩, g2⟩, g3⟩, i1⟩, i2⟩
end Go.Proofs.YtmnhaoadhkdinaaGreatDoor

