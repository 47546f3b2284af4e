import Derived.Test.YtgelingkifafeaaGreatDoorBu49
/- The law Opens: all its ways. -/
namespace Go.Proofs.YtgelingkifafeaaGreatDoor
open Go Go.RowKit Go.Proofs Lin

theorem opens_walk (D L G dr bl ca D' L' G' : Int) (w : World) (hg : Laid w) : Calls Tryz.prog 3 #[PV D L G, I dr, I bl, I ca, PV D' L' G'] w (LawTrue w) := by
  obtain ⟨n, hn, en⟩ := pick20 dr 20 (by omega) (by omega)
  obtain ⟨m, hm, em⟩ := pick20 bl 40 (by omega) (by omega)
  have en : wrap64 ((IntKind.u64.wrap dr).tmod 20) = (n : Int) := en
  have em : wrap64 ((IntKind.u64.wrap bl).tmod 40) = (m : Int) := em
  by_cases hR : RightI D L G
  · obtain ⟨D, L, G, rfl, rfl, rfl, hR⟩ := hR
    by_cases h0 : ca < 0
    · exact opens_c0 D L G dr bl ca D' L' G' w hg n m hn hm en em hR h0
    by_cases h1 : 64 < ca
    · exact opens_c1 D L G dr bl ca D' L' G' w hg n m hn hm en em hR h1
    obtain ⟨c, rfl⟩ := Int.eq_ofNat_of_zero_le (Int.not_lt.1 h0)
    have hc : c ≤ 64 := by omega
    by_cases hN : n = D + L + G
    · by_cases h8 : m < 8
      · exact opens_bl D L G c dr bl D' L' G' w hg n m hn hm en em hR hc hN h8
      · exact opens_ok D L G c dr bl D' L' G' w hg n m hn hm en em hR hc hN (by omega)
    · exact opens_dr D L G c dr bl D' L' G' w hg n m hn hm en em hR hc hN
  · exact opens_par D L G dr bl ca D' L' G' w hg n m hn hm en em hR
end Go.Proofs.YtgelingkifafeaaGreatDoor
