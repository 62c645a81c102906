/- SettleEnd: the models of the program and of the reference agree. -/
import Derived.Test.YtgmbcolpchckbaaPureF
namespace Go.Proofs.Ytgmbcolpchckbaa
open Go Go.RowKit
set_option linter.unusedSimpArgs false
set_option linter.unusedVariables false

theorem SettleEnd_eq (t : TileSet) (a b : Str) (hl : t.Letters.length ≤ 8000000000000000000) (ha : a.length ≤ 8000000000000000000) (hb : b.length ≤ 8000000000000000000) : ∃ v, m_impl_SettleEnd t a b = some v ∧ m_spec_SettleEnd t a b = some v := by
  unfold m_impl_SettleEnd m_spec_SettleEnd
  rw [ValidTiles_eq t hl, l02Ok_eq t hl, ValidRack_eq a ha, ValidRack_eq b hb, l03Rack_eq a ha, l03Rack_eq b hb]
  cases ht : tilesOkB t
  · exact ⟨_, rfl, rfl⟩
  cases h1 : rackB a
  · exact ⟨_, rfl, rfl⟩
  cases h2 : rackB b
  · exact ⟨_, rfl, rfl⟩
  unfold rackB at h1 h2
  have l1 := of_decide_eq_true (Bool.and_eq_true_iff.1 h1).2
  have l2 := of_decide_eq_true (Bool.and_eq_true_iff.1 h2).2
  have w1 := worthTo_in ht a a.length
  have w2 := worthTo_in ht b b.length
  unfold m_spec_l22Settle
  simp only [Option.bind_some, Bool.not_true, cond_false, lettersValue_eq ht a (by omega), lettersValue_eq ht b (by omega), l02Sum_eq ht a (by omega), l02Sum_eq ht b (by omega), chk_in (by omega : -9000000000000000000 ≤ worthTo t b b.length - worthTo t a a.length) (by omega)]
  exact ⟨_, rfl, rfl⟩
theorem m_laws_FnExactSettleEnd_true (t : TileSet) (a b : Str) (h : Lies TileSetRep t) (h' : Lies strRep a) (h'' : Lies strRep b) : m_laws_FnExactSettleEnd t a b = some true := by
  unfold m_laws_FnExactSettleEnd
  by_cases ha : 1048576 < (a.length : Int)
  · rw [decide_eq_true ha]; rfl
  rw [decide_eq_false ha, cond_false]
  by_cases hb : 1048576 < (b.length : Int)
  · rw [decide_eq_true hb]; rfl
  rw [decide_eq_false hb, cond_false]
  rw [sz_sub (bulk_TileSet t) 1048576 (by omega) (szTileSet_eq t h 1048576 (by omega) (by omega))]
  split
  case isFalse => rfl
  rename_i hc
  have hs := sm_TileSet_of (x := t) (by omega)
  unfold bulk_TileSet at hc
  obtain ⟨v, h1, h2⟩ := SettleEnd_eq t a b (by omega) (by omega) (by omega)
  simp only [toTileSet_eq t hs, Option.bind_some, h1, h2, eqTileSet_eq _ _ hs, decide_true, Bool.not_true, cond_false, bne_self_eq_false]

end Go.Proofs.Ytgmbcolpchckbaa
