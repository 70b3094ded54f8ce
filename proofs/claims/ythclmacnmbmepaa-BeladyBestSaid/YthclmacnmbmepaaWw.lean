import Derived.Test.YthclmacnmbmepaaWv
namespace Go.Proofs.Ythclmacnmbmepaa
open Go.RowKit Bel Go.Maps Go.Shelf

theorem cl_step (l : Lay) (ok : Ok l) (a : Nat) (ha : a < l.n) (ih : ClAt l (a + 1)) : ClAt l a := by
  intro b q w hb hm hL hs hq
  have hB2 : Below l.L w (w2 w a b) := ((Below.refl _ w).alloc hL _).alloc (by simp; omega) _
  rcases (hs.below hB2).K.look (a := a) (b := b) (Nat.le_trans (Nat.le_of_lt ha) ok.n14) (lt14 hb ok.k14) with ⟨v0, hlk⟩ | hlk
  · cases hbit : b.testBit (l.ks.idxOf (nth l.tr a)) with
    | true => exact cl_hit l ok a b q w v0 ha hb hm hL hs hq hlk ih hbit
    | false =>
      by_cases hroom : (sel l.ks b).length < l.s
      · exact cl_room l ok a b q w v0 ha hb hm hL hs hq hlk ih hbit hroom
      · exact cl_full l ok a b q w v0 ha hb hm hL hs hq hlk ih hbit hroom
  · exact cl_known l a b q w ha hL hs hlk
theorem cl_all (l : Lay) (ok : Ok l) : ∀ m a : Nat, a + m = l.n → ClAt l a := by
  intro m
  induction m with
  | zero => intro a h; have : a = l.n := by omega
            subst this; exact cl_end l ok
  | succ m ih => intro a h; exact cl_step l ok a (by omega) (ih (a + 1) (by omega))
end Go.Proofs.Ythclmacnmbmepaa
