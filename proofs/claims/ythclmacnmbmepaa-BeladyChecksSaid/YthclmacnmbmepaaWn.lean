import Derived.Test.YthclmacnmbmepaaWm
namespace Go.Proofs.Ythclmacnmbmepaa
open Go.RowKit Bel Go.Maps Go.Shelf

/-- Does 'turn' refuse? -/
def badTurn (S : List Int) (k : Int) (x : Turn) : Bool := (x.hit != decide (k ∈ S)) || (x.hit && x.left) || (!x.left && !(x.out == 0)) || (x.left && !decide (x.out ∈ S))
def nextS (S : List Int) (k : Int) (x : Turn) : List Int := wo (if x.left = true then wo S x.out else S) k ++ [k]


set_option maxRecDepth 100000 in
set_option maxHeartbeats 1000000 in
theorem turn_hit (b n : Nat) (S : List Int) (k xo : Int) (xh xl : Bool) (w : World) (hm : SetM w b n S) (hk : (Lit.int .u32 k).wf = true) (p : Bool) (hp : p = decide (k ∈ S)) (hb : (xh == p) = false) :
    Calls Try.prog 41 #[.map (some b), .int .u32 k, .agg #[.bool xh, .bool xl, .int .u32 xo]] w fun e w' => e = .returned (.bool false) ∧ w.grownBy w' none := by
  have hlk := (hm.alloc (.cells #[.bool xh, .bool xl, .int .u32 xo] 50)).look hk
  rw [← hp] at hlk
  clear hm hk hp
  cases xh <;> cases p <;> simp at hb
  all_goals
    go_enter Try.func41, Try.ntmps41
    go_wp2

    go_ret
    exact ⟨rfl, World.grownBy_alloc _ _ _⟩

set_option maxRecDepth 100000 in
set_option maxHeartbeats 1000000 in
theorem turn_both (b n : Nat) (S : List Int) (k xo : Int) (w : World) (hm : SetM w b n S) (hk : (Lit.int .u32 k).wf = true) (p : Bool) (hp : p = decide (k ∈ S)) (hb : p = true) :
    Calls Try.prog 41 #[.map (some b), .int .u32 k, .agg #[.bool true, .bool true, .int .u32 xo]] w fun e w' => e = .returned (.bool false) ∧ w.grownBy w' none := by
  have hlk := (hm.alloc (.cells #[.bool true, .bool true, .int .u32 xo] 50)).look hk
  rw [← hp, hb] at hlk
  clear hm hk hp hb
  go_enter Try.func41, Try.ntmps41
  go_wp2
  go_ret
  exact ⟨rfl, World.grownBy_alloc _ _ _⟩

set_option maxRecDepth 100000 in
set_option maxHeartbeats 1000000 in
theorem turn_out (b n : Nat) (S : List Int) (k xo : Int) (xh : Bool) (w : World) (hm : SetM w b n S) (hk : (Lit.int .u32 k).wf = true) (p : Bool) (hp : p = decide (k ∈ S)) (hb : p = xh) (h0 : (xo == 0) = false) :
    Calls Try.prog 41 #[.map (some b), .int .u32 k, .agg #[.bool xh, .bool false, .int .u32 xo]] w fun e w' => e = .returned (.bool false) ∧ w.grownBy w' none := by
  have hlk := (hm.alloc (.cells #[.bool xh, .bool false, .int .u32 xo] 50)).look hk
  rw [← hp, hb] at hlk
  clear hm hk hp hb
  have h1 : ¬ xo = 0 := by simpa using h0
  cases xh
  all_goals
    go_enter Try.func41, Try.ntmps41
    go_wp2
    go_ret
    exact ⟨rfl, World.grownBy_alloc _ _ _⟩

set_option maxRecDepth 100000 in
set_option maxHeartbeats 1000000 in
theorem turn_lacks (b n : Nat) (S : List Int) (k xo : Int) (w : World) (hm : SetM w b n S) (hk : (Lit.int .u32 k).wf = true) (hxo : (Lit.int .u32 xo).wf = true) (p : Bool) (hp : p = decide (k ∈ S)) (hb : p = false) (q : Bool) (hq : q = decide (xo ∈ S)) (hq0 : q = false) :
    Calls Try.prog 41 #[.map (some b), .int .u32 k, .agg #[.bool false, .bool true, .int .u32 xo]] w fun e w' => e = .returned (.bool false) ∧ w.grownBy w' none := by
  have hlk := (hm.alloc (.cells #[.bool false, .bool true, .int .u32 xo] 50)).look hk
  have hlo := (hm.alloc (.cells #[.bool false, .bool true, .int .u32 xo] 50)).look hxo
  rw [← hp, hb] at hlk
  rw [← hq, hq0] at hlo
  clear hm hk hp hb hq hq0
  go_enter Try.func41, Try.ntmps41
  go_wp2
  go_ret
  exact ⟨rfl, World.grownBy_alloc _ _ _⟩

set_option maxRecDepth 100000 in
set_option maxHeartbeats 1000000 in
theorem turn_ok (b n : Nat) (S : List Int) (k xo : Int) (xh xl : Bool) (w : World) (hm : SetM w b n S) (hk : (Lit.int .u32 k).wf = true) (hxo : (Lit.int .u32 xo).wf = true) (hn : n < maxLen) (p : Bool) (hp : p = decide (k ∈ S)) (q : Bool) (hq : q = decide (xo ∈ S))
    (hb : p = xh) (h2 : (xh && xl) = false) (h3 : xl = true → q = true) (h4 : xl = false → (xo == 0) = true) :
    Calls Try.prog 41 #[.map (some b), .int .u32 k, .agg #[.bool xh, .bool xl, .int .u32 xo]] w fun e w' => e = .returned (.bool true) ∧ SetM w' b (n + 1) (wo (if xl = true then wo S xo else S) k ++ [k]) ∧ w.grownBy w' (some b) := by
  have hm1 := (hm.alloc (.cells #[.bool xh, .bool xl, .int .u32 xo] 50))
  have hlk := hm1.look hk
  have hlo := hm1.look hxo
  rw [← hp, hb] at hlk
  rw [← hq] at hlo
  have HN := Lib.hid hn
  have HM := Lib.hid hm1
  have HG := Lib.hid (World.grownBy_alloc w (.cells #[.bool xh, .bool xl, .int .u32 xo] 50) (some b))
  have HW := Lib.hid hk
  have HXW := Lib.hid hxo
  have HX : Hid (xl = true → xo ∈ S) := Lib.hid (fun e => by have := h3 e; rw [hq] at this; simpa using this)
  have HB := Lib.hid (Blk.new w 50 #[.bool xh, .bool xl, .int .u32 xo])
  clear hm1 hp hq hb hm hn
  have key : ∀ w1, (w.alloc (.cells #[.bool xh, .bool xl, .int .u32 xo] 50)).grownBy w1 (some b) → SetM w1 b n (if xl = true then wo S xo else S) →
      ∃ w2, (Instr.mapUpdate 73 (.map (some b)) (.int .u32 k) (.bool true)).run Try.prog w1 = .ok () w2 ∧ SetM w2 b (n + 1) (wo (if xl = true then wo S xo else S) k ++ [k]) ∧ w.grownBy w2 (some b) := by
    intro w1 hg1 hs1
    obtain ⟨w2, hrun, hs2, hg2⟩ := hs1.put HW.out HN.out
    exact ⟨w2, hrun, hs2, (HG.out.andThen hg1 (fun j hj => Or.inr hj)).andThen hg2 (fun j hj => Or.inr hj)⟩
  have hcall : Calls Try.prog 48 #[.map (some b), .func (.func 49) #[] #[.pointer (some ⟨w.heap.size, 0, none⟩)]] (w.alloc (.cells #[.bool xh, .bool xl, .int .u32 xo] 50)) fun e w' => e = .returned (.tuple #[]) ∧
      SetM w' b n (if xl = true then wo S xo else S) ∧ (w.alloc (.cells #[.bool xh, .bool xl, .int .u32 xo] 50)).grownBy w' (some b) := by
    obtain ⟨D, d1, d2, d3, d4⟩ := HM.out
    refine (deleteFunc_any b n D xo xh xl w.heap.size _ d1 HB.out (fun e => ?_)).mono ?_
    · rw [(d2 xo hxo).1]; simpa using HX.out e
    · rintro e w' ⟨rfl, h1, hg⟩
      exact ⟨rfl, SetM.del d2 d3 d4 d1 hxo HX.out h1, hg⟩
  have HC := Lib.hid hcall
  have HK := Lib.hid key
  clear hcall key
  cases xh <;> cases xl <;> simp at h2 h3 h4
  all_goals (try subst h3)
  all_goals (try subst h4)
  all_goals
    go_enter Try.func41, Try.ntmps41
    go_wp2_with fail
    refine (HC.out).mono ?_
    rintro e w1 ⟨rfl, hs1, hg1⟩
    obtain ⟨w2, hrun, hs2, hg2⟩ := HK.out w1 hg1 hs1
    clear hg1 hs1
    go_wp2
    go_ret
    exact ⟨rfl, hs2, hg2⟩
end Go.Proofs.Ythclmacnmbmepaa
