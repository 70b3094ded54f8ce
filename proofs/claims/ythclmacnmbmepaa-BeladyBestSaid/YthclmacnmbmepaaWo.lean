import Derived.Test.YthclmacnmbmepaaWn
namespace Go.Proofs.Ythclmacnmbmepaa
open Go.RowKit Bel Go.Maps Go.Shelf

/-- Does 'turn' refuse? -/
def bad (S : List Int) (k : Int) (xh xl : Bool) (xo : Int) : Bool := (xh != decide (k ∈ S) || xh && xl || !xl && xo != 0) || (xl && !decide (xo ∈ S))

theorem turn_bad (b n : Nat) (S : List Int) (k xo : Int) (xh xl : Bool) (w : World) (hm : SetM w b n S) (hk : (Lit.int .u32 k).wf = true) (hxo : (Lit.int .u32 xo).wf = true) (h : bad S k xh xl xo = true) :
    Calls Try.prog 41 #[.map (some b), .int .u32 k, .agg #[.bool xh, .bool xl, .int .u32 xo]] w fun e w' => e = .returned (.bool false) ∧ w.grownBy w' none := by
  unfold bad at h
  by_cases h1 : (xh == decide (k ∈ S)) = false
  · exact turn_hit b n S k xo xh xl w hm hk _ rfl h1
  have h1' : decide (k ∈ S) = xh := by simpa using (show (xh == decide (k ∈ S)) = true by simpa using h1) |> fun e => (by simpa using e : xh = decide (k ∈ S)).symm
  cases xl with
  | false =>
    have h0 : (xo == 0) = false := by rw [h1'] at h; simpa using h
    exact turn_out b n S k xo xh w hm hk _ rfl h1' h0
  | true =>
    cases xh with
    | true => exact turn_both b n S k xo w hm hk _ rfl h1'
    | false =>
      rw [h1'] at h
      exact turn_lacks b n S k xo w hm hk hxo _ rfl h1' _ rfl (by simpa using h)

theorem turn_good (b n : Nat) (S : List Int) (k xo : Int) (xh xl : Bool) (w : World) (hm : SetM w b n S) (hk : (Lit.int .u32 k).wf = true) (hxo : (Lit.int .u32 xo).wf = true) (hn : n < maxLen) (h : bad S k xh xl xo = false) :
    Calls Try.prog 41 #[.map (some b), .int .u32 k, .agg #[.bool xh, .bool xl, .int .u32 xo]] w fun e w' => e = .returned (.bool true) ∧ SetM w' b (n + 1) (wo (if xl = true then wo S xo else S) k ++ [k]) ∧ w.grownBy w' (some b) := by
  unfold bad at h
  have h1 : decide (k ∈ S) = xh := by
    cases xh <;> cases hd : decide (k ∈ S) <;> simp_all
  rw [h1] at h
  refine turn_ok b n S k xo xh xl w hm hk hxo hn _ rfl _ rfl h1 ?_ ?_ ?_
  · cases xh <;> cases xl <;> simp_all
  · cases xh <;> cases xl <;> simp_all
  · cases xh <;> cases xl <;> simp_all

theorem SetM.drewN {w : World} {b n : Nat} {S : List Int} (h : SetM w b n S) (q : Nat) : SetM (w.drewN q) b n S := h
theorem SetM.len {w : World} {b n : Nat} {S : List Int} (h : SetM w b n S) (ty : TypeId) : (Builtin.len_ #[73] ty #[.map (some b)]).run Try.prog w = .ok (.int .i64 S.length) w := by
  obtain ⟨D, h1, _, h3, _⟩ := h
  rw [h1.len Try.underlying73, h3]
section
variable {s k : Nat} {tr : List Int} {ts : List Turn} {S : List Int} {xh xl : Bool} {xo : Int}
theorem chk_bad (hk : k < tr.length) (hk' : k < ts.length) (hx : tnth ts k = ⟨xh, xl, xo⟩) (h : bad S (nth tr k) xh xl xo = true) : chk s (tr.drop k) (ts.drop k) S = false := by
  unfold bad at h
  rw [Bool.or_eq_true] at h
  rcases h with h | h
  · exact chk_one hk hk' hx h
  · exact chk_two hk hk' hx h
theorem chk_full (hk : k < tr.length) (hk' : k < ts.length) (hx : tnth ts k = ⟨xh, xl, xo⟩) (h : ((wo (if xl = true then wo S xo else S) (nth tr k) ++ [nth tr k]).length > s)) : chk s (tr.drop k) (ts.drop k) S = false := by
  exact chk_three hk hk' hx h
theorem chk_on (hk : k < tr.length) (hk' : k < ts.length) (hx : tnth ts k = ⟨xh, xl, xo⟩) (h : bad S (nth tr k) xh xl xo = false) (h3 : ¬ (wo (if xl = true then wo S xo else S) (nth tr k) ++ [nth tr k]).length > s) :
    chk s (tr.drop k) (ts.drop k) S = chk s (tr.drop (k + 1)) (ts.drop (k + 1)) (wo (if xl = true then wo S xo else S) (nth tr k) ++ [nth tr k]) := by
  unfold bad at h
  rw [Bool.or_eq_false_iff] at h
  exact chk_next hk hk' hx h.1 h.2 h3
end
end Go.Proofs.Ythclmacnmbmepaa
