/- How what came in reads: rules, events, calls, slices of them. No condition. -/
import Derived.Test.YtfimgkjdfjlkhaaMs
import Derived.Test.YtfimgkjdfjlkhaaRows
import Derived.ProofKit
import Derived.SizedLaws
import Derived.OpenShut
import Derived.Carry
import Derived.ChangeSlices
import Derived.ChangeCalls
namespace Go.Proofs.Ytfimgkjdfjlkhaa
open Go.ChangeShapes Go.WideShapes Go.ChangeAt Go.RowKit Go.Deep

theorem own : ownKnob Try.prog.godebug = none := by kernel_rfl
theorem laidOut_ : laidOutB Try.prog = true := by kernel_rfl
theorem cells5 : Try.prog.cellsOf 5 = 1 := by kernel_rfl
theorem cells25 : Try.prog.cellsOf 25 = 1 := by kernel_rfl
theorem cells3 : Try.prog.cellsOf 3 = 1 := by kernel_rfl
theorem cells4 : Try.prog.cellsOf 4 = 1 := by kernel_rfl
theorem cells9 : Try.prog.cellsOf 9 = 1 := by kernel_rfl
theorem cells22 : Try.prog.cellsOf 22 = 1 := by kernel_rfl
theorem cells24 : Try.prog.cellsOf 24 = 4 := by kernel_rfl
theorem cells26 : Try.prog.cellsOf 26 = 1 := by kernel_rfl
theorem cells27 : Try.prog.cellsOf 27 = 1 := by kernel_rfl
theorem cells28 : Try.prog.cellsOf 28 = 1 := by kernel_rfl
theorem cells30 : Try.prog.cellsOf 30 = 6 := by kernel_rfl
theorem cells38 : Try.prog.cellsOf 38 = 1 := by kernel_rfl
theorem cells50 : Try.prog.cellsOf 50 = 8 := by kernel_rfl
section
variable {H : Type} {enc : TypeId × Value → H}
theorem trodAll_stays {W W' : World} {sp : Nat → Bool} : ∀ {ts : List TypeId} {vs : List Value} {ds : List (DataW H)} {ps : List MemPlace}, (∀ t ∈ ts, Try.prog.readableRec t = true ∧ t < Try.prog.types.size) →
    DataW.TrodAll enc Try.prog W 0 (fun _ => true) true ts vs ds ps → (∀ p ∈ ps, W.sameAt W' p) → (∀ p ∈ ps, sp p.block = true) → DataW.TrodAll enc Try.prog W' 0 sp true ts vs ds ps
  | [], vs, ds, ps, _, h, _, _ => by
    obtain ⟨rfl, rfl, rfl⟩ := trodAll_nil h
    exact trodAll_mk0
  | t :: ts, vs, ds, ps, ht, h, h1, h2 => by
    obtain ⟨v, vs', d, ds', p, q, rfl, rfl, rfl, h3, h4⟩ := trodAll_cons h
    have hm := ht t (List.mem_cons_self ..)
    exact trodAll_cons_mk (WideElems.Trod_stays laidOut_ hm.1 hm.2 h3 (fun x hx => h1 x (List.mem_append_left _ hx)) (fun x hx => h2 x (List.mem_append_left _ hx)))
      (trodAll_stays (fun t ht' => ht t (List.mem_cons_of_mem _ ht')) h4 (fun x hx => h1 x (List.mem_append_right _ hx)) (fun x hx => h2 x (List.mem_append_right _ hx)))
set_option maxRecDepth 100000 in
/-- The last step of each law: true, and all that came in reads as before. -/
theorem law_done {f : Func} {s : ChangeSpec} {fresh handsOn again : Bool} {W W' : World} {args : Array Value} {ds gs : List (DataW H)} {before : List MemPlace}
    (hv : s.vars = []) (hr : f.resultTypes = #[4]) (hrd : ∀ t ∈ f.params.toList, Try.prog.readableRec t = true ∧ t < Try.prog.types.size)
    (hfn : ∀ ds : List (DataW H), ds.length = f.params.size → s.fn H ds = { results := [.lit (.bool true)], args := ds })
    (hW : DataW.Whole enc Try.prog f.params.toList s.vars false W args.toList ds gs before) (hb : Below W.heap.size W W') :
    s.post enc Try.prog f false fresh handsOn again W args (.bool true) W' := by
  have hW0 := hW
  obtain ⟨p, q, hA, hV, rfl, hfz, hnd⟩ := hW
  rw [hv] at hV
  obtain ⟨rfl, rfl⟩ := trodVars_none hV
  have hlt : ∀ x ∈ p, x.block < W.heap.size := fun x hx => hW0.lt x (List.mem_append_left _ hx)
  have hlen : ds.length = f.params.size := by rw [(trodAll_length hA).2]; simp
  have e := hfn ds hlen
  refine post_of_below (pa := p) (pv := []) hW0 ?_ ?_ ?_ rfl hb (ok_one hr rfl (okWide_bool_mk Try.underlying4 _))
  · intro b sp hd
    rw [List.append_nil, e, hr]
    exact trodAll_mk1 (shut_bool Try.underlying4 _)
  · intro sp hsp
    rw [List.append_nil, e]
    exact trodAll_stays hrd hA (fun x hx => hb.same (hlt x hx)) (fun x hx => hsp x (List.mem_append_left _ hx))
  · intro sp _
    rw [List.append_nil, e, hv]
    rfl
end
section
variable {H : Type} {enc : TypeId × Value → H} {W : World} {fuel : Nat} {cs : List Value} {x : DataW H × List MemPlace}
/-- A slice of whole numbers that came in. -/
theorem rd_ints {t e : TypeId} {k : IntKind} (ht : Try.prog.underlying t = some (.slice e)) (he : Try.prog.underlying e = some (.int k)) (hc : Try.prog.cellsOf e = 1) (h : DataW.trod enc Try.prog W 0 (fun _ => true) true fuel t cs = some x) :
    ∃ A c zs, cs = [.slice A zs.length c] ∧ Reads W W.heap.size 1 A zs.length (ints k zs) ∧ (∀ z ∈ zs, (Lit.int k z).wf = true) ∧ zs.length ≤ maxLen ∧ (A = none → zs.length = 0 ∧ c = 0) := by
  rcases open_ints ht he hc h with ⟨hcs, hx⟩ | ⟨a, len', cap', zs, hcs, _, hl, hm, hz, hx, hcell, hwz⟩
  · exact ⟨none, 0, [], hcs, Reads.none_, by simp, by simp, fun _ => ⟨rfl, rfl⟩⟩
  · simp only [if_true] at hz
    have hzl : (zs.take len').length = len' := by simp; omega
    refine ⟨some a, cap', zs.take len', by rw [hzl]; exact hcs, ?_, fun z hz' => hwz z (List.mem_of_mem_take hz'), by omega, fun e => by cases e⟩
    rw [hzl]
    refine ⟨by simp [ints]; omega, fun hn => ⟨a, rfl, ?_, fun j u hu => ?_⟩⟩
    · have := cell_lt (hcell 0 (by omega))
      rwa [block_of_add] at this
    · have hj : j < len' := by
        have := (List.getElem?_eq_some_iff.1 hu).1
        simp [ints] at this; omega
      rw [hcell j (by omega)]
      unfold ints at hu
      rw [List.getElem?_map, List.getElem?_take_of_lt hj] at hu
      rw [List.getD]
      cases hz' : zs[j]? with
      | none => rw [hz'] at hu; cases hu
      | some z => rw [hz'] at hu; simpa using hu
/-- A slice of what lies in k cells each. -/
theorem rd_rows {α : Type} (z : α) (cells : α → List Value) {k : Nat} (hk : ∀ a, (cells a).length = k) (hk0 : 0 < k) (Q : α → Prop) {t e : TypeId} (ht : Try.prog.underlying t = some (.slice e)) (hc : Try.prog.cellsOf e = k)
    (hrd : ∀ (fuel : Nat) (cs : List Value) (x : DataW H × List MemPlace), DataW.trod enc Try.prog W 0 (fun _ => true) true fuel e cs = some x → ∃ a, cs = cells a ∧ Q a)
    (h : DataW.trod enc Try.prog W 0 (fun _ => true) true fuel t cs = some x) :
    ∃ (A : Option Addr) (c : Nat) (xs : List α), cs = [.slice A xs.length c] ∧ Reads W W.heap.size k A xs.length (xs.flatMap cells) ∧ (∀ a ∈ xs, Q a) ∧ xs.length ≤ maxLen ∧ (A = none → xs.length = 0 ∧ c = 0) := by
  rcases open_slice ht h with ⟨hcs, hx⟩ | ⟨a, len, cap, m, n, D, Pl, hcs, _, hl, hm, hmm, hx, hi⟩
  · exact ⟨none, 0, [], hcs, ⟨by simp, fun hn => absurd hn (by simp)⟩, by simp, by simp, fun _ => ⟨rfl, rfl⟩⟩
  · simp only [if_true] at hmm
    rw [hc] at hi
    have hex : ∀ i : Nat, ∃ b : α, i < len → Q b ∧ ∀ j, j < k → W.cell? ((a.add (i * k)).add j) = (cells b)[j]? := by
      intro i
      by_cases hil : i < len
      · obtain ⟨cs', hc', ht'⟩ := hi i (by omega)
        obtain ⟨b, rfl, hq⟩ := hrd _ _ _ ht'
        exact ⟨b, fun _ => ⟨hq, (World.cells?_some hc').2.2⟩⟩
      · exact ⟨z, fun e => absurd e hil⟩
    let F : Nat → α := fun i => (hex i).choose
    have hF : ∀ i, i < len → Q (F i) ∧ ∀ j, j < k → W.cell? ((a.add (i * k)).add j) = (cells (F i))[j]? := fun i => (hex i).choose_spec
    have hlen : ((List.range len).map F).length = len := by simp
    have hfl : ∀ l : List α, (l.flatMap cells).length = l.length * k := fun l => by
      induction l with
      | nil => simp
      | cons b l ih => rw [List.flatMap_cons, List.length_append, ih, hk, List.length_cons, Nat.succ_mul]; omega
    have hat : ∀ (l : List α) (i j : Nat), i < l.length → j < k → (l.flatMap cells)[i * k + j]? = (l[i]?).bind fun b => (cells b)[j]? := fun l => by
      induction l with
      | nil => intro i j hi; simp at hi
      | cons b l ih =>
        intro i j hi hj
        rw [List.flatMap_cons]
        cases i with
        | zero => rw [Nat.zero_mul, Nat.zero_add, List.getElem?_append_left (by rw [hk]; exact hj)]; rfl
        | succ i =>
          rw [List.getElem?_append_right (by rw [hk, Nat.succ_mul]; omega), hk, show (i + 1) * k + j - k = i * k + j by rw [Nat.succ_mul]; omega, ih i j (by simpa using hi) hj]
          rfl
    refine ⟨some a, cap, (List.range len).map F, by rw [hlen]; exact hcs, ?_, ?_, by omega, fun e => by cases e⟩
    · rw [hlen]
      refine ⟨by rw [hfl, hlen], fun hn => ⟨a, rfl, ?_, fun j u hu => ?_⟩⟩
      · have h0 := (hF 0 hn).2 0 hk0
        rw [List.getElem?_eq_getElem (by rw [hk]; exact hk0)] at h0
        have := cell_lt h0
        rwa [block_of_add, block_of_add] at this
      · have hj : j < len * k := by
          have := (List.getElem?_eq_some_iff.1 hu).1
          rw [hfl, hlen] at this; exact this
        have hd : j / k < len := by rw [Nat.div_lt_iff_lt_mul hk0]; exact hj
        have hmd : j % k < k := Nat.mod_lt _ hk0
        have hjj : j / k * k + j % k = j := by rw [Nat.mul_comm]; exact Nat.div_add_mod j k
        have h1 := hat ((List.range len).map F) (j / k) (j % k) (by rw [hlen]; exact hd) hmd
        rw [hjj, hu, List.getElem?_map, List.getElem?_range hd] at h1
        have h2 := (hF _ hd).2 _ hmd
        rw [add_of_add, hjj] at h2
        rw [h2, h1]
        rfl
    · intro b hb
      obtain ⟨i, hi', rfl⟩ := List.mem_map.1 hb
      exact (hF i (by simpa using hi')).1
theorem list4 {α : Type} : ∀ {l : List α}, l.length = 4 → ∃ a b c d, l = [a, b, c, d]
  | [a, b, c, d], _ => ⟨a, b, c, d, rfl⟩
theorem list6 {α : Type} : ∀ {l : List α}, l.length = 6 → ∃ a b c d e f, l = [a, b, c, d, e, f]
  | [a, b, c, d, e, f], _ => ⟨a, b, c, d, e, f, rfl⟩
theorem list8 {α : Type} : ∀ {l : List α}, l.length = 8 → ∃ a b c d e f g h, l = [a, b, c, d, e, f, g, h]
  | [a, b, c, d, e, f, g, h], _ => ⟨a, b, c, d, e, f, g, h, rfl⟩
/-- The numbers of an event are such as its types hold. -/
structure EvWf (e : Ev) : Prop where
  kind : (Lit.int .i64 e.kind).wf = true
  val : ∀ z ∈ e.val, (Lit.int .u8 z).wf = true
  birth : (Lit.int .u64 e.birth).wf = true
  due : (Lit.int .u64 e.due).wf = true
  at_ : (Lit.int .u64 e.at_).wf = true
/-- What holds of an event that came in. -/
structure HvIn (W : World) (h : Hv) : Prop where
  ok : h.Ok W W.heap.size
  wf : EvWf h.e
  len : h.e.val.length ≤ maxLen
theorem rd_event (h : DataW.trod enc Try.prog W 0 (fun _ => true) true fuel 30 cs = some x) : ∃ h : Hv, cs = h.cells ∧ HvIn W h := by
  obtain ⟨xs, n, _, _, hcl, hxl, hf⟩ := DataW.trod_struct Try.underlying30 h
  rw [cells30] at hcl
  obtain ⟨c0, c1, c2, c3, c4, c5, rfl⟩ := list6 hcl
  obtain ⟨y0, y1, y2, y3, y4, y5, rfl⟩ := list6 (show xs.length = 6 from hxl)
  have h0 : DataW.trod enc Try.prog W 0 (fun _ => true) true n 25 [c0] = some y0 := by
    have q : DataW.trod enc Try.prog W 0 (fun _ => true) true n 25 (([c0, c1, c2, c3, c4, c5].drop 0).take (Try.prog.cellsOf 25)) = [y0, y1, y2, y3, y4, y5][0]? := hf 0 _ rfl
    rw [cells25] at q
    exact q
  have h1 : DataW.trod enc Try.prog W 0 (fun _ => true) true n 9 [c1] = some y1 := by
    have q : DataW.trod enc Try.prog W 0 (fun _ => true) true n 9 (([c0, c1, c2, c3, c4, c5].drop 1).take (Try.prog.cellsOf 9)) = [y0, y1, y2, y3, y4, y5][1]? := hf 1 _ rfl
    rw [cells9] at q
    exact q
  have h2 : DataW.trod enc Try.prog W 0 (fun _ => true) true n 26 [c2] = some y2 := by
    have q : DataW.trod enc Try.prog W 0 (fun _ => true) true n 26 (([c0, c1, c2, c3, c4, c5].drop 2).take (Try.prog.cellsOf 26)) = [y0, y1, y2, y3, y4, y5][2]? := hf 2 _ rfl
    rw [cells26] at q
    exact q
  have h3 : DataW.trod enc Try.prog W 0 (fun _ => true) true n 27 [c3] = some y3 := by
    have q : DataW.trod enc Try.prog W 0 (fun _ => true) true n 27 (([c0, c1, c2, c3, c4, c5].drop 3).take (Try.prog.cellsOf 27)) = [y0, y1, y2, y3, y4, y5][3]? := hf 3 _ rfl
    rw [cells27] at q
    exact q
  have h4 : DataW.trod enc Try.prog W 0 (fun _ => true) true n 28 [c4] = some y4 := by
    have q : DataW.trod enc Try.prog W 0 (fun _ => true) true n 28 (([c0, c1, c2, c3, c4, c5].drop 4).take (Try.prog.cellsOf 28)) = [y0, y1, y2, y3, y4, y5][4]? := hf 4 _ rfl
    rw [cells28] at q
    exact q
  have h5 : DataW.trod enc Try.prog W 0 (fun _ => true) true n 28 [c5] = some y5 := by
    have q : DataW.trod enc Try.prog W 0 (fun _ => true) true n 28 (([c0, c1, c2, c3, c4, c5].drop 5).take (Try.prog.cellsOf 28)) = [y0, y1, y2, y3, y4, y5][5]? := hf 5 _ rfl
    rw [cells28] at q
    exact q
  obtain ⟨kd, e0, _, w0⟩ := DataW.trod_int Try.underlying25 h0
  obtain ⟨key, e1, _, w1⟩ := DataW.trod_string Try.underlying9 h1
  obtain ⟨A, c, zs, e2, hr, hz, hl, hn⟩ := rd_ints Try.underlying26 Try.underlying5 cells5 h2
  obtain ⟨bi, e3, _, w3⟩ := DataW.trod_int Try.underlying27 h3
  obtain ⟨du, e4, _, w4⟩ := DataW.trod_int Try.underlying28 h4
  obtain ⟨at_, e5, _, w5⟩ := DataW.trod_int Try.underlying28 h5
  simp only [List.cons.injEq, and_true] at e0 e1 e2 e3 e4 e5
  subst e0 e1 e2 e3 e4 e5
  exact ⟨⟨⟨kd, key, zs, bi, du, at_⟩, A, c⟩, rfl, ⟨hr, w1, hn⟩, ⟨w0, hz, w3, w4, w5⟩, hl⟩
/-- What holds of a rule that came in. -/
structure RiIn (W : World) (r : Ri) : Prop where
  kinds : Reads W W.heap.size 1 r.kA r.kinds.length (ints .i64 r.kinds)
  wf : ∀ z ∈ r.kinds, (Lit.int .i64 z).wf = true
  len : r.kinds.length ≤ maxLen
  nil : r.kA = none → r.kinds.length = 0 ∧ r.kc = 0
  room : (Lit.int .i64 r.room).wf = true
  pre : r.pre.size ≤ maxLen
theorem rd_rule (h : DataW.trod enc Try.prog W 0 (fun _ => true) true fuel 24 cs = some x) : ∃ r : Ri, cs = r.cells.toList ∧ RiIn W r := by
  obtain ⟨xs, n, _, _, hcl, hxl, hf⟩ := DataW.trod_struct Try.underlying24 h
  rw [cells24] at hcl
  obtain ⟨c0, c1, c2, c3, rfl⟩ := list4 hcl
  obtain ⟨y0, y1, y2, y3, rfl⟩ := list4 (show xs.length = 4 from hxl)
  have h0 : DataW.trod enc Try.prog W 0 (fun _ => true) true n 9 [c0] = some y0 := by
    have q : DataW.trod enc Try.prog W 0 (fun _ => true) true n 9 (([c0, c1, c2, c3].drop 0).take (Try.prog.cellsOf 9)) = [y0, y1, y2, y3][0]? := hf 0 _ rfl
    rw [cells9] at q
    exact q
  have h1 : DataW.trod enc Try.prog W 0 (fun _ => true) true n 22 [c1] = some y1 := by
    have q : DataW.trod enc Try.prog W 0 (fun _ => true) true n 22 (([c0, c1, c2, c3].drop 1).take (Try.prog.cellsOf 22)) = [y0, y1, y2, y3][1]? := hf 1 _ rfl
    rw [cells22] at q
    exact q
  have h2 : DataW.trod enc Try.prog W 0 (fun _ => true) true n 3 [c2] = some y2 := by
    have q : DataW.trod enc Try.prog W 0 (fun _ => true) true n 3 (([c0, c1, c2, c3].drop 2).take (Try.prog.cellsOf 3)) = [y0, y1, y2, y3][2]? := hf 2 _ rfl
    rw [cells3] at q
    exact q
  have h3 : DataW.trod enc Try.prog W 0 (fun _ => true) true n 4 [c3] = some y3 := by
    have q : DataW.trod enc Try.prog W 0 (fun _ => true) true n 4 (([c0, c1, c2, c3].drop 3).take (Try.prog.cellsOf 4)) = [y0, y1, y2, y3][3]? := hf 3 _ rfl
    rw [cells4] at q
    exact q
  obtain ⟨p, e0, _, w0⟩ := DataW.trod_string Try.underlying9 h0
  obtain ⟨A, c, zs, e1, hr, hz, hl, hn⟩ := rd_ints Try.underlying22 Try.underlying25 cells25 h1
  obtain ⟨room, e2, _, w2⟩ := DataW.trod_int Try.underlying3 h2
  obtain ⟨old, e3, _⟩ := DataW.trod_bool Try.underlying4 h3
  simp only [List.cons.injEq, and_true] at e0 e1 e2 e3
  subst e0 e1 e2 e3
  exact ⟨⟨p, zs, room, old, A, c⟩, rfl, hr, hz, hl, hn, w2, w0⟩
theorem rd_events (h : DataW.trod enc Try.prog W 0 (fun _ => true) true fuel 38 cs = some x) : ∃ (A : Option Addr) (c : Nat) (hs : List Hv), cs = [.slice A hs.length c] ∧ EvsAt W W.heap.size A hs.length hs ∧ (∀ h ∈ hs, HvIn W h) ∧ hs.length ≤ maxLen ∧ (A = none → hs.length = 0 ∧ c = 0) := by
  obtain ⟨A, c, hs, e, hr, hq, hl, hn⟩ := rd_rows zeroHv Hv.cells (k := 6) (fun _ => rfl) (by omega) (HvIn W) Try.underlying38 cells30 (fun _ _ _ h => rd_event h) h
  exact ⟨A, c, hs, e, ⟨hr, fun h hh => (hq h hh).ok⟩, hq, hl, hn⟩
/-- A call of a hub, as the law's input has it. -/
structure Ac where
  what : Int
  n : Int
  m : Int
  r : Ri
  eA : Option Addr
  ec : Nat
  es : List Hv
def Ac.cells (a : Ac) : List Value := [.int .i64 a.what, .int .i64 a.n, .int .i64 a.m, .string a.r.pre, .slice a.r.kA a.r.kinds.length a.r.kc, .int .i64 a.r.room, .bool a.r.oldest, .slice a.eA a.es.length a.ec]
def Ac.v (a : Ac) : Value := .agg #[.int .i64 a.what, .int .i64 a.n, .int .i64 a.m, .string a.r.pre, .slice a.r.kA a.r.kinds.length a.r.kc, .int .i64 a.r.room, .bool a.r.oldest, .slice a.eA a.es.length a.ec]
structure AcIn (W : World) (a : Ac) : Prop where
  what : (Lit.int .i64 a.what).wf = true
  n : (Lit.int .i64 a.n).wf = true
  m : (Lit.int .i64 a.m).wf = true
  r : RiIn W a.r
  evs : EvsAt W W.heap.size a.eA a.es.length a.es
  each : ∀ h ∈ a.es, HvIn W h
  len : a.es.length ≤ maxLen
  nil : a.eA = none → a.es.length = 0 ∧ a.ec = 0
theorem rd_act (h : DataW.trod enc Try.prog W 0 (fun _ => true) true fuel 50 cs = some x) : ∃ a : Ac, cs = a.cells ∧ AcIn W a := by
  obtain ⟨xs, n, _, _, hcl, hxl, hf⟩ := DataW.trod_struct Try.underlying50 h
  rw [cells50] at hcl
  obtain ⟨c0, c1, c2, c3, c4, c5, c6, c7, rfl⟩ := list8 hcl
  have hxl5 : xs.length = 5 := hxl
  have g : ∀ i, i < 5 → ∃ y, xs[i]? = some y := fun i hi => ⟨_, List.getElem?_eq_getElem (by omega)⟩
  obtain ⟨y0, g0⟩ := g 0 (by omega)
  obtain ⟨y1, g1⟩ := g 1 (by omega)
  obtain ⟨y2, g2⟩ := g 2 (by omega)
  obtain ⟨y3, g3⟩ := g 3 (by omega)
  obtain ⟨y4, g4⟩ := g 4 (by omega)
  have h0 : DataW.trod enc Try.prog W 0 (fun _ => true) true n 3 [c0] = some y0 := by
    have q : DataW.trod enc Try.prog W 0 (fun _ => true) true n 3 (([c0, c1, c2, c3, c4, c5, c6, c7].drop 0).take (Try.prog.cellsOf 3)) = xs[0]? := hf 0 _ rfl
    rw [cells3] at q
    rw [g0] at q
    exact q
  have h1 : DataW.trod enc Try.prog W 0 (fun _ => true) true n 3 [c1] = some y1 := by
    have q : DataW.trod enc Try.prog W 0 (fun _ => true) true n 3 (([c0, c1, c2, c3, c4, c5, c6, c7].drop 1).take (Try.prog.cellsOf 3)) = xs[1]? := hf 1 _ rfl
    rw [cells3] at q
    rw [g1] at q
    exact q
  have h2 : DataW.trod enc Try.prog W 0 (fun _ => true) true n 3 [c2] = some y2 := by
    have q : DataW.trod enc Try.prog W 0 (fun _ => true) true n 3 (([c0, c1, c2, c3, c4, c5, c6, c7].drop 2).take (Try.prog.cellsOf 3)) = xs[2]? := hf 2 _ rfl
    rw [cells3] at q
    rw [g2] at q
    exact q
  have h3 : DataW.trod enc Try.prog W 0 (fun _ => true) true n 24 [c3, c4, c5, c6] = some y3 := by
    have q : DataW.trod enc Try.prog W 0 (fun _ => true) true n 24 (([c0, c1, c2, c3, c4, c5, c6, c7].drop 3).take (Try.prog.cellsOf 24)) = xs[3]? := hf 3 _ rfl
    rw [cells24] at q
    rw [g3] at q
    exact q
  have h4 : DataW.trod enc Try.prog W 0 (fun _ => true) true n 38 [c7] = some y4 := by
    have q : DataW.trod enc Try.prog W 0 (fun _ => true) true n 38 (([c0, c1, c2, c3, c4, c5, c6, c7].drop 7).take (Try.prog.cellsOf 38)) = xs[4]? := hf 4 _ rfl
    rw [cells38] at q
    rw [g4] at q
    exact q
  obtain ⟨what, e0, _, w0⟩ := DataW.trod_int Try.underlying3 h0
  obtain ⟨nn, e1, _, w1⟩ := DataW.trod_int Try.underlying3 h1
  obtain ⟨mm, e2, _, w2⟩ := DataW.trod_int Try.underlying3 h2
  obtain ⟨r, e3, hr⟩ := rd_rule h3
  obtain ⟨A, c, hs, e4, hev, heach, hlen, hnil⟩ := rd_events h4
  simp only [Ri.cells, List.cons.injEq, and_true] at e0 e1 e2 e3 e4
  obtain ⟨e3, e5, e6, e7⟩ := e3
  subst e0 e1 e2 e3 e4 e5 e6 e7
  exact ⟨⟨what, nn, mm, r, A, c, hs⟩, rfl, w0, w1, w2, hr, hev, heach, hlen, hnil⟩
theorem rd_acts (h : DataW.trod enc Try.prog W 0 (fun _ => true) true fuel 45 cs = some x) : ∃ (A : Option Addr) (c : Nat) (l : List Ac), cs = [.slice A l.length c] ∧ Reads W W.heap.size 8 A l.length (l.flatMap Ac.cells) ∧ (∀ a ∈ l, AcIn W a) ∧ l.length ≤ maxLen := by
  obtain ⟨A, c, l, e, hr, hq, hl, hn⟩ := rd_rows (⟨0, 0, 0, ⟨⟨#[]⟩, [], 0, false, none, 0⟩, none, 0, []⟩ : Ac) Ac.cells (k := 8) (fun _ => rfl) (by omega) (AcIn W) Try.underlying45 cells50 (fun _ _ _ h => rd_act h) h
  exact ⟨A, c, l, e, hr, hq, hl⟩
set_option maxRecDepth 100000 in
theorem in_rule {b0 : Nat} {v : Value} {d : DataW H} {p : List MemPlace} (hval : Value.okWide Try.prog W .any b0 24 v) (h : DataW.Trod enc Try.prog W 0 (fun _ => true) true 24 v d p) : ∃ r : Ri, v = r.v ∧ RiIn W r := by
  obtain ⟨cs, rfl, hsz⟩ := okWide_struct Try.underlying24 hval
  obtain ⟨fuel, hf⟩ := h
  obtain ⟨r, e, hr⟩ := rd_rule hf
  exact ⟨r, by unfold Ri.v; rw [show cs = r.cells from Array.toList_inj.1 e]; rfl, hr⟩
set_option maxRecDepth 100000 in
theorem in_event {b0 : Nat} {v : Value} {d : DataW H} {p : List MemPlace} (hval : Value.okWide Try.prog W .any b0 30 v) (h : DataW.Trod enc Try.prog W 0 (fun _ => true) true 30 v d p) : ∃ h : Hv, v = h.v ∧ HvIn W h := by
  obtain ⟨cs, rfl, hsz⟩ := okWide_struct Try.underlying30 hval
  obtain ⟨fuel, hf⟩ := h
  obtain ⟨h, e, hh⟩ := rd_event hf
  exact ⟨h, by unfold Hv.v; rw [show cs = h.cells.toArray from Array.toList_inj.1 e]; rfl, hh⟩
set_option maxRecDepth 100000 in
theorem in_act {b0 : Nat} {v : Value} {d : DataW H} {p : List MemPlace} (hval : Value.okWide Try.prog W .any b0 50 v) (h : DataW.Trod enc Try.prog W 0 (fun _ => true) true 50 v d p) : ∃ a : Ac, v = a.v ∧ AcIn W a := by
  obtain ⟨cs, rfl, hsz⟩ := okWide_struct Try.underlying50 hval
  obtain ⟨fuel, hf⟩ := h
  obtain ⟨a, e, ha⟩ := rd_act hf
  exact ⟨a, by unfold Ac.v; rw [show cs = a.cells.toArray from Array.toList_inj.1 e]; rfl, ha⟩
set_option maxRecDepth 100000 in
theorem in_acts {b0 : Nat} {v : Value} {d : DataW H} {p : List MemPlace} (hval : Value.okWide Try.prog W .any b0 45 v) (h : DataW.Trod enc Try.prog W 0 (fun _ => true) true 45 v d p) : ∃ (A : Option Addr) (c : Nat) (l : List Ac), v = .slice A l.length c ∧ Reads W W.heap.size 8 A l.length (l.flatMap Ac.cells) ∧ (∀ a ∈ l, AcIn W a) ∧ l.length ≤ maxLen := by
  obtain ⟨A, n, c, rfl⟩ := okWide_slice Try.underlying45 hval
  obtain ⟨fuel, hf⟩ := h
  obtain ⟨A', c', l, e, h1, h2, h3⟩ := rd_acts hf
  have e2 : Value.slice A n c = .slice A' l.length c' := by simpa [Value.cells] using e
  exact ⟨A', c', l, e2, h1, h2, h3⟩
end
end Go.Proofs.Ytfimgkjdfjlkhaa
