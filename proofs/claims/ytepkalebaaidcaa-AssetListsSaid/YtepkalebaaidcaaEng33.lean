/- The row's step where the law makes rows as long as what came in: the reach bounds their length. No condition. -/
import Derived.Test.YtepkalebaaidcaaEng32
import Derived.SizedLaws
import Derived.ChangeArms
set_option linter.unusedSimpArgs false
namespace Go.Eng
open Go.ChangeShapes Go.WideShapes Go.ChangeAt Go.RowKit

theorem trodAll_get {H : Type} {enc : TypeId × Value → H} {P : Program} {W : World} : ∀ {ts : List TypeId} {vs : List Value} {ds : List (DataW H)} {ps : List MemPlace},
    DataW.TrodAll enc P W 0 (fun _ => true) true ts vs ds ps → ∀ (j : Nat) t x, ts[j]? = some t → vs[j]? = some x → ∃ d p, ds[j]? = some d ∧ DataW.Trod enc P W 0 (fun _ => true) true t x d p
  | [], _, _, _, _, j, t, x, ht, _ => by simp at ht
  | t0 :: ts, vs, ds, ps, h, j, t, x, ht, hx => by
    obtain ⟨v, vs', d, ds', p, q, rfl, rfl, rfl, h1, h2⟩ := trodAll_cons h
    rcases j with _ | j
    · simp at ht hx
      subst ht; subst hx
      exact ⟨d, p, rfl, h1⟩
    · simp at ht hx
      obtain ⟨d', p', h3, h4⟩ := trodAll_get h2 j t x ht hx
      exact ⟨d', p', by simpa using h3, h4⟩

/-- The lengths of the lists that come in. -/
def Sized (P : Program) (ts : List TypeId) (vs : List V) : Prop :=
  ∀ (j : Nat) t e sz es, ts[j]? = some t → P.underlying t = some (.slice e) → vs[j]? = some (.ro sz es) → es.length * P.bytesOf e ≤ reachBytes

theorem row_contractS {H : Type} {enc : TypeId × Value → H} {P : Program} {f : FuncId} {fn : Func} {s : ChangeSpec} {n : Nat} {tb : TypeId} {ts : List TypeId} (hts : fn.params.toList = ts) (hok : (ts.all fun t => okT P n t && P.readableRec t && decide (t < P.types.size)) = true) (hlaid : laidOutB P = true) (hres : fn.resultTypes = #[tb]) (htb : P.underlying tb = some .bool)
    (hvars : s.vars = []) (hs : ∀ ds : List (DataW H), ds.length = ts.length → s.fn H ds = { results := [.lit (.bool true)], args := ds }) (hc : ∀ vs, RdAll P n ts vs → Sized P ts vs → AC P f vs (fun r => r = .bool true))
    {W : World} {base : Nat} {args : Array Value} {ds gs : List (DataW H)} {before : List MemPlace}
    (hval : ∀ (j : Nat) t v, fn.params[j]? = some t → args[j]? = some v → Value.okWide P W .any base t v) (hW : DataW.Whole enc P fn.params.toList s.vars false W args.toList ds gs before)
    (hz : (DataW.weightsEach P (fn.params.toList ++ s.plain.varTypes P) (ds ++ gs)).all (· ≤ reachBytes) = true) :
    Calls P f args W fun e W' => ∃ v, e = .returned v ∧ s.post enc P fn false true false false W args v W' := by
  have hW' := hW
  obtain ⟨p, q, hA, hV, rfl, hfz, hnd⟩ := hW
  rw [hvars] at hV
  obtain ⟨rfl, rfl⟩ := trodVars_none hV
  have hdl : ds.length = ts.length := by
    have : ∀ (ts : List TypeId) (vs : List Value) (ds : List (DataW H)) (ps : List MemPlace), DataW.TrodAll enc P W 0 (fun _ => true) true ts vs ds ps → ds.length = ts.length := by
      intro ts
      induction ts with
      | nil => intro vs ds ps h; obtain ⟨_, rfl, _⟩ := trodAll_nil h; rfl
      | cons t ts ih => intro vs ds ps h; obtain ⟨v, vs', d, ds', p, q, rfl, rfl, rfl, _, h2⟩ := trodAll_cons h; simp [ih _ _ _ h2]
    rw [← hts]; exact this _ _ _ _ hA
  have hall : ∀ t ∈ ts, okT P n t = true ∧ P.readableRec t = true ∧ t < P.types.size := by
    intro t ht
    have := List.all_eq_true.1 hok t ht
    simp only [Bool.and_eq_true, decide_eq_true_eq] at this
    exact ⟨this.1.1, this.1.2, this.2⟩
  obtain ⟨us, h1, h2⟩ := args_pur (n := n) (ts := ts) (fun t ht => (hall t ht).1) (fun j t v ht hv => hval j t v (by rw [← hts] at ht; simpa using ht) (by simpa using hv)) (hts ▸ hA)
  have hsz : Sized P ts us := by
    intro j t e sz es ht hu hes
    have hj : j < us.length := (List.getElem?_eq_some_iff.1 hes).1
    have hja : j < args.toList.length := by rw [h2.1]; exact hj
    have hx : args.toList[j]? = some args.toList[j] := List.getElem?_eq_getElem hja
    have hp := h2.2 j _ _ hx hes
    obtain ⟨d, p', hd, fuel, hf⟩ := trodAll_get (hts ▸ hA) j t _ ht hx
    generalize args.toList[j] = x at hp hf
    cases hp with
    | ro A ad m cap sz es g hn hcap hmax hA' hfit hcell hsub =>
      have hjt : j < ts.length := (List.getElem?_eq_some_iff.1 ht).1
      have hcs : (Value.slice A m cap).cells.toList = [.slice A m cap] := rfl
      rw [hcs] at hf
      rcases DataW.trod_slice hu hf with ⟨e1, e2⟩ | ⟨a, len, cap', elems, rest, k, _, e1, e2, _, _, _, hlen, _⟩
      · injection e1 with e1
        injection e1 with _ e1
        have : es.length = 0 := by omega
        rw [this]; omega
      · injection e1 with e1
        injection e1 with _ e1
        injection e2 with e2 _
        subst e2
        have := sized_slice (H := H) (P := P) hz (j := j) (t := t) (e := e) (elems := elems.map (·.1)) (spare := rest.map (·.1)) (by rw [hts, List.getElem?_append_left hjt]; exact ht) (by rw [List.getElem?_append_left (by omega)]; exact hd) hu
        refine Nat.le_trans (Nat.mul_le_mul_right _ ?_) this
        simp
        omega
  have hcall := hc us h1 hsz W (fun _ => False) args.toList (fun _ hb => hb.elim) h2.1 h2.2
  rw [show args.toList.toArray = args by simp] at hcall
  refine hcall.mono ?_
  rintro e W1 ⟨x, r, rfl, rfl, hp, hb⟩
  obtain rfl : x = .bool true := by cases hp; rfl
  refine ⟨_, rfl, ds, [], p ++ [], [], p, [], hW', ?_, ?_, ?_, hb.frame _, fun h => by cases h⟩
  · rw [List.append_nil, hs ds hdl, hres]
    exact trodAll_mk1 (shut_bool htb true)
  · rw [List.append_nil, hs ds hdl]
    exact trodAll_below hlaid hb (fun t ht => (hall t (hts ▸ ht)).2) hA
  · rw [List.append_nil, hs ds hdl, hvars]
    exact rfl
end Go.Eng
