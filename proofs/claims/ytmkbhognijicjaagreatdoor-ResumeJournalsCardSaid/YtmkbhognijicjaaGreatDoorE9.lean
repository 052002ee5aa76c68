import Derived.Test.YtmkbhognijicjaaGreatDoorE8
/- A function that appends to a row, called on the nil slice. No condition. -/
set_option linter.unusedSimpArgs false
namespace Go.Eng
open Go.RowKit

theorem ACA.nil {P : Program} {f : FuncId} {args : List V} {sz : Nat} {ty : TypeId} {new : List V} (hc : ACA P f args sz ty [] new) (hfl : new.all flatE = true) :
    ACO P f (.nils :: args) sz ty (fun F es' => (F = fun d q => .sl d q sz new.length) ∧ es' = new) := by
  intro w N xs hN hlen hp
  have hbase : RelM (fun _ => False) ⟨w, fun _ => False, fun _ _ => none, []⟩ N (fun _ _ => none) ⟨env0 0 (.nils :: args), [], 0, args.length + 1⟩ ⟨xs.toArray, []⟩ w := by
    refine ⟨rfl, by simpa using hlen, Bs.Below.refl _, ⟨fun b hb => ⟨hN b hb, fun h => h⟩, fun _ _ _ h => by cases h⟩, fun d v hv => absurd rfl hv, fun d o hd => by simp [get] at hd, fun d o _ _ _ _ _ hd => by simp [get] at hd, fun t v hv => ?_⟩
    obtain ⟨_, h2⟩ := get_env0 hv
    simp only [Nat.sub_zero] at h2
    have ht : t < (V.nils :: args).length := (List.getElem?_eq_some_iff.1 h2).1
    simp only [List.length_cons] at ht hlen
    refine ⟨by simp only; omega, .pur ?_⟩
    have hx : xs[t]? = some xs[t] := List.getElem?_eq_getElem (by omega)
    have := hp t xs[t] v hx h2
    have hget : xs.toArray.getD t undef = xs[t] := by
      rw [Array.getD_eq_getD_getElem?]; simp [hx]
    rw [hget]
    exact this.keep (Keeps.refl _ _) (fun b hb ho => by
      rcases ho with h0 | ⟨d, o, c, h1, _⟩
      · exact h0
      · simp [get] at h1)
  obtain ⟨μ, hr⟩ := le_adoptS (S := ⟨env0 0 (.nils :: args), [], 0, args.length + 1⟩) (t := 0) (d := 0) (sz := sz) (ty := ty) (by simp [env0, get]) _ _ _ _ ⟨_, hbase⟩
  have hr2 : RelM (fun _ => False) ⟨w, fun _ => False, fun _ _ => none, []⟩ N μ ⟨env0 0 (.sl 0 0 sz ([] : List V).length :: args), [(0, ⟨0, sz, ty, []⟩)], 1, (V.sl 0 0 sz ([] : List V).length :: args).length⟩ ⟨xs.toArray, []⟩ w := by
    refine ⟨hr.defers, hr.size, hr.below, hr.n0, hr.fresh, hr.objs, hr.inj, fun t v hv => hr.env t v ?_⟩
    simp only [AS.adoptS, env0, get_cons] at hv ⊢
    split at hv
    · rename_i e; rw [if_pos e]; exact hv
    · rename_i e; rw [if_neg e, if_neg e]; exact hv
  refine (hc 0 0 ⟨w, fun _ => False, fun _ _ => none, []⟩ N μ 1 xs (by simpa using hlen) rfl hr2).mono ?_
  rintro e w' (⟨x, r, outs, nx', μ', rfl, ⟨v', rfl, rfl⟩, hnx, hrel⟩ | ⟨ch, _, hE, _⟩)
  · simp only [List.nil_append] at hrel
    obtain ⟨l, hl, hob⟩ := hrel.objs 0 ⟨v', sz, ty, new⟩ (by simp [get])
    simp only at hl
    refine ⟨x, _, new, l, rfl, ⟨rfl, rfl⟩, hrel.below.plain, fun d v μ' N' hμ => ⟨?_, ?_⟩⟩
    · have hx' := (hrel.env 0 _ (by simp [get]; rfl)).2
      have hx0 : (#[x] : Array Value).getD 0 undef = x := by simp
      rw [hx0] at hx'
      generalize hev : V.sl 0 v' sz new.length = sv at hx'
      cases hx' with
      | pur hp => cases hp <;> cases hev
      | slr d1 v1 sz1 len1 g cap h1 h2 h3 =>
        injection hev with e1 e2 e3 e4
        subst e1; subst e2; subst e3; subst e4
        rw [hl] at h1
        injection h1 with h1
        subst h1
        exact .slr d v sz _ g cap hμ h2 h3
      | slv d1 v1 sz1 A h1 =>
        injection hev with e1 e2 e3 e4
        subst e1; subst e2; subst e3
        rw [hl] at h1
        injection h1 with h1
        subst h1
        rw [e4]
        exact .slv d v sz A hμ
      | _ => cases hev
    · cases l with
      | none => exact hob
      | some gc =>
        obtain ⟨h1, h2, h3, h4, arr, h5, h6, h7⟩ := hob
        refine ⟨h1, h2, h3, h4, arr, h5, h6, fun k e j c he' hj => ?_⟩
        obtain ⟨y, hy, hey⟩ := h7 k e j c he' hj
        have hfc : c.flat = true := List.all_eq_true.1 (List.all_eq_true.1 hfl e (List.mem_of_getElem? he')) c (List.mem_of_getElem? hj)
        exact ⟨y, hy, .pur ((hey.flatP hfc).of_flat hfc)⟩
  · exact hE.elim
end Go.Eng
