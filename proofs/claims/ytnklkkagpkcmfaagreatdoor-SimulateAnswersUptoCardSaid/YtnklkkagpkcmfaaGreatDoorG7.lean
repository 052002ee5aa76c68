import Derived.Test.YtnklkkagpkcmfaaGreatDoorG6
import Derived.Test.YtnklkkagpkcmfaaGreatDoorG5
set_option linter.all false
set_option maxHeartbeats 1000000
namespace Go.Eng
open Go.RowKit
section
variable {P : Program} {w0 : Bs} {N0 : Nat → Prop} {Q : Exit → AS → Prop} {S S' : AS}
theorem aw_mapRange2 {α : Type} {r0 r1 r2 bid bid2 ty d0 d1 d2 d3 d4 d5 d6 d7 d8 bm e0 : Nat} {k : IntKind} {m : List (Int × V)} {o0 o1 o2 o3 o4 o5 o6 o7 o8 : Oper} {x : Operand} {rest : Code} (dI : Nat) (st : α → AS) (Inv : α → List Int → Prop) (x0 : α)
    (g0 : o0.guard = none) (p0 : o0.op = .move x) (q0 : o0.dst = some d0) (g1 : o1.guard = none) (p1 : o1.op = .range ty (.tmp d0)) (q1 : o1.dst = some d1)
    (g2 : o2.guard = none) (p2 : o2.op = .next (.tmp d1) false) (q2 : o2.dst = some d2) (g3 : o3.guard = none) (p3 : o3.op = .extract (.tmp d2) 0) (q3 : o3.dst = some d3)
    (g4 : o4.guard = none) (p4 : o4.op = .entry (.tmp d1)) (q4 : o4.dst = some d4) (g5 : o5.guard = none) (p5 : o5.op = .extract (.tmp d4) 0) (q5 : o5.dst = some d5) (g6 : o6.guard = none) (p6 : o6.op = .extract (.tmp d4) 1) (q6 : o6.dst = some d6)
    (g7 : o7.guard = none) (p7 : o7.op = .assign (.tmp d5)) (q7 : o7.dst = some d7) (g8 : o8.guard = none) (p8 : o8.op = .assign (.tmp d6)) (q8 : o8.dst = some d8)
    (hx : S.evc true x = some (.mp bm k m)) (ht : tmap P ty = some (k, e0)) (hn : d0 < S.nt ∧ d1 < S.nt) (hn2 : ∀ y, d2 < (st y).nt ∧ d3 < (st y).nt ∧ d4 < (st y).nt ∧ d5 < (st y).nt ∧ d6 < (st y).nt ∧ d7 < (st y).nt ∧ d8 < (st y).nt)
    (hne : d2 ≠ d1 ∧ d3 ≠ d1) (hne2 : d5 ≠ d4 ∧ d6 ≠ d5 ∧ d7 ≠ d6)
    (hd : ∀ y, get (st y).env d1 = some (.bp dI S.nx 0 0 0)) (h0 : ∀ L : List Int, L.Nodup → (∀ a, a ∈ L ↔ (assoc a m).isSome = true) → Inv x0 L)
    (hS : ({ S with env := (d1, .bp dI S.nx 0 0 0) :: (d0, .mp bm k m) :: S.env, nx := S.nx + 2 } : AS).le (st x0))
    (round : ∀ B N y L a v, Inv y L → a ∈ L → assoc a m = some v → AW P B N rest (einBlock bid2 (ethen (fun T => ∃ y', (∀ L' : List Int, L'.Nodup → (∀ c, c ∈ L' ↔ c ∈ L ∧ c ≠ a) → Inv y' L') ∧ T.le (st y')) (einBlock bid Q)))
      { st y with env := (d8, v) :: (d7, .int k a) :: (d6, v) :: (d5, .int k a) :: (d4, .tup [.int k a, v]) :: (d3, .bool true) :: (d2, .tup [.bool true, .int k a, v]) :: (st y).env, nx := (st y).nx + 7 })
    (last : ∀ y, Inv y [] → Q .normal { st y with env := (d3, .bool false) :: (d2, .tup [.bool false]) :: (st y).env, nx := (st y).nx + 2 }) :
    AW P w0 N0 (.seq (.region r0 [o0, o1].toArray false) (.block bid (.loop (.seq (.region r1 [o2, o3].toArray false) (.seq (.cond (.tmp d3) .skip (.exit bid)) (.block bid2 (.seq (.region r2 [o4, o5, o6, o7, o8].toArray false) rest))))))) Q S := by
  rintro a w ⟨μ, hr⟩
  obtain ⟨kt, hut, hkt⟩ := tmap_spec ht
  obtain ⟨es, clock, g, hNm, hbm, hks, hs, hnn, hw, hh, hev0⟩ : ∃ (es : Array MapEntry) (clock : Nat) (g : Int → Value), ¬ Own N0 μ S bm ∧ w.heap[bm]? = some (.map es clock) ∧ (∀ e ∈ es.toList, ∃ a, e.key = .int k a) ∧ (∀ a v, assoc a m = some v → findA a es.toList = some (g a) ∧ v.flat0 = true) ∧
      (∀ a, assoc a m = none → findA a es.toList = none) ∧ ((es.toList.map (·.born)).Nodup ∧ (∀ e ∈ es.toList, e.born < clock) ∧ (es.toList.map keyI).Nodup) ∧ (∀ a v, assoc a m = some v → Pur w (Own N0 μ S) (g a) v) ∧ a.eval x = .map (some bm) := by
    have := hr.evc hx rfl
    generalize a.eval x = y at this
    cases this with
    | pur hp => cases hp with
      | mp _ _ _ es clock g hN hb hks hs hn hw hh => exact ⟨es, clock, g, hN, hb, hks, hs, hn, hw, hh, rfl⟩
  refine wp_seq (wp_region_lit ?_)
  refine wpList_plain g0 fun K hK => ?_
  have hrun0 : (execOp a.eval o0).run P w = .ok (.value (a.eval x)) w := by unfold execOp; rw [p0]; rfl
  unfold Oper.wp
  rw [hrun0]
  refine hK _ _ ?_
  rw [q0]
  have hr1 := hr.put (d := d0) hn.1 (hr.evc hx rfl)
  have he : (a.put (some d0) (a.eval x)).eval (.tmp d0) = .map (some bm) := by
    show (a.put (some d0) (a.eval x)).tmps.getD d0 undef = _
    rw [tmps_put a d0 _ d0 (by rw [hr.size]; exact hn.1), if_pos rfl, hev0]
  generalize a.put (some d0) (a.eval x) = a1 at hr1 he
  clear hK K
  refine wpList_plain g1 fun K hK => ?_
  have hrun1 : (execOp a1.eval o1).run P w = .ok (.value (.pointer (some ⟨w.heap.size, 0, none⟩))) (w.alloc (.mapIter (some bm) clock #[] clock)) := by
    unfold execOp
    rw [p1]
    simp only [he, Sem.run_bind, run_range_map w ty kt e0 bm es clock hut hbm, Result.andThen_ok]
    rfl
  unfold Oper.wp
  rw [hrun1]
  refine hK _ _ (wpList_nil ?_)
  rw [q1]
  obtain ⟨b, hbw⟩ : ∃ b, b = w.heap.size := ⟨_, rfl⟩
  rw [← hbw]
  have hμn : μ dI S.nx = none := by
    cases hm : μ dI S.nx with
    | none => rfl
    | some l =>
      rcases hr.fresh dI S.nx (by rw [hm]; simp) with h | ⟨j, hj, _⟩
      · omega
      · exact hj.elim
  obtain ⟨μ1, hμ1⟩ : ∃ μ1 : Mu, μ1 = fun d v => if d = dI ∧ v = S.nx then some (some (b, 0)) else μ d v := ⟨_, rfl⟩
  have hμle : ∀ d v l, μ d v = some l → μ1 d v = some l := by
    intro d v l' hl
    rw [hμ1]
    simp only
    split
    · rename_i e; rw [e.1, e.2, hμn] at hl; cases hl
    · exact hl
  have hμI : μ1 dI S.nx = some (some (b, 0)) := by rw [hμ1]; simp
  have hμo : ∀ d o, get S.objs d = some o → μ1 d o.v = μ d o.v := by
    intro d o ho
    obtain ⟨l', hl, _⟩ := hr.objs d o ho
    rw [hl]; exact hμle _ _ _ hl
  obtain ⟨w2, hw2⟩ : ∃ w2, w2 = w.alloc (.mapIter (some bm) clock #[] clock) := ⟨_, rfl⟩
  rw [← hw2]
  have hbel : Below w.heap.size w w2 := by rw [hw2]; exact (Below.refl _ _).alloc (Nat.le_refl _) _
  have hit : w2.heap[b]? = some (.mapIter (some bm) clock #[] clock) := by rw [hw2, hbw]; exact heap_alloc_new w _
  have hsz2 : w2.heap.size = w.heap.size + 1 := by rw [hw2]; simp
  obtain ⟨S2, hS2⟩ : ∃ S2 : AS, S2 = { S with env := (d1, .bp dI S.nx 0 0 0) :: (d0, .mp bm k m) :: S.env, nx := S.nx + 2 } := ⟨_, rfl⟩
  rw [← hS2] at hS
  have hobj2 : S2.objs = S.objs := by rw [hS2]
  have hown : ∀ x, OwnB μ1 S2.objs x → OwnB μ S.objs x := by
    rintro x ⟨d, o, c, h1, h2⟩
    rw [hobj2] at h1
    exact ⟨d, o, c, h1, by rw [← hμo d o h1]; exact h2⟩
  have hsub : ∀ x, x < w.heap.size → Own (fun y => N0 y ∨ y = b) μ1 S2 x → Own N0 μ { S with env := (d0, .mp bm k m) :: S.env } x := by
    intro x hlt ho
    rcases ho with (h | h) | ⟨d, o, c, h1, h2⟩
    · exact .inl h
    · omega
    · obtain ⟨d, o, c, h1, h2⟩ := hown x ⟨d, o, c, h1, h2⟩
      exact .inr ⟨d, o, c, h1, h2⟩
  have hkeep : Keeps w (Own N0 μ { S with env := (d0, .mp bm k m) :: S.env }) w2 := Keeps.of_below hbel _
  have hA2 : Anch w0 N0 μ1 S2 w2 := ⟨hr.below.trans (hbel.mono hr.below.size), fun g ho => hr.anch.own g (hown g ho), hr.n0.1, fun d v l' hl => hμle _ _ _ (hr.n0.2 d v l' hl)⟩
  have hR2 : RelM (fun _ => False) (baseAt w0 w2 μ1 S2) (fun y => N0 y ∨ y = b) μ1 S2 (a1.put (some d1) (.pointer (some ⟨b, 0, none⟩))) w2 := by
    refine ⟨hr1.defers, by rw [hS2]; simp [Act.put, hr1.size], Bs.Below.refl _, ⟨fun x hx => ⟨?_, fun ho => ?_⟩, fun _ _ _ hh => hh⟩, fun d v hv => ?_, fun d o hd => ?_, fun d o d' o' g c c' h1 h2 h3 h4 => ?_, fun t v hv => ?_⟩
    · show x < w2.heap.size
      rcases hx with h | h
      · have := (hr.n0.1 x h).1; have := hr.below.size; omega
      · omega
    · obtain ⟨d, o, c, h1, h2⟩ := hown x ho
      have hlt := hr.block_lt h1 h2
      rcases hx with h | h
      · rcases hr.anch.own x ⟨d, o, c, h1, h2⟩ with h3 | h3
        · have := (hr.n0.1 x h).1; omega
        · exact (hr.n0.1 x h).2 h3
      · omega
    · left
      rw [hS2]
      simp only
      rw [hμ1] at hv
      simp only at hv
      split at hv
      · rename_i e; omega
      · rcases hr.fresh d v hv with h | ⟨j, hj, _⟩
        · omega
        · exact hj.elim
    · rw [hobj2] at hd
      obtain ⟨l', hl, hob⟩ := hr1.objs d o hd
      refine ⟨l', by rw [hμo d o hd]; exact hl, ?_⟩
      cases l' with
      | none => exact hob
      | some gc =>
        obtain ⟨h1, h3, h4, h5, arr, h6, h7, h8⟩ := hob
        refine ⟨.inr ⟨d, o, gc.2, by rw [hobj2]; exact hd, by rw [hμo d o hd]; exact hl⟩, h3, h4, h5, arr, ?_, h7, fun k e j c he' hj => ?_⟩
        · exact (hbel.block _ (hr.block_lt hd hl)).trans h6
        · obtain ⟨y, hy, hey⟩ := h8 k e j c he' hj
          exact ⟨y, hy, hey.keep hkeep hsub hμle⟩
    · rw [hobj2] at h1 h2
      rw [hμo d o h1] at h3
      rw [hμo d' o' h2] at h4
      exact hr.inj d o d' o' g c c' h1 h2 h3 h4
    · rw [hS2] at hv ⊢
      simp only at hv ⊢
      rw [tmps_put a1 d1 _ t (by rw [hr1.size]; exact hn.2)]
      rw [get_cons] at hv
      split at hv
      · rename_i e
        injection hv with hv
        subst hv; subst e
        simp only [if_true]
        exact ⟨hn.2, .bp dI S.nx 0 0 0 b 0 hμI⟩
      · rename_i e
        rw [if_neg e]
        have := hr1.env t v hv
        exact ⟨this.1, by have h' := this.2.keep hkeep hsub hμle; rw [hS2] at h'; exact h'⟩
  generalize a1.put (some d1) (.pointer (some ⟨b, 0, none⟩)) = a2 at hR2
  have hbmlt : bm < w.heap.size := (Array.getElem?_eq_some_iff.1 hbm).1
  have hbm2 : w2.heap[bm]? = some (.map es clock) := by rw [hw2, heap_alloc_old w _ hbmlt]; exact hbm
  -- the invariant
  have main : ∀ n y seen a w, (leftOf es seen).size = n → Inv y (keysLeft es seen) → (∃ μ, Anch w0 N0 μ (st y) w ∧ RelM (fun _ => False) (baseAt w0 w μ (st y)) (fun z => N0 z ∨ z = b) μ (st y) a w ∧ μ dI S.nx = some (some (b, 0)) ∧ w.heap[b]? = some (.mapIter (some bm) clock seen clock) ∧ w.heap[bm]? = some (.map es clock)) →
      (Code.loop (.seq (.region r1 [o2, o3].toArray false) (.seq (.cond (.tmp d3) .skip (.exit bid)) (.block bid2 (.seq (.region r2 [o4, o5, o6, o7, o8].toArray false) rest))))).wp P (post w0 N0 (einBlock bid Q)) a w := by
    have hround : ∀ y seen a w, Inv y (keysLeft es seen) → (∃ μ, Anch w0 N0 μ (st y) w ∧ RelM (fun _ => False) (baseAt w0 w μ (st y)) (fun z => N0 z ∨ z = b) μ (st y) a w ∧ μ dI S.nx = some (some (b, 0)) ∧ w.heap[b]? = some (.mapIter (some bm) clock seen clock) ∧ w.heap[bm]? = some (.map es clock)) →
        (Code.seq (.region r1 [o2, o3].toArray false) (.seq (.cond (.tmp d3) .skip (.exit bid)) (.block bid2 (.seq (.region r2 [o4, o5, o6, o7, o8].toArray false) rest)))).wp P (fun e a' w' => (e = .normal ∧ ∃ y' seen', (leftOf es seen').size < (leftOf es seen).size ∧ Inv y' (keysLeft es seen') ∧ (∃ μ, Anch w0 N0 μ (st y') w' ∧ RelM (fun _ => False) (baseAt w0 w' μ (st y')) (fun z => N0 z ∨ z = b) μ (st y') a' w' ∧ μ dI S.nx = some (some (b, 0)) ∧ w'.heap[b]? = some (.mapIter (some bm) clock seen' clock) ∧ w'.heap[bm]? = some (.map es clock))) ∨ (e ≠ .normal ∧ post w0 N0 (einBlock bid Q) e a' w')) a w := by
      rintro y seen a w hInv ⟨μ, hA, hR, hμ, hit, hbmw⟩
      have hblt : b < w.heap.size := (Array.getElem?_eq_some_iff.1 hit).1
      have hbb : bm ≠ b := fun e => by rw [e, hit] at hbmw; simp at hbmw
      have hptr : ∀ (S' : AS) (w' : World) (B : Bs) (a' : Act) (N : Nat → Prop), RelM (fun _ => False) B N μ S' a' w' → get S'.env d1 = some (.bp dI S.nx 0 0 0) → a'.eval (.tmp d1) = .pointer (some ⟨b, 0, none⟩) := by
        intro S' w' B a' N hR' hg
        have := (hR'.env d1 _ hg).2
        show a'.tmps.getD d1 undef = _
        generalize a'.tmps.getD d1 undef = z at this
        cases this with
        | pur hp => cases hp
        | bp _ _ _ _ _ g cap h1 =>
          rw [hμ] at h1
          injection h1 with h1
          injection h1 with h1
          injection h1 with h1 h2
          subst h1
          rfl
      have hev := hptr _ _ _ _ _ hR (hd y)
      -- what the two operations leave, and how it goes on
      have fin : ∀ (tv : Value) (t2 : V) (g : Bool) (w1 : World) (Qf : Exit → Act → World → Prop), (∀ k, k ≠ b → w1.heap[k]? = w.heap[k]?) → w1.heap.size = w.heap.size → (w1.os = w.os ∧ w1.tape = w.tape ∧ w1.output = w.output) →
          (∀ N μ', Enc w1 N μ' tv t2) → (execOp a.eval o2).run P w = .ok (.value tv) w1 → (Instr.extract tv 0).run P w1 = .ok (.bool g) w1 →
          (∀ a4, RelM (fun _ => False) (baseAt w0 w1 μ (st y)) (fun z => N0 z ∨ z = b) μ { st y with env := (d3, .bool g) :: (d2, t2) :: (st y).env, nx := (st y).nx + 2 } a4 w1 → Anch w0 N0 μ (st y) w1 →
            (Code.seq (.cond (.tmp d3) .skip (.exit bid)) (.block bid2 (.seq (.region r2 [o4, o5, o6, o7, o8].toArray false) rest))).wp P Qf a4 w1) →
          (Code.seq (.region r1 [o2, o3].toArray false) (.seq (.cond (.tmp d3) .skip (.exit bid)) (.block bid2 (.seq (.region r2 [o4, o5, o6, o7, o8].toArray false) rest)))).wp P Qf a w := by
        intro tv t2 g w1 Qf hk hsz hos htv hrun hext hgo
        refine wp_seq (wp_region_lit (wpList_plain g2 fun K hK => ?_))
        unfold Oper.wp
        rw [hrun]
        refine hK _ _ (wpList_plain g3 fun K2 hK2 => ?_)
        clear hK K
        rw [q2]
        have hT := hR.turn (w0 := w0) (.inr rfl) hk hsz
        have hP2 := hT.put (d := d2) (hn2 y).1 (htv _ _)
        have hev2 : (a.put (some d2) tv).eval (.tmp d2) = tv := by
          show (a.put (some d2) tv).tmps.getD d2 undef = tv
          rw [tmps_put a d2 tv d2 (by rw [hR.size]; exact (hn2 y).1), if_pos rfl]
        generalize a.put (some d2) tv = a3 at hP2 hev2
        have hrun3 : (execOp a3.eval o3).run P w1 = .ok (.value (.bool g)) w1 := by
          unfold execOp
          rw [p3]
          simp only [hev2, Sem.run_bind, hext, Result.andThen_ok, Sem.run_pure]
        unfold Oper.wp
        rw [hrun3]
        refine hK2 _ _ (wpList_nil ?_)
        rw [q3]
        have hP3 := hP2.put (d := d3) (hn2 y).2.1 (.pur (.bool g))
        generalize a3.put (some d3) (.bool g) = a4 at hP3
        have hP4 : RelM (fun _ => False) (baseAt w0 w1 μ (st y)) (fun z => N0 z ∨ z = b) μ { st y with env := (d3, .bool g) :: (d2, t2) :: (st y).env, nx := (st y).nx + 2 } a4 w1 :=
          ⟨hP3.defers, hP3.size, hP3.below, hP3.n0, fun d v hv => by
            rcases hP3.fresh d v hv with h | ⟨j, hj, _⟩
            · left; simp only at h ⊢; omega
            · exact hj.elim, hP3.objs, hP3.inj, hP3.env⟩
        refine hgo a4 hP4 ⟨⟨hos.1.trans hA.below.os, hos.2.1.trans hA.below.tape, hos.2.2.trans hA.below.output, by rw [hsz]; exact hA.below.size, fun k hk' hx' => ?_⟩, hA.own, hA.n0, hA.m⟩
        rw [hk k (fun e => ?_)]
        · exact hA.below.block k hk' hx'
        · have := hr.below.size; omega
      rcases run_next_at (P := P) w o2.type b bm clock clock seen es clock hit hbmw hw.2.1 (Nat.le_refl _) with ⟨hz, hrunN⟩ | ⟨en, hen, w1, hw1, hrunN⟩
      · refine fin (.tuple #[.bool false]) (.tup [.bool false]) false w _ (fun _ _ => rfl) rfl ⟨rfl, rfl, rfl⟩ ?_ ?_ rfl (fun a4 hP4 hA1 => ?_)
        · intro N μ'
          exact .tup [.bool false] _ rfl (fun i x c h1 h2 => by
            rcases i with _ | i
            · simp at h1 h2; subst h1; subst h2; exact .pur (.bool _)
            · simp at h1)
        · unfold execOp
          rw [p2]
          simp only [hev]
          rw [Sem.run_bind, hrunN]
          rfl
        · have hev3 : a4.eval (.tmp d3) = .bool false := by
            have := (hP4.env d3 (.bool false) (by simp [get_cons])).2
            show a4.tmps.getD d3 undef = _
            generalize a4.tmps.getD d3 undef = z at this
            cases this with
            | pur hp => cases hp; rfl
          refine wp_seq (wp_cond_false hev3 (wp_exit (.inr ⟨by simp, _, ?_, μ, hA1.back (fun _ h => .inl h) hP4⟩)))
          show (if bid = bid then Q .normal _ else Q (.exit bid) _)
          rw [if_pos rfl]
          rw [keysLeft_none hz] at hInv
          exact last y hInv
      · obtain ⟨wn, hwn⟩ : ∃ wn, wn = Go.ChangeMaps.setBlock w1 b (.mapIter (some bm) clock (seen.push en.born) clock) := ⟨_, rfl⟩
        rw [← hwn] at hrunN
        have hdr : w1.heap = w.heap := by rcases hw1 with rfl | rfl <;> rfl
        have hkn : ∀ k, k ≠ b → wn.heap[k]? = w.heap[k]? := by
          intro k hk
          rw [hwn]
          simp [Go.ChangeMaps.setBlock, hdr, Array.getElem?_setIfInBounds, Ne.symm hk]
        have hszn : wn.heap.size = w.heap.size := by rw [hwn]; simp [Go.ChangeMaps.setBlock, hdr]
        have hosn : wn.os = w.os ∧ wn.tape = w.tape ∧ wn.output = w.output := by rw [hwn]; rcases hw1 with rfl | rfl <;> exact ⟨rfl, rfl, rfl⟩
        have hitn : wn.heap[b]? = some (.mapIter (some bm) clock (seen.push en.born) clock) := by
          rw [hwn]; simp [Go.ChangeMaps.setBlock, hdr, hblt]
        have hbmn : wn.heap[bm]? = some (.map es clock) := by rw [hkn bm hbb]; exact hbmw
        have henm := mem_leftOf.1 hen
        obtain ⟨a0, ha0⟩ := hks en henm.1
        have hka : keyI en = a0 := by simp [keyI, ha0]
        have hfa := findA_mem hw.2.2 en henm.1 hka
        obtain ⟨v, hv⟩ : ∃ v, assoc a0 m = some v := by
          cases h : assoc a0 m with
          | none => rw [hnn a0 h] at hfa; cases hfa
          | some v => exact ⟨v, rfl⟩
        have hgv : en.val = g a0 := by have := (hs a0 v hv).1; rw [hfa] at this; injection this
        have hval : ∀ (w' : World) (N' : Nat → Prop), Pur w' N' en.val v := fun w' N' => by rw [hgv]; exact (hh a0 v hv).of_flat0 (hs a0 v hv).2
        refine fin (.tuple #[.bool true, en.key, en.val]) (.tup [.bool true, .int k a0, v]) true wn _ hkn hszn hosn ?_ ?_ rfl (fun a4 hP4 hA1 => ?_)
        · intro N μ'
          rw [ha0]
          exact .tup [.bool true, .int k a0, en.val] _ rfl (fun i x c h1 h2 => by
            rcases i with _ | _ | _ | i
            · simp at h1 h2; subst h1; subst h2; exact .pur (.bool _)
            · simp at h1 h2; subst h1; subst h2; exact .pur (.int _ _)
            · simp at h1 h2; subst h1; subst h2; exact .pur (hval _ _)
            · simp at h1)
        · unfold execOp
          rw [p2]
          simp only [hev]
          rw [Sem.run_bind, hrunN]
          rfl
        have hev3 : a4.eval (.tmp d3) = .bool true := by
          have := (hP4.env d3 (.bool true) (by simp [get_cons])).2
          show a4.tmps.getD d3 undef = _
          generalize a4.tmps.getD d3 undef = z at this
          cases this with
          | pur hp => cases hp; rfl
        have hev4 := hptr _ _ _ _ _ hP4 (by simp only [get_cons, if_neg hne.2, if_neg hne.1]; exact hd y)
        refine wp_seq (wp_cond_true hev3 (wp_skip ?_))
        show (Code.block bid2 (.seq (.region r2 [o4, o5, o6, o7, o8].toArray false) rest)).wp P _ a4 wn
        refine wp_block (wp_seq (wp_region_lit (wpList_plain g4 fun K hK => ?_)))
        have hrun4 : (execOp a4.eval o4).run P wn = .ok (.value (.tuple #[.int k a0, en.val])) wn := by
          unfold execOp
          rw [p4]
          simp only [hev4]
          have := run_entry_at (P := P) wn b bm clock seen es clock en hitn hbmn henm.1 hw.1
          rw [ha0] at this
          rw [Sem.run_bind, this]
          rfl
        unfold Oper.wp
        rw [hrun4]
        refine hK _ _ ?_
        rw [q4]
        clear hK K
        have hP5 := hP4.put (d := d4) (hn2 y).2.2.1 (v := .tup [.int k a0, v]) (x := .tuple #[.int k a0, en.val]) (.tup [.int k a0, en.val] _ rfl (fun i x c h1 h2 => by
            rcases i with _ | _ | i
            · simp at h1 h2; subst h1; subst h2; exact .pur (.int _ _)
            · simp at h1 h2; subst h1; subst h2; exact .pur (hval _ _)
            · simp at h1))
        have hev5 : (a4.put (some d4) (.tuple #[.int k a0, en.val])).eval (.tmp d4) = .tuple #[.int k a0, en.val] := by
          show (a4.put (some d4) _).tmps.getD d4 undef = _
          rw [tmps_put a4 d4 _ d4 (by rw [hP4.size]; exact (hn2 y).2.2.1), if_pos rfl]
        generalize a4.put (some d4) (.tuple #[.int k a0, en.val]) = a5 at hP5 hev5
        refine wpList_plain g5 fun K hK => ?_
        have hrun5 : (execOp a5.eval o5).run P wn = .ok (.value (.int k a0)) wn := by
          unfold execOp
          rw [p5]
          simp only [hev5]
          rfl
        unfold Oper.wp
        rw [hrun5]
        refine hK _ _ ?_
        rw [q5]
        clear hK K
        have hP6 := hP5.put (d := d5) (hn2 y).2.2.2.1 (.pur (.int k a0))
        have hev6 : (a5.put (some d5) (.int k a0)).eval (.tmp d4) = .tuple #[.int k a0, en.val] := by
          show (a5.put (some d5) _).tmps.getD d4 undef = _
          rw [tmps_put a5 d5 _ d4 (by rw [hP5.size]; exact (hn2 y).2.2.2.1), if_neg hne2.1]
          exact hev5
        have hev6' : (a5.put (some d5) (.int k a0)).eval (.tmp d5) = .int k a0 := by
          show (a5.put (some d5) _).tmps.getD d5 undef = _
          rw [tmps_put a5 d5 _ d5 (by rw [hP5.size]; exact (hn2 y).2.2.2.1), if_pos rfl]
        generalize a5.put (some d5) (.int k a0) = a6 at hP6 hev6 hev6'
        refine wpList_plain g6 fun K hK => ?_
        have hrun6 : (execOp a6.eval o6).run P wn = .ok (.value en.val) wn := by
          unfold execOp
          rw [p6]
          simp only [hev6]
          rfl
        unfold Oper.wp
        rw [hrun6]
        refine hK _ _ ?_
        rw [q6]
        clear hK K
        have hP7 := hP6.put (d := d6) (hn2 y).2.2.2.2.1 (v := v) (.pur (hval _ _))
        have hev7 : (a6.put (some d6) en.val).eval (.tmp d5) = .int k a0 := by
          show (a6.put (some d6) _).tmps.getD d5 undef = _
          rw [tmps_put a6 d6 _ d5 (by rw [hP6.size]; exact (hn2 y).2.2.2.2.1), if_neg hne2.2.1]
          exact hev6'
        have hev7' : (a6.put (some d6) en.val).eval (.tmp d6) = en.val := by
          show (a6.put (some d6) _).tmps.getD d6 undef = _
          rw [tmps_put a6 d6 _ d6 (by rw [hP6.size]; exact (hn2 y).2.2.2.2.1), if_pos rfl]
        generalize a6.put (some d6) en.val = a7 at hP7 hev7 hev7'
        refine wpList_plain g7 fun K hK => ?_
        have hrun7 : (execOp a7.eval o7).run P wn = .ok (.value (.int k a0)) wn := by
          unfold execOp
          rw [p7]
          simp only [hev7]
          rfl
        unfold Oper.wp
        rw [hrun7]
        refine hK _ _ ?_
        rw [q7]
        clear hK K
        have hP7b := hP7.put (d := d7) (hn2 y).2.2.2.2.2.1 (.pur (.int k a0))
        have hev8 : (a7.put (some d7) (.int k a0)).eval (.tmp d6) = en.val := by
          show (a7.put (some d7) _).tmps.getD d6 undef = _
          rw [tmps_put a7 d7 _ d6 (by rw [hP7.size]; exact (hn2 y).2.2.2.2.2.1), if_neg hne2.2.2]
          exact hev7'
        generalize a7.put (some d7) (.int k a0) = a8 at hP7b hev8
        refine wpList_plain g8 fun K hK => ?_
        have hrun8 : (execOp a8.eval o8).run P wn = .ok (.value en.val) wn := by
          unfold execOp
          rw [p8]
          simp only [hev8]
          rfl
        unfold Oper.wp
        rw [hrun8]
        refine hK _ _ (wpList_nil ?_)
        rw [q8]
        clear hK K
        have hP7c := hP7b.put (d := d8) (hn2 y).2.2.2.2.2.2 (v := v) (.pur (hval _ _))
        generalize a8.put (some d8) en.val = a9 at hP7c
        have hP8 : RelM (fun _ => False) (baseAt w0 wn μ (st y)) (fun z => N0 z ∨ z = b) μ { st y with env := (d8, v) :: (d7, .int k a0) :: (d6, v) :: (d5, .int k a0) :: (d4, .tup [.int k a0, v]) :: (d3, .bool true) :: (d2, .tup [.bool true, .int k a0, v]) :: (st y).env, nx := (st y).nx + 7 } a9 wn :=
          ⟨hP7c.defers, hP7c.size, hP7c.below, hP7c.n0, fun d v hv => by
            rcases hP7c.fresh d v hv with h | ⟨j, hj, _⟩
            · left; simp only at h ⊢; omega
            · exact hj.elim, hP7c.objs, hP7c.inj, hP7c.env⟩
        have hmem : a0 ∈ keysLeft es seen := List.mem_map.2 ⟨en, hen, hka⟩
        have hnb : ¬ OwnB μ (st y).objs bm := by
          rintro ⟨d, o, c, h1, h2⟩
          obtain ⟨l, hl, hob⟩ := hP4.objs d o h1
          rw [h2] at hl
          injection hl with hl
          subst hl
          obtain ⟨_, _, _, _, arr, h6, _⟩ := hob
          rw [hbmn] at h6
          simp at h6
        have hnorm : ∀ S' a' w' μ', RelM (fun _ => False) (baseAt w0 wn μ (st y)) (fun z => N0 z ∨ z = b) μ' S' a' w' → (∃ y', (∀ L' : List Int, L'.Nodup → (∀ c, c ∈ L' ↔ c ∈ keysLeft es seen ∧ c ≠ a0) → Inv y' L') ∧ S'.le (st y')) →
            ∃ y' seen', (leftOf es seen').size < (leftOf es seen).size ∧ Inv y' (keysLeft es seen') ∧ (∃ μ, Anch w0 N0 μ (st y') w' ∧ RelM (fun _ => False) (baseAt w0 w' μ (st y')) (fun z => N0 z ∨ z = b) μ (st y') a' w' ∧ μ dI S.nx = some (some (b, 0)) ∧ w'.heap[b]? = some (.mapIter (some bm) clock seen' clock) ∧ w'.heap[bm]? = some (.map es clock)) := by
          rintro S' a' w' μ' hR' ⟨y', hI', hle⟩
          obtain ⟨μ3, hR3⟩ := hle _ _ _ _ ⟨μ', hR'⟩
          have hb3 := hA1.back (fun _ h => .inl h) hR3
          refine ⟨y', seen.push en.born, left_shrinks es seen en hen, hI' _ (keysLeft_nodup hw.2.2) (fun c => by rw [keysLeft_push hw.2.2 hw.1 hen c, hka]), μ3, hb3.anch, hR3.rebase rfl, hR3.n0.2 _ _ _ hμ, ?_, ?_⟩
          · rw [hR3.below.block b (by show b < wn.heap.size; omega) (hR3.n0.1 b (.inr rfl)).2]
            exact hitn
          · rw [hR3.below.block bm (by show bm < wn.heap.size; exact (Array.getElem?_eq_some_iff.1 hbmn).1) hnb]
            exact hbmn
        refine wp_mono (round _ _ y _ a0 v hInv hmem hv a9 wn ⟨μ, hP8⟩) ?_
        rintro e a' w' ⟨S', hQ, ⟨μ', hR'⟩⟩
        cases e with
        | normal => exact .inl ⟨rfl, hnorm S' a' w' μ' hR' hQ⟩
        | exit id =>
          simp only [einBlock] at hQ
          simp only [Exit.inBlock]
          split
          · rename_i he2; rw [if_pos he2] at hQ; exact .inl ⟨trivial, hnorm S' a' w' μ' hR' hQ⟩
          · rename_i he2; rw [if_neg he2] at hQ; exact .inr ⟨by simp, S', hQ, μ', hA1.back (fun _ h => .inl h) hR'⟩
        | goto l => exact .inr ⟨by simp, S', hQ, μ', hA1.back (fun _ h => .inl h) hR'⟩
        | ret => exact .inr ⟨by simp, S', hQ, μ', hA1.back (fun _ h => .inl h) hR'⟩
        | panic ch => exact .inr ⟨by simp, S', hQ, μ', hA1.back (fun _ h => .inl h) hR'⟩
        | outgrown => exact .inr ⟨by simp, S', hQ, μ', hA1.back (fun _ h => .inl h) hR'⟩
    have main : ∀ n y seen a w, (leftOf es seen).size = n → Inv y (keysLeft es seen) → (∃ μ, Anch w0 N0 μ (st y) w ∧ RelM (fun _ => False) (baseAt w0 w μ (st y)) (fun z => N0 z ∨ z = b) μ (st y) a w ∧ μ dI S.nx = some (some (b, 0)) ∧ w.heap[b]? = some (.mapIter (some bm) clock seen clock) ∧ w.heap[bm]? = some (.map es clock)) →
        ∀ bb k cs, ∃ e a' w', post w0 N0 (einBlock bid Q) e a' w' ∧ Arrives P (lone (bb.at a (.code (.seq (.region r1 [o2, o3].toArray false) (.seq (.cond (.tmp d3) .skip (.exit bid)) (.block bid2 (.seq (.region r2 [o4, o5, o6, o7, o8].toArray false) rest)))) :: .inLoop (.seq (.region r1 [o2, o3].toArray false) (.seq (.cond (.tmp d3) .skip (.exit bid)) (.block bid2 (.seq (.region r2 [o4, o5, o6, o7, o8].toArray false) rest)))) :: k)) cs w) bb k cs e a' w' := by
      intro n
      induction n using Nat.strongRecOn with
      | _ n ih =>
        intro y seen a w hn' hInv hJ bb k cs
        obtain ⟨e, a1, w1, hq, harr⟩ := hround y seen a w hInv hJ bb (.inLoop _ :: k) cs
        rcases hq with ⟨rfl, y', seen', h1, h3, h4⟩ | ⟨hne, hq⟩
        · obtain ⟨e2, a2, w2, hq2, harr2⟩ := ih (leftOf es seen').size (by omega) y' seen' a1 w1 rfl h3 h4 bb k cs
          exact ⟨e2, a2, w2, hq2, .of_steps (Steps.trans harr (.one step_inLoop)) harr2⟩
        · cases e with
          | normal => exact absurd rfl hne
          | exit id => exact ⟨_, a1, w1, hq, .pass (x := .inLoop _) rfl (fun _ _ => .inl (by simp)) harr⟩
          | goto l => exact ⟨_, a1, w1, hq, .pass (x := .inLoop _) rfl (fun _ _ => .inl (by simp)) harr⟩
          | ret => exact ⟨_, a1, w1, hq, .pass (x := .inLoop _) rfl (fun _ _ => .inl (by simp)) harr⟩
          | panic ch => exact ⟨_, a1, w1, hq, .pass (x := .inLoop _) rfl (fun _ _ => .inl (by simp)) harr⟩
          | outgrown => exact ⟨_, a1, w1, hq, .pass (x := .inLoop _) rfl (fun _ _ => .inl (by simp)) harr⟩
    intro n y seen a w hn' hInv hJ bb k cs
    obtain ⟨e, a', w', hq, harr⟩ := main n y seen a w hn' hInv hJ bb k cs
    exact ⟨e, a', w', hq, .of_steps (.one step_loop) harr⟩
  have hI0 : ∃ μ, Anch w0 N0 μ (st x0) w2 ∧ RelM (fun _ => False) (baseAt w0 w2 μ (st x0)) (fun z => N0 z ∨ z = b) μ (st x0) a2 w2 ∧ μ dI S.nx = some (some (b, 0)) ∧ w2.heap[b]? = some (.mapIter (some bm) clock #[] clock) ∧ w2.heap[bm]? = some (.map es clock) := by
    obtain ⟨μ3, hR3⟩ := hS _ _ _ _ ⟨μ1, hR2⟩
    have hb3 := hA2.back (fun _ h => .inl h) hR3
    exact ⟨μ3, hb3.anch, hR3.rebase rfl, hR3.n0.2 _ _ _ hμI, hit, hbm2⟩
  have hL0 : Inv x0 (keysLeft es #[]) := by
    refine h0 _ (keysLeft_nodup hw.2.2) (fun a => ?_)
    constructor
    · intro h
      obtain ⟨e, he, hk⟩ := List.mem_map.1 h
      have hfa := findA_mem hw.2.2 e (mem_leftOf.1 he).1 hk
      cases hc : assoc a m with
      | none => rw [hnn a hc] at hfa; cases hfa
      | some v => rfl
    · intro h
      obtain ⟨v, hv⟩ := Option.isSome_iff_exists.1 h
      obtain ⟨e, he, hk⟩ := findA_some_mem (hs a v hv).1
      exact List.mem_map.2 ⟨e, mem_leftOf.2 ⟨he, by simp⟩, hk⟩
  refine wp_block (wp_mono (main _ x0 #[] a2 w2 rfl hL0 hI0) ?_)
  rintro e a' w' ⟨S', hQ, hR⟩
  cases e with
  | exit id' =>
    simp only [einBlock] at hQ
    simp only [Exit.inBlock]
    split
    · rename_i he; rw [if_pos he] at hQ; exact ⟨S', hQ, hR⟩
    · rename_i he; rw [if_neg he] at hQ; exact ⟨S', hQ, hR⟩
  | _ => exact ⟨S', hQ, hR⟩
theorem acm_introW {f : FuncId} {fn : Func} {c : Code} {args : List V} {R : Bs → V → Prop} (hf : P.funcs[f]? = some fn) (hb : fn.body = some c) (hl : args.length ≤ fn.ntmps)
    (h : ∀ w0 N0, AW P w0 N0 c (EndsM fn (R w0)) ⟨env0 0 args, [], 0, fn.ntmps⟩)
    (w : World) (N : Nat → Prop) (xs : List Value) (hN : ∀ b, N b → b < w.heap.size) (hlen : xs.length = args.length) (hp : ∀ (i : Nat) x v, xs[i]? = some x → args[i]? = some v → Pur w N x v) :
    Calls P f xs.toArray w (fun e w' => ∃ x r, e = .returned x ∧ R ⟨w, fun _ => False, fun _ _ => none, []⟩ r ∧ Pur w' N x r ∧ Below w.heap.size w w') := by
  refine calls_of_wp hf hb (wp_mono (h ⟨w, fun _ => False, fun _ _ => none, []⟩ N _ w ⟨fun _ _ => none, ⟨rfl, ?_, Bs.Below.refl _, ⟨fun b hb => ⟨hN b hb, fun h => h⟩, fun _ _ _ h => by cases h⟩, fun d v hv => absurd rfl hv, fun d o hd => ?_, fun d o _ _ _ _ _ hd => ?_, fun t v hv => ?_⟩⟩) ?_)
  · simp only [Array.size_append, List.size_toArray, Array.size_replicate]; omega
  · simp [get] at hd
  · simp [get] at hd
  · obtain ⟨_, h2⟩ := get_env0 hv
    simp only [Nat.sub_zero] at h2
    have ht : t < args.length := (List.getElem?_eq_some_iff.1 h2).1
    refine ⟨by simp only; omega, .pur ?_⟩
    have hx : xs[t]? = some xs[t] := List.getElem?_eq_getElem (by omega)
    have := hp t xs[t] v hx h2
    have hget : (xs.toArray ++ Array.replicate (fn.ntmps - xs.toArray.size) undef).getD t undef = xs[t] := by
      rw [Array.getD_eq_getD_getElem?, Array.getElem?_append_left (by simp; omega)]
      simp [hx]
    rw [hget]
    exact this.keep (Keeps.refl _ _) (fun b hb ho => by
      rcases ho with h0 | ⟨d, o, c, h1, _⟩
      · exact h0
      · simp [get] at h1)
  · rintro e a' w' ⟨S', hE, ⟨μ, hr⟩⟩
    have key : (∃ t v, fn.results.toList = [.tmp t] ∧ get S'.env t = some v ∧ v.pureV = true ∧ R ⟨w, fun _ => False, fun _ _ => none, []⟩ v) → ∃ v, (results fn a'.tmps).run P w' = .ok v w' ∧ ∃ x r, Ending.returned v = .returned x ∧ R ⟨w, fun _ => False, fun _ _ => none, []⟩ r ∧ Pur w' N x r ∧ Below w.heap.size w w' := by
      rintro ⟨t, v, h1, h2, h3, h4⟩
      have h5 := (hr.env t v h2).2.pureV h3
      refine ⟨a'.tmps.getD t undef, ?_, _, v, rfl, h4, h5.keep (Keeps.refl _ _) (fun b _ hb => .inl hb), hr.below.plain⟩
      rw [results_eq, Sem.run_bind, Array.mapM_eq_mapM_toList, Sem.run_map, h1]
      rfl
    cases e with
    | ret => exact ⟨hr.defers, key hE⟩
    | normal => exact ⟨hr.defers, key hE⟩
    | _ => exact hE.elim
theorem awl_callMp {ops : List Oper} {i : Nat} {o : Oper} {rest : List Oper} {f : Operand} {fid : FuncId} {fn : Func} {args : Array Operand} {ats : Array TypeId} {vs : List V} {k : IntKind} {m : List (Int × V)}
    (hg : o.guard = none) (ho : o.op = .call { callee := .value f, args := args, argTypes := ats }) (hf : S.evc true f = some (.fn fid)) (hfn : P.funcs[fid]? = some fn) (hb : fn.body.isSome = true) (hn : (fn.name == "runtime.NumGoroutine") = false)
    (ha : S.args true args.toList = some vs) (hp : vs.all V.pureV = true) (hc : ∀ (w : World) (N : Nat → Prop) (xs : List Value), (∀ b, N b → b < w.heap.size) → xs.length = vs.length → (∀ (i : Nat) x v, xs[i]? = some x → vs[i]? = some v → Pur w N x v) → Calls P fid xs.toArray w (fun e w' => ∃ x b, e = .returned x ∧ w.heap.size ≤ b ∧ Pur w' N x (.mp b k m) ∧ Below w.heap.size w w')) (h : ∀ b, w0.free b → ∃ S', S.putv o.dst (.mp b k m) = some S' ∧ AWL P w0 N0 ops Q (i + 1) rest S') : AWL P w0 N0 ops Q i (o :: rest) S := by
  rintro D a w hD ⟨μ, hr⟩
  refine wpList_plain hg fun K hK => ?_
  have hfv := hr.evc hf rfl
  have hfe : a.eval f = .func (.func fid) #[] #[] := by
    generalize a.eval f = y at hfv
    cases hfv with
    | pur hfv => cases hfv with
      | fn => rfl
  obtain ⟨h1, h2⟩ := args_spec hr rfl ha
  unfold Oper.wp
  rw [run_call_fn ho hfe hfn hb hn]
  have hcall := hc w (Own N0 μ S) (args.toList.map a.eval) hr.own_lt (by simp [h1]) (fun j x v hx hv => by
    simp only [List.getElem?_map, Option.map_eq_some_iff] at hx
    obtain ⟨y, hy, rfl⟩ := hx
    exact (h2 j y v hy hv).pureV (List.all_eq_true.1 hp v (List.mem_of_getElem? hv)))
  have harr : (args.toList.map a.eval).toArray = args.map a.eval := by apply Array.ext'; simp
  rw [harr] at hcall
  refine hcall.mono ?_
  rintro e w' ⟨x, b, rfl, hR, hpx, hbw⟩
  obtain ⟨S', hs, hrest⟩ := h b (.inl (Nat.le_trans hr.below.size hR))
  exact hK _ _ (hrest D _ w' (fun j hj => Nat.lt_succ_of_lt (hD j hj)) ⟨μ, (hr.later hbw).putv hs (.pur hpx)⟩)
end
end Go.Eng

namespace Go.Eng
open Go.RowKit Go.ChangeShapes Go.WideShapes Go.ChangeAt
end Go.Eng
