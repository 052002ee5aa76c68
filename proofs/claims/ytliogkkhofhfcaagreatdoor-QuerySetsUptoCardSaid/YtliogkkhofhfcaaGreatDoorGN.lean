import Derived.Test.YtliogkkhofhfcaaGreatDoorGK
import Derived.Test.YtliogkkhofhfcaaGreatDoorGM
/- Query: the numbers of a bank's items. No condition. -/
set_option linter.unusedSimpArgs false
set_option maxRecDepth 4000
namespace Go.Proofs.YtliogkkhofhfcaaGreatDoor
open Go.Eng Go.Sort

theorem acRelaxP {P : Program} {f : FuncId} {args : List V} {v' : V} (h : AC P f args (fun r => Relax r v')) : AC P f args (fun r => r = v') :=
  fun w N xs h1 h2 h3 => (h w N xs h1 h2 h3).mono fun _ _ ⟨x, _, he, hR, hp, hb⟩ => ⟨x, v', he, rfl, hR.1 _ _ _ hp, hb⟩
/-- The numbers of the last versions of entries, behind l, if they are distinct. -/
def numB : List En → List Int → Option (List Int)
  | [], l => some l
  | e :: r, l => match e.vers.getLast? with
    | none => numB r l
    | some it => if it.id ∈ l then none else numB r (l ++ [it.id])
def numV (o : Option (List Int)) : V := match o with
  | some l => .tup [.ro 1 (nums l), .bool true]
  | none => .tup [.ro 1 [], .bool false]
set_option maxHeartbeats 4000000 in
theorem numbers_ac (bk : Bk) (hbig : bk.ents.length ≤ 2000000) : AC Tryz.prog 19 [bk.v] (fun r => r = numV (numB bk.ents [])) := by
  refine acRelaxP ?_
  have hge := fun (k : Nat) (h : k < bk.ents.length) => nthEn h
  have hle : (bk.ents.map En.v).length = bk.ents.length := by simp
  rw [Bk.v]
  generalize hev : bk.ents.map En.v = ev at hge hle ⊢
  generalize bk.enem.map prV = emV
  refine ac_intro Tryz.func19 rfl (by show (1 : Nat) ≤ 37; omega) (fun w0 N0 => ?_)
  refine aw_step [1] [1] (by simp [Tryz.ntmps19] <;> rfl) ?_   -- law.go:129
  refine aw_step [1, 4] [1] (by simp <;> rfl) ?_   -- law.go:130
  refine aw_seq ?_
  refine aw_step [4, 9, 10, 11] [] (by simp <;> rfl) ?_   -- law.go:131
  refine aw_adoptS 4 100 1 3 [4, 9, 10, 11] [100] (by simp <;> rfl) (by simp <;> rfl) ?_
  refine aw_block ?_
  refine aw_loop (fun x : Nat × Nat × Nat × List Int => ⟨[(4, .sl 100 x.2.1 1 (nums x.2.2.2).length), (9, .ro 7 ev), (10, .int .i64 ev.length), (11, .int .i64 x.1)], [(100, ⟨x.2.1, 1, 3, nums x.2.2.2⟩)], x.2.2.1, 37⟩)
    (fun x => x.1 ≤ bk.ents.length ∧ x.2.2.2.length ≤ x.1 ∧ numB (bk.ents.drop x.1) x.2.2.2 = numB bk.ents []) (fun x => bk.ents.length - x.1) (0, _, _, []) ⟨Nat.zero_le _, by simp, by simp⟩ (AS.le_refl _) ?_
  rintro ⟨k, vr, nx, l⟩ ⟨hk, hl, hI⟩
  simp only at hk hl hI
  refine aw_step [4, 9, 10, 11, 12] [100] (by simp <;> rfl) ?_   -- law.go:131
  refine aw_seq ?_
  refine aw_cond rfl (fun h1 => aw_skip ?_) (fun h1 => ?_)   -- if t12
  · have hlt : k < bk.ents.length := by simp at h1; omega
    have hlt' : k < ev.length := by omega
    have ga := hge k hlt
    have hw := wrap_succ (k := k) (by omega)
    rw [List.drop_eq_getElem_cons hlt] at hI
    generalize bk.ents[k] = e at ga hI
    have hro : (nums l).length + 1 ≤ maxLen ∧ ((nums l).length + 1) * 8 ≤ 140737488355328 := by rw [numsL]; exact ⟨Nat.le_trans (show l.length + 1 ≤ 17592186044416 by omega) (by decide), by omega⟩
    rw [En.v] at ga
    have hgv := fun (j : Nat) (h : j < e.vers.length) => nthIt h
    have hlv : (e.vers.map It.v).length = e.vers.length := by simp
    generalize hvv : e.vers.map It.v = vv at ga hgv hlv
    rw [numB] at hI
    refine aw_seq ?_
    refine aw_block ?_
    refine aw_step [4, 6, 9, 10, 11] [6, 100] (by simp [ga, hlt'] <;> rfl) ?_   -- law.go:131
    refine aw_seq ?_
    refine aw_step [4, 6, 9, 10, 11, 16, 18] [6, 100] (by simp <;> rfl) ?_   -- law.go:132
    refine aw_len 16 rfl (fun hmaxv => ?_)
    unfold maxLen at hmaxv
    refine aw_cond rfl (fun h2 => ?_) (fun h2 => aw_skip ?_)   -- if t18
    · have hz : e.vers = [] := List.length_eq_zero_iff.1 (by simp at h2; rw [← hlv, h2]; rfl)
      rw [hz] at hI
      refine aw_exit ?_
      refine aw_one [4, 9, 10, 11] [100] (by simp [hw] <;> rfl) ?_   -- law.go:131
      exact ⟨(k + 1, _, _, l), ⟨hlt, by simp only; omega, hI⟩, by simp only; omega, AS.le_refl _⟩
    have hpos : 0 < e.vers.length := by
      rcases Nat.eq_zero_or_pos e.vers.length with h | h
      · rw [List.length_eq_zero_iff.1 (hlv.trans h)] at h2; simp at h2
      · exact h
    have hlast : e.vers.getLast? = some (e.vers[e.vers.length - 1]'(by omega)) := by
      rw [List.getLast?_eq_getElem?, List.getElem?_eq_getElem (by omega)]
    have hgl := hgv (e.vers.length - 1) (by omega)
    rw [hlast] at hI
    generalize e.vers[e.vers.length - 1]'(by omega) = it at hgl hI
    simp only at hI
    obtain ⟨ix, hix, hixv⟩ : ∃ ix : Int, IntKind.i64.wrap ((vv.length : Int) - 1) = ix ∧ ix = ((e.vers.length - 1 : Nat) : Int) := ⟨_, rfl, by rw [wrap_in (by omega) (by omega)]; omega⟩
    have hix0 : 0 ≤ ix ∧ ix < (vv.length : Int) := by omega
    have hixn : ix.toNat = e.vers.length - 1 := by omega
    rw [← hixn, It.v] at hgl
    refine aw_step [4, 7, 9, 10, 11] [100] (by simp [hix, hix0, hgl] <;> rfl) ?_   -- law.go:135
    refine aw_seq ?_
    refine aw_seq (aw_region ?_)   -- law.go:136
    refine awl_go 2 (by simp <;> rfl) ?_
    have hh := has_ac l it.id
    have hp := pureNum l
    have hnu : nums (l ++ [it.id]) = nums l ++ [.int .i64 it.id] := by simp [nums]
    generalize nums l = rk at hh hp hro hnu ⊢
    refine awl_call1v hh Tryz.func21 rfl (by kernel_rfl) rfl rfl rfl (by simp <;> rfl) (by simp [hp] <;> rfl) rfl (by simp <;> rfl) ?_
    refine awl_end [4, 7, 9, 10, 11, 30] [100] (by simp <;> rfl) ?_
    refine aw_cond rfl (fun h3 => ?_) (fun h3 => aw_skip ?_)   -- if t30
    · have hm : it.id ∈ l := by simpa using h3
      rw [if_pos hm] at hI
      rw [← hI]
      refine aw_step [2, 3] [] (by simp <;> rfl) ?_   -- law.go:137
      exact aw_ret (ends_ret (by simp [Tryz.results19] <;> rfl) (Relax.tup (.cons (.nils 1) (.refl _))))
    have hm : ¬ it.id ∈ l := by simpa using h3
    rw [if_neg hm] at hI
    refine aw_one [4, 9, 10, 11] [100] (by simp [hro] <;> rfl) ?_   -- law.go:139
    refine aw_one [4, 9, 10, 11] [100] (by simp [hw] <;> rfl) ?_   -- law.go:131
    exact ⟨(k + 1, _, _, l ++ [it.id]), ⟨hlt, by simp; omega, hI⟩, by simp only; omega, by simp only [hnu, List.length_append, List.length_cons, List.length_nil]; exact AS.le_refl _⟩
  · refine aw_exit ?_
    have hk' : k = bk.ents.length := by simp at h1; omega
    subst hk'
    rw [List.drop_length, numB] at hI
    rw [← hI]
    have hp := pureNum l
    refine aw_freeze 100 [4] [] (by simp [hp, Eng.get] <;> rfl) ?_
    refine aw_step [2, 3] [] (by simp <;> rfl) ?_   -- law.go:141
    exact aw_ret (ends_ret (by simp [Tryz.results19] <;> rfl) (Relax.refl _))
end Go.Proofs.YtliogkkhofhfcaaGreatDoor

/- Query: plain law of selections. No condition. -/
set_option linter.unusedSimpArgs false
namespace Go.Proofs.YtliogkkhofhfcaaGreatDoor
open Go.Eng Go.Sort

theorem compact_up {d : Array Int} (hs : ∀ a b, a < b → b < d.size → d[a]! ≤ d[b]!) : ∀ m, m ≤ d.size → (Lib.compactUpTo d m).Pairwise (· < ·) ∧ (∀ x, x ∈ Lib.compactUpTo d m ↔ ∃ i, i < m ∧ d[i]! = x)
  | 0, _ => by simp [Lib.compactUpTo]
  | m + 1, hm => by
    obtain ⟨h1, h2⟩ := compact_up hs m (by omega)
    rw [Lib.compactUpTo_succ]
    by_cases hk : Lib.keeps d m = true
    · rw [if_pos hk]
      have hall : ∀ x ∈ Lib.compactUpTo d m, x < d[m]! := by
        intro x hx
        obtain ⟨i, hi, rfl⟩ := (h2 x).1 hx
        have hne : d[m]! ≠ d[m - 1]! := by
          intro he
          have := Lib.keeps_neg (d := d) (m := m) (by omega) he
          rw [hk] at this; cases this
        have h3 := hs (m - 1) m (by omega) (by omega)
        rcases Nat.lt_or_ge i (m - 1) with h4 | h4
        · have := hs i (m - 1) h4 (by omega)
          omega
        · have : i = m - 1 := by omega
          subst this
          omega
      refine ⟨List.pairwise_append.2 ⟨h1, by simp, fun x hx y hy => by simp at hy; subst hy; exact hall x hx⟩, fun x => ?_⟩
      simp only [List.mem_append, List.mem_singleton, h2]
      constructor
      · rintro (⟨i, hi, he⟩ | he)
        · exact ⟨i, by omega, he⟩
        · exact ⟨m, by omega, he.symm⟩
      · rintro ⟨i, hi, he⟩
        rcases Nat.lt_or_ge i m with h5 | h5
        · exact .inl ⟨i, h5, he⟩
        · have : i = m := by omega
          subst this
          exact .inr he.symm
    · rw [if_neg hk, List.append_nil]
      refine ⟨h1, fun x => ?_⟩
      rw [h2]
      have heq : 0 < m ∧ d[m]! = d[m - 1]! := by
        constructor
        · rcases Nat.eq_zero_or_pos m with h0 | h0
          · subst h0; exact absurd (Lib.keeps_lt_one d 0 (by omega)) hk
          · exact h0
        · exact Classical.byContradiction fun hne => hk (Lib.keeps_pos hne)
      constructor
      · rintro ⟨i, hi, he⟩
        exact ⟨i, by omega, he⟩
      · rintro ⟨i, hi, he⟩
        rcases Nat.lt_or_ge i m with h5 | h5
        · exact ⟨i, h5, he⟩
        · have : i = m := by omega
          subst this
          exact ⟨i - 1, by omega, by rw [← heq.2]; exact he⟩

/-- What is sorted and compacted rises, and holds what was there. -/
theorem sorted_up (zs : List Int) : (Lib.compact (sortI zs)).Pairwise (· < ·) ∧ ∀ x, x ∈ Lib.compact (sortI zs) ↔ x ∈ zs := by
  have hsorted : (sortI zs).Pairwise (fun a b => decide (a ≤ b) = true) := by
    refine List.pairwise_mergeSort (le := fun x y => decide (x ≤ y)) (fun a b c h1 h2 => ?_) (fun a b => ?_) _
    · simp at h1 h2 ⊢; omega
    · simp; omega
  have hup := compact_up (d := (sortI zs).toArray) (fun a b hab hb => by
    simp only [List.size_toArray] at hb
    have := List.pairwise_iff_getElem.1 hsorted a b (by omega) hb hab
    simp only [decide_eq_true_eq] at this
    rw [getElem!_pos _ a (by simp; omega), getElem!_pos _ b (by simpa using hb)]
    simpa using this) (sortI zs).length (by simp)
  refine ⟨hup.1, fun x => ?_⟩
  have h1 : x ∈ Lib.compact (sortI zs) ↔ x ∈ sortI zs := by
    show x ∈ Lib.compactUpTo _ _ ↔ _
    rw [hup.2]
    constructor
    · rintro ⟨i, hi, rfl⟩
      rw [getElem!_pos _ i (by simpa using hi)]
      simp
    · intro hx
      obtain ⟨i, hi, he⟩ := List.getElem_of_mem hx
      exact ⟨i, hi, by rw [getElem!_pos _ i (by simpa using hi)]; simpa using he⟩
  rw [h1, sortI, List.mem_mergeSort]

/-- The entries that have an item. -/
def entsN (bk : Bk) : List En := bk.ents.filter fun e => !e.vers.isEmpty
def picked (bk : Bk) (q : Qy) : List Int := ((entsN bk).filter (matchQ bk · q)).map lastId
theorem selL_picked (bk : Bk) (q : Qy) : selL bk q bk.ents = picked bk q := by
  unfold selL picked entsN
  rw [List.filter_filter]
  congr 1
  refine List.filter_congr (fun e _ => ?_)
  unfold selK
  exact Bool.and_comm _ _
theorem numB_spec : ∀ (l : List En) (a m : List Int), a.Nodup → numB l a = some m → m = a ++ (l.filter fun e => !e.vers.isEmpty).map lastId ∧ m.Nodup
  | [], a, m, ha, h => by
    simp only [numB, Option.some.injEq] at h
    subst h
    simp [ha]
  | e :: r, a, m, ha, h => by
    rw [numB] at h
    cases hl : e.vers.getLast? with
    | none =>
      rw [hl] at h
      have hz : e.vers = [] := List.getLast?_eq_none_iff.1 hl
      obtain ⟨h1, h2⟩ := numB_spec r a m ha h
      exact ⟨by rw [h1]; simp [hz], h2⟩
    | some it =>
      rw [hl] at h
      simp only at h
      split at h
      · cases h
      · rename_i hm
        have hne : e.vers.isEmpty = false := by
          cases hv : e.vers with
          | nil => rw [hv] at hl; cases hl
          | cons _ _ => rfl
        have hid : lastId e = it.id := by unfold lastId; rw [hl]
        have ha' : (a ++ [it.id]).Nodup := by
          rw [List.nodup_append]
          exact ⟨ha, by simp, fun x hx y hy => by rw [List.mem_singleton] at hy; subst hy; rintro rfl; exact hm hx⟩
        obtain ⟨h1, h2⟩ := numB_spec r (a ++ [it.id]) m ha' h
        exact ⟨by rw [h1]; simp [hne, hid], h2⟩
theorem sel_up (bk : Bk) (q : Qy) : (selQ bk q).Pairwise (· < ·) ∧ ∀ x, x ∈ selQ bk q ↔ x ∈ picked bk q := by
  have := sorted_up (selL bk q bk.ents)
  rw [selL_picked] at this
  exact ⟨by unfold selQ; rw [selL_picked]; exact this.1, fun x => by unfold selQ; rw [selL_picked]; exact this.2 x⟩
/-- What is so of a bank whose items' numbers are distinct. -/
theorem sets_law (bk : Bk) (p q : Qy) (all : List Int) (h : numB bk.ents [] = some all) :
    (∀ n ∈ selQ bk (orQy p q), n ∈ all) ∧
    (∀ n ∈ all, (n ∈ selQ bk (andQy p q) ↔ n ∈ selQ bk p ∧ n ∈ selQ bk q) ∧ (n ∈ selQ bk (orQy p q) ↔ n ∈ selQ bk p ∨ n ∈ selQ bk q) ∧ (n ∈ selQ bk (notQy p) ↔ ¬ n ∈ selQ bk p)) ∧
    (selQ bk (andQy p q)).length + (selQ bk (orQy p q)).length = (selQ bk p).length + (selQ bk q).length ∧
    (selQ bk (notQy p)).length + (selQ bk p).length = all.length := by
  obtain ⟨h1, h2⟩ := numB_spec bk.ents [] all List.nodup_nil h
  rw [List.nil_append] at h1
  change all = (entsN bk).map lastId at h1
  have hinj : ∀ e ∈ entsN bk, ∀ f ∈ entsN bk, lastId e = lastId f → e = f := by
    rw [h1] at h2
    have key : ∀ l : List En, (l.map lastId).Nodup → ∀ e ∈ l, ∀ f ∈ l, lastId e = lastId f → e = f := by
      intro l
      induction l with
      | nil => intro _ e he; cases he
      | cons a r ih =>
        intro hn e he f hf hef
        rw [List.map_cons, List.nodup_cons] at hn
        rcases List.mem_cons.1 he with he1 | he1
        · rcases List.mem_cons.1 hf with hf1 | hf1
          · rw [he1, hf1]
          · exact absurd (List.mem_map.2 ⟨f, hf1, by rw [← hef, he1]⟩) hn.1
        · rcases List.mem_cons.1 hf with hf1 | hf1
          · exact absurd (List.mem_map.2 ⟨e, he1, by rw [hef, hf1]⟩) hn.1
          · exact ih hn.2 e he1 f hf1 hef
    exact key _ h2
  have mem : ∀ (x : Qy) (e : En), e ∈ entsN bk → (lastId e ∈ selQ bk x ↔ matchQ bk e x = true) := by
    intro x e he
    rw [(sel_up bk x).2]
    unfold picked
    constructor
    · intro hm
      obtain ⟨f, hf, hfe⟩ := List.mem_map.1 hm
      obtain ⟨hf1, hf2⟩ := List.mem_filter.1 hf
      have := hinj f hf1 e he hfe
      subst this
      exact hf2
    · intro hm
      exact List.mem_map.2 ⟨e, List.mem_filter.2 ⟨he, hm⟩, rfl⟩
  have len : ∀ x : Qy, (selQ bk x).length = ((entsN bk).filter (matchQ bk · x)).length := by
    intro x
    have hn1 : (selQ bk x).Nodup := (sel_up bk x).1.imp (fun h => by omega)
    have hn2 : (picked bk x).Nodup := by
      have hs : (picked bk x).Sublist ((entsN bk).map lastId) := (List.filter_sublist).map _
      exact hs.nodup (h1 ▸ h2)
    have hp := (List.perm_ext_iff_of_nodup hn1 hn2).2 (sel_up bk x).2
    rw [hp.length_eq, picked, List.length_map]
  have hcnt : ∀ l : List En, (l.filter (matchQ bk · (andQy p q))).length + (l.filter (matchQ bk · (orQy p q))).length = (l.filter (matchQ bk · p)).length + (l.filter (matchQ bk · q)).length ∧ (l.filter (matchQ bk · (notQy p))).length + (l.filter (matchQ bk · p)).length = l.length := by
    intro l
    induction l with
    | nil => simp
    | cons e r ih =>
      simp only [List.filter_cons, m_and, m_or, m_not] at ih ⊢
      cases matchQ bk e p <;> cases matchQ bk e q <;> simp <;> omega
  refine ⟨fun n hn => ?_, fun n hn => ?_, ?_, ?_⟩
  · rw [(sel_up bk _).2] at hn
    obtain ⟨e, he, rfl⟩ := List.mem_map.1 hn
    rw [h1]
    exact List.mem_map.2 ⟨e, (List.mem_filter.1 he).1, rfl⟩
  · rw [h1] at hn
    obtain ⟨e, he, rfl⟩ := List.mem_map.1 hn
    simp only [mem _ e he, m_and, m_or, m_not]
    cases matchQ bk e p <;> cases matchQ bk e q <;> simp
  · rw [len, len, len, len]; exact (hcnt _).1
  · rw [len, len, h1, List.length_map]; exact (hcnt _).2
end Go.Proofs.YtliogkkhofhfcaaGreatDoor

/- Query: QuerySets, the walk. No condition. -/
set_option linter.unusedSimpArgs false
set_option maxRecDepth 4000
namespace Go.Proofs.YtliogkkhofhfcaaGreatDoor
open Go.Eng

set_option maxHeartbeats 8000000 in
theorem sets_acq (bk : Bk) (p q : Qy) (hst : ∀ e ∈ bk.ents, ∀ it ∈ e.vers, it.stem.length ≤ 2000000) (hbig : bk.ents.length ≤ 2000000) (hp : SmQ p) (hq : SmQ q) :
    ACQ gv Tryz.prog 6 [bk.v, p.v, q.v] (fun r => r = .bool true) := by
  have hnb := numbers_ac bk hbig
  have hAw := awake_acq
  have hs := fun x (hx : SmQ x) => select_acq bk x hst hx hbig
  have hA := and_ac p q
  have hO := or_ac p q
  have hN := not_ac p
  have s1 := hs p hp
  have s2 := hs q hq
  have s3 := hs _ (sm_and hp hq)
  have s4 := hs _ (sm_or hp hq)
  have s5 := hs _ (sm_not hp)
  have hlaw := sets_law bk p q
  have hup := (sel_up bk (orQy p q)).1
  have hYl : (selQ bk q).length ≤ 2000000 := by
    have h1 := compact_le (sortI (selL bk q bk.ents))
    have h2 := selL_len bk q bk.ents
    have h3 : (sortI (selL bk q bk.ents)).length = (selL bk q bk.ents).length := by simp [sortI]
    unfold selQ
    omega
  obtain ⟨pk, pc, pn, pf, ps, pv, vP⟩ : ∃ k c n f s kv, p.v = .agg [.int .i64 k, .int .i64 c, .int .i64 n, .str f, .str s, .ro 6 kv] := by
    obtain ⟨k, c, n, f, s, ks⟩ := p
    exact ⟨k, c, n, f, s, _, by rw [Qy.v]⟩
  obtain ⟨qk, qc, qn, qf, qs, qv, vQ⟩ : ∃ k c n f s kv, q.v = .agg [.int .i64 k, .int .i64 c, .int .i64 n, .str f, .str s, .ro 6 kv] := by
    obtain ⟨k, c, n, f, s, ks⟩ := q
    exact ⟨k, c, n, f, s, _, by rw [Qy.v]⟩
  obtain ⟨k1, v1⟩ : ∃ kv, (andQy p q).v = .agg [.int .i64 1, .int .i64 0, .int .i64 0, .str [], .str [], .ro 6 kv] := ⟨_, by rw [andQy, Qy.v]⟩
  obtain ⟨k2, v2⟩ : ∃ kv, (orQy p q).v = .agg [.int .i64 2, .int .i64 0, .int .i64 0, .str [], .str [], .ro 6 kv] := ⟨_, by rw [orQy, Qy.v]⟩
  obtain ⟨k3, v3⟩ : ∃ kv, (notQy p).v = .agg [.int .i64 3, .int .i64 0, .int .i64 0, .str [], .str [], .ro 6 kv] := ⟨_, by rw [notQy, Qy.v]⟩
  simp only [vP, vQ, v1, v2, v3] at hA hO hN s1 s2 s3 s4 s5 ⊢
  generalize selQ bk p = X at *
  generalize selQ bk q = Y at *
  generalize selQ bk (andQy p q) = B at *
  generalize selQ bk (orQy p q) = S at *
  generalize selQ bk (notQy p) = R at *
  rw [Bk.v] at hnb s1 s2 s3 s4 s5 ⊢
  clear hs
  generalize bk.ents.map En.v = entsV at hnb s1 s2 s3 s4 s5 ⊢
  generalize bk.enem.map prV = emV at hnb s1 s2 s3 s4 s5 ⊢
  have pX := pureNum X
  have pY := pureNum Y
  have pB := pureNum B
  have pS := pureNum S
  have pR := pureNum R
  refine acq_intro Tryz.func6 rfl (by show (3 : Nat) ≤ 142; omega) (fun w0 N0 hG => ?_)
  refine aw_step [3, 4, 5] [3, 4, 5] (by simp [Tryz.ntmps6] <;> rfl) ?_   -- law.go:145
  refine aw_seq (aw_region ?_)   -- law.go:146
  refine awl_go 1 (by simp <;> rfl) ?_
  cases hnum : numB bk.ents [] with
  | none =>
    rw [hnum] at hnb
    unfold numV at hnb
    refine awl_call1 hnb Tryz.func19 rfl (by kernel_rfl) rfl rfl rfl (by simp <;> rfl) (by simp [V.pureV, V.pureE]) (by simp <;> rfl) ?_
    refine awl_end [3, 4, 5, 7, 8] [3, 4, 5] (by simp <;> rfl) ?_
    refine aw_seq ?_
    refine aw_step [3, 4, 5, 7, 29] [3, 4, 5] (by simp <;> rfl) ?_   -- law.go:147
    refine aw_cond rfl (fun h1 => ?_) (fun h1 => by simp at h1)   -- if t29
    refine aw_seq (aw_region ?_)   -- law.go:148
    refine awl_callQ hG hAw Tryz.func12 rfl (by kernel_rfl) (by simp) rfl rfl rfl (by simp <;> rfl) (by simp) (by simp <;> rfl) ?_
    refine awl_end [6] [] (by simp <;> rfl) ?_
    exact aw_ret (ends_ret (by simp [Tryz.results6] <;> rfl) rfl)
  | some all =>
    rw [hnum] at hnb
    unfold numV at hnb
    simp only at hnb
    obtain ⟨law1, law2, law3, law4⟩ := hlaw all hnum
    clear hlaw
    have pA := pureNum all
    have hAl := numsL all
    refine awl_call1 hnb Tryz.func19 rfl (by kernel_rfl) rfl rfl rfl (by simp <;> rfl) (by simp [V.pureV, V.pureE]) (by simp <;> rfl) ?_
    refine awl_end [3, 4, 5, 7, 8] [3, 4, 5] (by simp <;> rfl) ?_
    refine aw_seq ?_
    refine aw_step [3, 4, 5, 7, 29] [3, 4, 5] (by simp <;> rfl) ?_   -- law.go:147
    refine aw_cond rfl (fun h1 => ?_) (fun h1 => aw_skip ?_)   -- if t29
    · refine aw_seq (aw_region ?_)   -- law.go:148
      refine awl_callQ hG hAw Tryz.func12 rfl (by kernel_rfl) (by simp) rfl rfl rfl (by simp <;> rfl) (by simp) (by simp <;> rfl) ?_
      refine awl_end [6] [] (by simp <;> rfl) ?_
      exact aw_ret (ends_ret (by simp [Tryz.results6] <;> rfl) rfl)
    have hA40 : all.length ≤ 40 := by simp [hAl] at h1; omega
    have hb := fun (l : List Int) => numsL l
    refine aw_seq (aw_region ?_)   -- law.go:150
    refine awl_go 2 (by simp <;> rfl) ?_
    refine awl_callQ hG s1 Tryz.func20 rfl (by kernel_rfl) (by simp) rfl rfl rfl (by simp <;> rfl) (by simp [V.pureV, V.pureE]) (by simp <;> rfl) ?_
    refine awl_end [3, 4, 5, 7, 9] [3, 4, 5] (by simp <;> rfl) ?_
    refine aw_seq (aw_region ?_)   -- law.go:151
    refine awl_go 2 (by simp <;> rfl) ?_
    refine awl_callQ hG s2 Tryz.func20 rfl (by kernel_rfl) (by simp) rfl rfl rfl (by simp <;> rfl) (by simp [V.pureV, V.pureE]) (by simp <;> rfl) ?_
    refine awl_end [3, 4, 5, 7, 9, 10] [3, 4, 5] (by simp <;> rfl) ?_
    refine aw_seq (aw_draw [(0, []), (1, []), (2, []), (3, []), (4, []), (5, [])] hmix (by kernel_rfl) ?_)   -- law.go:152
    refine awo_go 3 (by simp <;> rfl) ?_
    refine awo_call (fun _ => hA) Tryz.func17 rfl (by kernel_rfl) rfl rfl (by simp <;> rfl) rfl rfl (by simp <;> rfl) (by simp [V.pureV, V.pureE]) (by simp <;> rfl) ?_
    refine awo_callQ hG (fun _ => s3) Tryz.func20 rfl (by kernel_rfl) rfl rfl (by simp <;> rfl) rfl rfl (by simp <;> rfl) (by simp [V.pureV, V.pureE]) (by simp <;> rfl) ?_
    refine awo_end [3, 4, 5, 7, 9, 10, 11] [3, 4, 5] (by simp <;> rfl) ?_
    refine aw_seq (aw_draw [(0, []), (1, []), (2, []), (3, []), (4, []), (5, [])] hmix (by kernel_rfl) ?_)   -- law.go:153
    refine awo_go 3 (by simp <;> rfl) ?_
    refine awo_call (fun _ => hO) Tryz.func18 rfl (by kernel_rfl) rfl rfl (by simp <;> rfl) rfl rfl (by simp <;> rfl) (by simp [V.pureV, V.pureE]) (by simp <;> rfl) ?_
    refine awo_callQ hG (fun _ => s4) Tryz.func20 rfl (by kernel_rfl) rfl rfl (by simp <;> rfl) rfl rfl (by simp <;> rfl) (by simp [V.pureV, V.pureE]) (by simp <;> rfl) ?_
    refine awo_end [3, 4, 7, 9, 10, 11, 12] [3, 4] (by simp <;> rfl) ?_
    refine aw_seq (aw_draw [(0, []), (1, []), (2, []), (3, []), (4, [])] hmix (by kernel_rfl) ?_)   -- law.go:154
    refine awo_go 2 (by simp <;> rfl) ?_
    refine awo_call (fun _ => hN) Tryz.func16 rfl (by kernel_rfl) rfl rfl (by simp <;> rfl) rfl rfl (by simp <;> rfl) (by simp [V.pureV, V.pureE]) (by simp <;> rfl) ?_
    refine awo_callQ hG (fun _ => s5) Tryz.func20 rfl (by kernel_rfl) rfl rfl (by simp <;> rfl) rfl rfl (by simp <;> rfl) (by simp [V.pureV, V.pureE]) (by simp <;> rfl) ?_
    refine awo_end [7, 9, 10, 11, 12, 13] [] (by simp <;> rfl) ?_
    refine aw_len 9 rfl (fun mX => ?_)
    refine aw_len 10 rfl (fun mY => ?_)
    refine aw_len 11 rfl (fun mB => ?_)
    refine aw_len 12 rfl (fun mS => ?_)
    refine aw_len 13 rfl (fun mR => ?_)
    unfold maxLen at mX mY mB mS mR
    refine aw_seq ?_
    refine aw_step [7, 9, 10, 11, 12, 13, 51, 52, 53] [] (by simp <;> rfl) ?_   -- law.go:155
    have hgS := fun (k : Nat) (h : k < S.length) => nthNum h
    have hSl := numsL S
    have hh := fun n => has_ac all n
    have hgA := fun (k : Nat) (h : k < all.length) => nthNum h
    have hhX := fun n => has_ac X n
    have hhY := fun n => has_ac Y n
    have hhB := fun n => has_ac B n
    have hhS := fun n => has_ac S n
    have hhR := fun n => has_ac R n
    have lX := numsL X
    have lY := numsL Y
    have lB := numsL B
    have lR := numsL R
    clear hnb s1 s2 s3 s4 s5 hA hO hN hnum
    generalize nums S = sv at *
    generalize nums all = av at *
    generalize nums X = xv at *
    generalize nums Y = yv at *
    generalize nums B = bv at *
    generalize nums R = rv at *
    refine aw_block ?_
    refine aw_count (fun k nx => ⟨[(7, .ro 1 av), (9, .ro 1 xv), (10, .ro 1 yv), (11, .ro 1 bv), (12, .ro 1 sv), (13, .ro 1 rv), (51, .ro 1 sv), (52, .int .i64 sv.length), (53, .int .i64 k)], [], nx, 142⟩) (fun _ => True) S.length _ trivial (AS.le_refl _) ?_
    intro k nx hk _
    refine aw_step [7, 9, 10, 11, 12, 13, 51, 52, 53, 54] [] (by simp <;> rfl) ?_   -- law.go:155
    refine aw_seq ?_
    refine aw_cond rfl (fun h2 => aw_skip ?_) (fun h2 => ?_)   -- if t54
    · have hlt : k < S.length := by simp at h2; omega
      have hlt' : k < sv.length := by omega
      have ga := hgS k hlt
      have hw := wrap_succ (k := k) (by omega)
      have hin : S[k] ∈ all := law1 _ (List.getElem_mem hlt)
      have hc := hh S[k]
      rw [show decide (S[k] ∈ all) = true by simpa using hin] at hc
      refine aw_seq ?_
      refine aw_block ?_
      refine aw_step [7, 9, 10, 11, 12, 13, 14, 15, 51, 52, 53] [] (by simp [ga, hlt'] <;> rfl) ?_   -- law.go:155
      refine aw_seq (aw_region ?_)   -- law.go:156
      rcases Nat.eq_zero_or_pos k with h0 | h0
      · subst h0
        refine awl_go 3 (by simp <;> rfl) ?_
        refine awl_skips 7 (by simp <;> rfl) ?_
        refine awl_go 4 (by simp <;> rfl) ?_
        refine awl_gcall (fun _ => hc) Tryz.func21 rfl (by kernel_rfl) (by simp <;> rfl) rfl rfl (by simp <;> rfl) (by simp [pA]) (by simp <;> rfl) ?_
        refine awl_end [7, 9, 10, 11, 12, 13, 51, 52, 53, 74] [] (by simp <;> rfl) ?_
        refine aw_cond rfl (fun h3 => by simp at h3) (fun h3 => aw_skip ?_)   -- if t74
        refine aw_one [7, 9, 10, 11, 12, 13, 51, 52, 53] [] (by simp <;> rfl) ?_   -- law.go:155
        exact ⟨hlt, trivial, _, AS.le_refl _⟩
      have hlt1 : k - 1 < S.length := by omega
      have gb := hgS (k - 1) hlt1
      have hrise : S[k - 1] < S[k] := List.pairwise_iff_getElem.1 hup (k - 1) k hlt1 hlt (by omega)
      obtain ⟨kx, hkx, hkv⟩ : ∃ kx : Int, IntKind.i64.wrap ((k : Int) - 1) = kx ∧ kx = ((k - 1 : Nat) : Int) := ⟨_, rfl, by rw [wrap_in (by omega) (by omega)]; omega⟩
      have hkx0 : 0 ≤ kx ∧ kx < (sv.length : Int) := by omega
      have hkn : kx.toNat = k - 1 := by omega
      generalize S[k - 1] = u at gb hrise
      generalize S[k] = t at ga hin hc hrise ⊢
      rw [← hkn] at gb
      have hle : ¬ t ≤ u := by omega
      refine awl_go 14 (by simp [h0, hkx, hkx0, gb, hle] <;> rfl) ?_
      refine awl_gcall (fun _ => hc) Tryz.func21 rfl (by kernel_rfl) (by simp [hle] <;> rfl) rfl rfl (by simp [hle] <;> rfl) (by simp [pA]) (by simp [hle] <;> rfl) ?_
      refine awl_end [7, 9, 10, 11, 12, 13, 51, 52, 53, 74] [] (by simp [hle] <;> rfl) ?_
      refine aw_cond rfl (fun h3 => by simp at h3) (fun h3 => aw_skip ?_)   -- if t74
      refine aw_one [7, 9, 10, 11, 12, 13, 51, 52, 53] [] (by simp [hw] <;> rfl) ?_   -- law.go:155
      exact ⟨hlt, trivial, _, AS.le_refl _⟩
    · refine aw_exit ?_
      refine aw_seq ?_
      refine aw_step [7, 9, 10, 11, 12, 13, 76, 77, 78] [] (by simp <;> rfl) ?_   -- law.go:160
      refine aw_block ?_
      refine aw_count (fun k nx => ⟨[(7, .ro 1 av), (9, .ro 1 xv), (10, .ro 1 yv), (11, .ro 1 bv), (12, .ro 1 sv), (13, .ro 1 rv), (76, .ro 1 av), (77, .int .i64 av.length), (78, .int .i64 k)], [], nx, 142⟩) (fun _ => True) all.length _ trivial (AS.le_refl _) ?_
      intro k nx hk _
      refine aw_step [7, 9, 10, 11, 12, 13, 76, 77, 78, 79] [] (by simp <;> rfl) ?_   -- law.go:160
      refine aw_seq ?_
      refine aw_cond rfl (fun h4 => aw_skip ?_) (fun h4 => ?_)   -- if t79
      · have hlt : k < all.length := by simp at h4; omega
        have hlt' : k < av.length := by omega
        have ga := hgA k hlt
        have hw := wrap_succ (k := k) (by omega)
        obtain ⟨e1, e2, e3⟩ := law2 _ (List.getElem_mem hlt)
        generalize all[k] = n at ga e1 e2 e3
        have cX := hhX n
        have cY := hhY n
        have cB := hhB n
        have cS := hhS n
        have cR := hhR n
        rw [show decide (n ∈ B) = (decide (n ∈ X) && decide (n ∈ Y)) by simp [e1]] at cB
        rw [show decide (n ∈ S) = (decide (n ∈ X) || decide (n ∈ Y)) by simp [e2]] at cS
        rw [show decide (n ∈ R) = !decide (n ∈ X) by simp [e3]] at cR
        generalize decide (n ∈ X) = x at cX cB cS cR
        generalize decide (n ∈ Y) = y at cY cB cS
        clear e1 e2 e3 hhX hhY hhB hhS hhR hh
        refine aw_seq ?_
        refine aw_block ?_
        refine aw_step [7, 9, 10, 11, 12, 13, 17, 76, 77, 78] [] (by simp [ga, hlt'] <;> rfl) ?_   -- law.go:160
        refine aw_seq (aw_region ?_)   -- law.go:161
        cases x <;> cases y <;> simp only [Bool.not_true, Bool.not_false, Bool.and_true, Bool.and_false, Bool.or_true, Bool.or_false, Bool.and_self, Bool.or_self, Bool.true_and, Bool.false_and, Bool.true_or, Bool.false_or] at cB cS cR
        all_goals
          refine awl_go 2 (by simp <;> rfl) ?_
          refine awl_call1 cB Tryz.func21 rfl (by kernel_rfl) rfl rfl rfl (by simp <;> rfl) (by simp [pB]) (by simp <;> rfl) ?_
          refine awl_go 2 (by simp <;> rfl) ?_
          refine awl_call1 cX Tryz.func21 rfl (by kernel_rfl) rfl rfl rfl (by simp <;> rfl) (by simp [pX]) (by simp <;> rfl) ?_
          refine awl_go 3 (by simp <;> rfl) ?_
          refine awl_gcall (fun _ => cY) Tryz.func21 rfl (by kernel_rfl) (by simp <;> rfl) rfl rfl (by simp <;> rfl) (by simp [pY]) (by simp <;> rfl) ?_
          refine awl_go 5 (by simp <;> rfl) ?_
          refine awl_gcall (fun _ => cS) Tryz.func21 rfl (by kernel_rfl) (by simp <;> rfl) rfl rfl (by simp <;> rfl) (by simp [pS]) (by simp <;> rfl) ?_
          refine awl_go 2 (by simp <;> rfl) ?_
          refine awl_gcall (fun _ => cX) Tryz.func21 rfl (by kernel_rfl) (by simp <;> rfl) rfl rfl (by simp <;> rfl) (by simp [pX]) (by simp <;> rfl) ?_
          refine awl_go 3 (by simp <;> rfl) ?_
          refine awl_gcall (fun _ => cY) Tryz.func21 rfl (by kernel_rfl) (by simp <;> rfl) rfl rfl (by simp <;> rfl) (by simp [pY]) (by simp <;> rfl) ?_
          refine awl_go 6 (by simp <;> rfl) ?_
          refine awl_gcall (fun _ => cR) Tryz.func21 rfl (by kernel_rfl) (by simp <;> rfl) rfl rfl (by simp <;> rfl) (by simp [pR]) (by simp <;> rfl) ?_
          refine awl_go 2 (by simp <;> rfl) ?_
          refine awl_gcall (fun _ => cX) Tryz.func21 rfl (by kernel_rfl) (by simp <;> rfl) rfl rfl (by simp <;> rfl) (by simp [pX]) (by simp <;> rfl) ?_
          refine awl_end [7, 9, 10, 11, 12, 13, 76, 77, 78, 116] [] (by simp <;> rfl) ?_
          refine aw_cond rfl (fun h5 => by simp at h5) (fun h5 => aw_skip ?_)   -- if t116
          refine aw_one [7, 9, 10, 11, 12, 13, 76, 77, 78] [] (by simp [hw] <;> rfl) ?_   -- law.go:160
          exact ⟨hlt, trivial, _, AS.le_refl _⟩
      · refine aw_exit ?_
        have w1 : IntKind.i64.wrap ((bv.length : Int) + sv.length) = (bv.length : Int) + sv.length := wrap_in (by omega) (by omega)
        have w2 : IntKind.i64.wrap ((xv.length : Int) + yv.length) = (bv.length : Int) + sv.length := by rw [wrap_in (by omega) (by omega)]; omega
        have w3 : IntKind.i64.wrap ((rv.length : Int) + xv.length) = (av.length : Int) := by rw [wrap_in (by omega) (by omega)]; omega
        refine aw_seq (aw_region ?_)   -- law.go:165
        refine awl_go 22 (by simp [w1, w2, w3] <;> rfl) ?_
        refine awl_gcallQ hG (fun _ => hAw) Tryz.func12 rfl (by kernel_rfl) (by simp <;> rfl) rfl rfl (by simp <;> rfl) (by simp) (by simp <;> rfl) ?_
        refine awl_end [6] [] (by simp <;> rfl) ?_
        exact aw_ret (ends_ret (by simp [Tryz.results6] <;> rfl) rfl)
end Go.Proofs.YtliogkkhofhfcaaGreatDoor
