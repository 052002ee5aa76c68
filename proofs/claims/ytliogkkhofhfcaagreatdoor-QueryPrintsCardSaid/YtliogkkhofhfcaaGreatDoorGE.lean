import Derived.Test.YtliogkkhofhfcaaGreatDoorGD
/- Query: queries, items, entries, banks; field, Under, enemies. No condition. -/
set_option linter.unusedSimpArgs false
set_option maxRecDepth 4000
namespace Go.Proofs.YtliogkkhofhfcaaGreatDoor
open Go.Eng

/-- Queries. -/
inductive Qy where
  | mk (kind cmp n : Int) (field s : List UInt8) (kids : List Qy)
def Qy.kind : Qy → Int
  | .mk k _ _ _ _ _ => k
def Qy.kids : Qy → List Qy
  | .mk _ _ _ _ _ ks => ks
def Qy.v : Qy → V
  | .mk k c n f s ks => .agg [.int .i64 k, .int .i64 c, .int .i64 n, .str f, .str s, .ro 6 (ks.map Qy.v)]
theorem Qy.kid_lt {k c n : Int} {f s : List UInt8} {ks : List Qy} {x : Qy} (h : x ∈ ks) : SizeOf.sizeOf x < SizeOf.sizeOf (Qy.mk k c n f s ks) := by
  have := List.sizeOf_lt_of_mem h
  simp only [Qy.mk.sizeOf_spec]
  omega
theorem Qy.v_pure (x : Qy) : x.v.pureE = true := by
  obtain ⟨t, k, n, s, f, ks⟩ := x
  rw [Qy.v]; rfl
theorem pureQ (l : List Qy) : (l.map Qy.v).all V.pureE = true := by
  rw [List.all_eq_true]
  intro x hx
  simp only [List.mem_map] at hx
  obtain ⟨y, _, rfl⟩ := hx
  exact y.v_pure
theorem nthQ {l : List Qy} {k : Nat} (h : k < l.length) : nth (l.map Qy.v) k = some l[k].v := by rw [nth_eq]; simp [h]

/-- Items. -/
structure It where
  id : Int
  ver : Int
  kind : Int
  stem : List UInt8
  opts : List V
  ch : List V
  value : Int
  tol : Int
  texts : List V
  points : Int
  code : List UInt8
  fam : Int
  set : Int
  words : Int
  secs : Int
  ass : List V
  rub : Int
def It.v (x : It) : V := .agg [.int .i64 x.id, .int .i64 x.ver, .int .i64 x.kind, .str x.stem, .ro 1 x.opts, .ro 1 x.ch, .int .i64 x.value, .int .i64 x.tol, .ro 1 x.texts, .int .i64 x.points, .str x.code, .int .i64 x.fam, .int .i64 x.set, .int .i64 x.words, .int .i64 x.secs, .ro 1 x.ass, .int .i64 x.rub]
theorem pureI (l : List It) : (l.map It.v).all V.pureE = true := by
  rw [List.all_eq_true]; intro x hx; obtain ⟨y, _, rfl⟩ := List.mem_map.1 hx; rfl
/-- Entries of a bank. -/
structure En where
  vers : List It
  state : Int
  author : Int
  appr : List V
  fair : List V
  log : List V
  rows : List V
def En.v (x : En) : V := .agg [.ro 17 (x.vers.map It.v), .int .i64 x.state, .int .i64 x.author, .ro 1 x.appr, .ro 1 x.fair, .ro 4 x.log, .ro 1 x.rows]
theorem pureEn (l : List En) : (l.map En.v).all V.pureE = true := by
  rw [List.all_eq_true]; intro x hx; obtain ⟨y, _, rfl⟩ := List.mem_map.1 hx; rfl
abbrev prV (p : Int × Int) : V := .agg [.int .i64 p.1, .int .i64 p.2]
theorem pureP (l : List (Int × Int)) : (l.map prV).all V.pureE = true := by
  rw [List.all_eq_true]; intro x hx; obtain ⟨y, _, rfl⟩ := List.mem_map.1 hx; rfl
/-- Banks. -/
structure Bk where
  now : Int
  gp : List V
  gq : List V
  outline : List V
  assets : List V
  ents : List En
  enem : List (Int × Int)
def Bk.v (x : Bk) : V := .agg [.int .i64 x.now, .ro 1 x.gp, .ro 1 x.gq, .ro 2 x.outline, .ro 5 x.assets, .ro 7 (x.ents.map En.v), .ro 2 (x.enem.map prV)]

def fieldI (x : It) (f : List UInt8) : Int := if f = [105, 100] then x.id else if f = [118, 101, 114, 115, 105, 111, 110] then x.ver else if f = [112, 111, 105, 110, 116, 115] then x.points else if f = [119, 111, 114, 100, 115] then x.words else if f = [115, 101, 99, 111, 110, 100, 115] then x.secs else if f = [102, 97, 109, 105, 108, 121] then x.fam else if f = [115, 101, 116] then x.set else 0
def isF (f : List UInt8) : Bool := decide (f = [105, 100]) || decide (f = [118, 101, 114, 115, 105, 111, 110]) || decide (f = [112, 111, 105, 110, 116, 115]) || decide (f = [119, 111, 114, 100, 115]) || decide (f = [115, 101, 99, 111, 110, 100, 115]) || decide (f = [102, 97, 109, 105, 108, 121]) || decide (f = [115, 101, 116])
set_option maxHeartbeats 1000000 in
theorem field_ac (x : It) (f : List UInt8) : AC Tryz.prog 31 [x.v, .str f] (fun r => r = .tup [.int .i64 (fieldI x f), .bool (isF f)]) := by
  unfold fieldI isF It.v
  refine ac_intro Tryz.func31 rfl (by show (2 : Nat) ≤ 35; omega) (fun w0 N0 => ?_)
  refine aw_step [1, 2] [2] (by simp [Tryz.ntmps31] <;> rfl) ?_   -- query.go:227
  refine aw_seq ?_
  refine aw_step [2, 6] [2] (by simp <;> rfl) ?_   -- query.go:228
  refine aw_block ?_
  refine aw_step [2, 6, 7] [2] (by simp <;> rfl) ?_   -- query.go:229
  refine aw_cond rfl (fun h1 => ?_) (fun h1 => ?_)   -- if t7
  · refine aw_step [4, 5] [] (by simp <;> rfl) ?_   -- query.go:230
    refine aw_ret (ends_ret (by simp [Tryz.results31] <;> rfl) ?_)
    simp_all
  · refine aw_step [2, 6, 11] [2] (by simp <;> rfl) ?_   -- query.go:231
    refine aw_cond rfl (fun h2 => ?_) (fun h2 => ?_)   -- if t11
    · refine aw_step [4, 5] [] (by simp <;> rfl) ?_   -- query.go:232
      refine aw_ret (ends_ret (by simp [Tryz.results31] <;> rfl) ?_)
      simp_all
    · refine aw_step [2, 6, 15] [2] (by simp <;> rfl) ?_   -- query.go:233
      refine aw_cond rfl (fun h3 => ?_) (fun h3 => ?_)   -- if t15
      · refine aw_step [4, 5] [] (by simp <;> rfl) ?_   -- query.go:234
        refine aw_ret (ends_ret (by simp [Tryz.results31] <;> rfl) ?_)
        simp_all
      · refine aw_step [2, 6, 19] [2] (by simp <;> rfl) ?_   -- query.go:235
        refine aw_cond rfl (fun h4 => ?_) (fun h4 => ?_)   -- if t19
        · refine aw_step [4, 5] [] (by simp <;> rfl) ?_   -- query.go:236
          refine aw_ret (ends_ret (by simp [Tryz.results31] <;> rfl) ?_)
          simp_all
        · refine aw_step [2, 6, 23] [2] (by simp <;> rfl) ?_   -- query.go:237
          refine aw_cond rfl (fun h5 => ?_) (fun h5 => ?_)   -- if t23
          · refine aw_step [4, 5] [] (by simp <;> rfl) ?_   -- query.go:238
            refine aw_ret (ends_ret (by simp [Tryz.results31] <;> rfl) ?_)
            simp_all
          · refine aw_step [2, 6, 27] [2] (by simp <;> rfl) ?_   -- query.go:239
            refine aw_cond rfl (fun h6 => ?_) (fun h6 => ?_)   -- if t27
            · refine aw_step [4, 5] [] (by simp <;> rfl) ?_   -- query.go:240
              refine aw_ret (ends_ret (by simp [Tryz.results31] <;> rfl) ?_)
              simp_all
            · refine aw_step [2, 31] [2] (by simp <;> rfl) ?_   -- query.go:241
              refine aw_cond rfl (fun h7 => ?_) (fun h7 => aw_skip ?_)   -- if t31
              · refine aw_step [4, 5] [] (by simp <;> rfl) ?_   -- query.go:242
                refine aw_ret (ends_ret (by simp [Tryz.results31] <;> rfl) ?_)
                simp_all
              refine aw_step [4, 5] [] (by simp <;> rfl) ?_   -- query.go:244
              refine aw_ret (ends_ret (by simp [Tryz.results31] <;> rfl) ?_)
              simp_all
def underS (code top : List UInt8) : Bool := decide (top = []) || (decide (code = top) || hasP code (top ++ [46]))
set_option maxHeartbeats 1000000 in
theorem under_ac (code top : List UInt8) (h : top.length < 9223372036854775807) : AC Tryz.prog 33 [.str code, .str top] (fun r => r = .bool (underS code top)) := by
  have hc := hasPrefix_ac code (top ++ [46])
  have hb : top.length ≤ 9223372036854775806 := by omega
  refine ac_intro Tryz.func33 rfl (by show (2 : Nat) ≤ 18; omega) (fun w0 N0 => ?_)
  refine aw_step [0, 1] [] (by simp [Tryz.ntmps33] <;> rfl) ?_   -- content.go:77
  refine aw_seq (aw_region ?_)   -- content.go:78
  refine awl_go 11 (by simp [hb] <;> rfl) ?_
  refine awl_gcall (fun hg => hc) Tryz.func51 rfl (by kernel_rfl) (by simp <;> rfl) rfl rfl (by simp <;> rfl) (by simp) (by simp <;> rfl) ?_
  refine awl_end [4] [] (by simp <;> rfl) ?_
  refine aw_ret (ends_ret (by simp [Tryz.results33] <;> rfl) ?_)
  simp [underS, Bool.or_assoc]
def ordP (a b : Int) : Int × Int := (if b < a then b else a, if a < b then b else a)
set_option maxHeartbeats 1000000 in
theorem ordered_ac (a b : Int) : AC Tryz.prog 52 [.int .i64 a, .int .i64 b] (fun r => r = prV (ordP a b)) := by
  refine ac_intro Tryz.func52 rfl (by show (2 : Nat) ≤ 12; omega) (fun w0 N0 => ?_)
  refine aw_step [0, 1, 4] [4] (by simp [Tryz.ntmps52] <;> rfl) ?_   -- enemy.go:13
  refine aw_step [4] [4] (by simp <;> rfl) ?_   -- enemy.go:14
  refine aw_ret (ends_ret (by simp [Tryz.results52] <;> rfl) ?_)
  rfl
end Go.Proofs.YtliogkkhofhfcaaGreatDoor

/- Query: whether items are enemies. No condition. -/
set_option linter.unusedSimpArgs false
set_option maxRecDepth 4000
namespace Go.Proofs.YtliogkkhofhfcaaGreatDoor
open Go.Eng

def areE (l : List (Int × Int)) (a b : Int) : Bool := !decide (a = b) && l.any fun p => decide (ordP p.1 p.2 = ordP a b)
theorem nthP {l : List (Int × Int)} {k : Nat} (h : k < l.length) : nth (l.map prV) k = some (prV l[k]) := by rw [nth_eq]; simp [h]
set_option maxHeartbeats 1000000 in
theorem are_ac (l : List (Int × Int)) (a b : Int) : AC Tryz.prog 36 [.ro 2 (l.map prV), .int .i64 a, .int .i64 b] (fun r => r = .bool (areE l a b)) := by
  refine ac_lenR 0 rfl (fun hmax => ?_)
  unfold maxLen at hmax
  have hg := fun (k : Nat) (h : k < l.length) => nthP h
  have hl : (l.map prV).length = l.length := by simp
  generalize l.map prV = lv at hg hl hmax
  have ho := ordered_ac a b
  generalize hob : ordP a b = ob at ho
  refine ac_intro Tryz.func36 rfl (by show (3 : Nat) ≤ 30; omega) (fun w0 N0 => ?_)
  refine aw_step [0, 1, 2] [] (by simp [Tryz.ntmps36] <;> rfl) ?_   -- enemy.go:60
  refine aw_seq ?_
  refine aw_step [0, 1, 2, 12] [] (by simp <;> rfl) ?_   -- enemy.go:61
  refine aw_cond rfl (fun h1 => ?_) (fun h1 => aw_skip ?_)   -- if t12
  · refine aw_step [6] [] (by simp <;> rfl) ?_   -- enemy.go:62
    refine aw_ret (ends_ret (by simp [Tryz.results36] <;> rfl) ?_)
    have : a = b := by simpa using h1
    simp [areE, this]
  have hab : a ≠ b := by simpa using h1
  refine aw_seq (aw_region ?_)   -- enemy.go:64
  refine awl_go 2 (by simp <;> rfl) ?_
  refine awl_call1 ho Tryz.func52 rfl (by kernel_rfl) rfl rfl rfl rfl rfl (by simp <;> rfl) ?_
  refine awl_end [0, 7] [7] (by simp <;> rfl) ?_
  refine aw_seq ?_
  refine aw_step [7, 16, 17, 18] [7] (by simp <;> rfl) ?_   -- enemy.go:65
  refine aw_block ?_
  refine aw_count (fun k nx => ⟨[(7, .bp 7 7 2 0 0), (16, .ro 2 lv), (17, .int .i64 lv.length), (18, .int .i64 k)], [(7, ⟨7, 2, 105, [.agg [.int .i64 ob.1, .int .i64 ob.2]]⟩)], nx, 30⟩) (fun k => ((l.take k).any fun p => decide (ordP p.1 p.2 = ob)) = false) l.length _ rfl (AS.le_refl _) ?_
  intro k nx hk hI
  refine aw_step [7, 16, 17, 18, 19] [7] (by simp <;> rfl) ?_   -- enemy.go:65
  refine aw_seq ?_
  refine aw_cond rfl (fun h2 => aw_skip ?_) (fun h2 => ?_)   -- if t19
  · have hlt : k < l.length := by simp at h2; omega
    have hlt' : k < lv.length := by omega
    have ga := hg k hlt
    have hw := wrap_succ (k := k) (by omega)
    have htk := List.take_succ_eq_append_getElem (l := l) (i := k) hlt
    have hmem : l[k] ∈ l := List.getElem_mem hlt
    generalize l[k] = p at ga htk hmem
    have ho2 := ordered_ac p.1 p.2
    generalize hop : ordP p.1 p.2 = op at ho2
    refine aw_seq ?_
    refine aw_block ?_
    refine aw_step [7, 9, 16, 17, 18] [7, 9] (by simp [ga, hlt'] <;> rfl) ?_   -- enemy.go:65
    refine aw_seq (aw_draw [(0, []), (2, []), (1, []), (3, []), (4, []), (5, []), (6, [])] hmix (by kernel_rfl) ?_)   -- enemy.go:66
    refine awo_go 4 (by simp <;> rfl) ?_
    refine awo_call (fun hg => ho2) Tryz.func52 rfl (by kernel_rfl) rfl rfl (by simp <;> rfl) rfl rfl (by simp <;> rfl) (by simp) (by simp <;> rfl) ?_
    refine awo_end [7, 16, 17, 18, 28] [7] (by simp <;> rfl) ?_
    refine aw_cond rfl (fun h3 => ?_) (fun h3 => aw_skip ?_)   -- if t28
    · refine aw_step [6] [] (by simp <;> rfl) ?_   -- enemy.go:67
      refine aw_ret (ends_ret (by simp [Tryz.results36] <;> rfl) ?_)
      have he : op = ob := by
        simp at h3
        exact Prod.ext h3.1 h3.2
      have : (l.any fun p => decide (ordP p.1 p.2 = ob)) = true := List.any_eq_true.2 ⟨p, hmem, by rw [hop]; simp [he]⟩
      simp [areE, hab, hob, this]
    have he : op ≠ ob := by
      intro e
      subst e
      simp at h3
    refine aw_one [7, 16, 17, 18] [7] (by simp [hw] <;> rfl) ?_   -- enemy.go:65
    exact ⟨hlt, by rw [htk, List.any_append, hI]; simp [hop, he], _, AS.le_refl _⟩
  · refine aw_exit ?_
    refine aw_step [6] [] (by simp <;> rfl) ?_   -- enemy.go:70
    refine aw_ret (ends_ret (by simp [Tryz.results36] <;> rfl) ?_)
    have hke : k = l.length := by simp at h2; omega
    rw [hke, List.take_length] at hI
    simp [areE, hob, hI]
end Go.Proofs.YtliogkkhofhfcaaGreatDoor

/- Query: Match. No condition. -/
set_option linter.unusedSimpArgs false
set_option maxRecDepth 4000
namespace Go.Proofs.YtliogkkhofhfcaaGreatDoor
open Go.Eng

/-- Whether an item in a state satisfies a condition. -/
def condB (bk : Bk) (st : Int) (it : It) (k c n : Int) (f s : List UInt8) : Bool :=
  if k = 4 then isF f && cmpB (fieldI it f) c n
  else if k = 5 then underS it.code s
  else if k = 6 then decide (0 ≤ idxS statesL s) && decide (st = 1 + idxS statesL s)
  else if k = 7 then decide (0 ≤ idxS kindsL s) && decide (it.kind = 1 + idxS kindsL s)
  else if k = 8 then areE bk.enem it.id n
  else if k = 9 then Lib.contains it.stem s
  else false
def leafB (bk : Bk) (e : En) (k c n : Int) (f s : List UInt8) : Bool := match e.vers.getLast? with
  | some it => condB bk e.state it k c n f s
  | none => false
mutual
/-- Whether an entry satisfies a query. -/
def matchQ (bk : Bk) (e : En) : Qy → Bool
  | .mk k c n f s ks => if k = 1 then allQ bk e ks else if k = 2 then anyQ bk e ks else if k = 3 then notQ bk e ks else leafB bk e k c n f s
def allQ (bk : Bk) (e : En) : List Qy → Bool
  | [] => true
  | q :: r => matchQ bk e q && allQ bk e r
def anyQ (bk : Bk) (e : En) : List Qy → Bool
  | [] => false
  | q :: r => matchQ bk e q || anyQ bk e r
def notQ (bk : Bk) (e : En) : List Qy → Bool
  | [] => false
  | q :: _ => !matchQ bk e q
end
theorem allQ_eq (bk : Bk) (e : En) : ∀ l, allQ bk e l = l.all (matchQ bk e)
  | [] => by simp [allQ]
  | q :: r => by simp [allQ, allQ_eq bk e r]
theorem anyQ_eq (bk : Bk) (e : En) : ∀ l, anyQ bk e l = l.any (matchQ bk e)
  | [] => by simp [anyQ]
  | q :: r => by simp [anyQ, anyQ_eq bk e r]
/-- Queries whose strings are not too long. -/
inductive SmQ : Qy → Prop
  | mk {k c n : Int} {f s : List UInt8} {ks : List Qy} (hf : f.length ≤ 2000000) (hs : s.length ≤ 2000000) (hk : ∀ x ∈ ks, SmQ x) : SmQ (.mk k c n f s ks)
theorem idxF_bound (x : List UInt8) : ∀ (l : List (List UInt8)) (i : Nat), -1 ≤ idxF x l i ∧ idxF x l i < i + l.length
  | [], i => by simp [idxF]; omega
  | y :: r, i => by
    rw [idxF]
    split
    · simp; omega
    · have := idxF_bound x r (i + 1)
      simp only [List.length_cons]
      omega
theorem idxS_bound (l : List (List UInt8)) (x : List UInt8) : -1 ≤ idxS l x ∧ idxS l x < l.length := by
  have := idxF_bound x l 0
  unfold idxS
  omega
theorem nthIt {l : List It} {k : Nat} (h : k < l.length) : nth (l.map It.v) k = some l[k].v := by rw [nth_eq]; simp [h]

set_option maxHeartbeats 8000000 in
theorem match_acq (bk : Bk) (e : En) (hst : ∀ it ∈ e.vers, it.stem.length ≤ 2000000) : ∀ (m : Nat) (q : Qy), SizeOf.sizeOf q < m → SmQ q → ACQ gv Tryz.prog 15 [bk.v, e.v, q.v] (fun r => r = .bool (matchQ bk e q)) := by
  intro m
  induction m with
  | zero => intro q h; omega
  | succ m ih0 =>
  rintro ⟨kind, cmp, n, fld, s, ks⟩ hm hsm
  have hfl : fld.length ≤ 2000000 := by cases hsm; assumption
  have hsl : s.length ≤ 2000000 := by cases hsm; assumption
  have ih : ∀ x ∈ ks, ACQ gv Tryz.prog 15 [bk.v, e.v, x.v] (fun r => r = .bool (matchQ bk e x)) := by
    intro x hx
    have := Qy.kid_lt (k := kind) (c := cmp) (n := n) (f := fld) (s := s) hx
    exact ih0 x (by omega) (by cases hsm with | mk _ _ hk => exact hk x hx)
  clear ih0
  have hga := fun (k : Nat) (h : k < ks.length) => nthQ h
  have hla : (ks.map Qy.v).length = ks.length := by simp
  have hmaxK : (ks.map Qy.v).length ≤ maxLen → ks.length ≤ 9223372036854775807 := fun h => by unfold maxLen at h; omega
  rw [Qy.v]
  rw [matchQ]
  have hpk := pureQ ks
  generalize hkv : ks.map Qy.v = kv at hga hla hpk
  have hgv := fun (k : Nat) (h : k < e.vers.length) => nthIt h
  have hlv : (e.vers.map It.v).length = e.vers.length := by simp
  rw [Bk.v, En.v] at ih ⊢
  have hPb : (V.agg [.int .i64 bk.now, .ro 1 bk.gp, .ro 1 bk.gq, .ro 2 bk.outline, .ro 5 bk.assets, .ro 7 (bk.ents.map En.v), .ro 2 (bk.enem.map prV)]).pureV = true := by simp [V.pureV, V.pureE]
  have hEn : ∀ a b, AC Tryz.prog 36 [.ro 2 (bk.enem.map prV), .int .i64 a, .int .i64 b] (fun r => r = .bool (areE bk.enem a b)) := fun a b => are_ac _ a b
  generalize bk.ents.map En.v = entsV at ih hPb ⊢
  generalize bk.enem.map prV = emV at ih hPb hEn ⊢
  generalize e.vers.map It.v = vv at ih hgv hlv ⊢
  refine acq_intro Tryz.func15 rfl (by show (3 : Nat) ≤ 149; omega) (fun w0 N0 hG => ?_)
  refine aw_step [3, 4, 5] [3, 4, 5] (by simp [Tryz.ntmps15] <;> rfl) ?_   -- query.go:182
  refine aw_seq ?_
  refine aw_step [3, 4, 5, 17] [3, 4, 5] (by simp <;> rfl) ?_   -- query.go:183
  refine aw_block ?_
  refine aw_step [3, 4, 5, 17, 18] [3, 4, 5] (by simp <;> rfl) ?_   -- query.go:184
  refine aw_cond rfl (fun h1 => ?_) (fun h1 => ?_)   -- if t18
  · have hk1 : kind = 1 := by simpa using h1
    rw [if_pos hk1, allQ_eq]
    refine aw_seq ?_
    refine aw_step [3, 4, 21, 22, 23] [3, 4] (by simp <;> rfl) ?_   -- query.go:185
    refine aw_len 21 rfl (fun hmax => ?_)
    unfold maxLen at hmax
    refine aw_block ?_
    refine aw_count (fun k nx => ⟨[(3, .bp 3 0 7 0 0), (4, .bp 4 1 7 0 0), (21, .ro 6 kv), (22, .int .i64 kv.length), (23, .int .i64 k)], [(3, ⟨0, 7, 42, [.agg [.int .i64 bk.now, .ro 1 bk.gp, .ro 1 bk.gq, .ro 2 bk.outline, .ro 5 bk.assets, .ro 7 entsV, .ro 2 emV]]⟩), (4, ⟨1, 7, 51, [.agg [.ro 17 vv, .int .i64 e.state, .int .i64 e.author, .ro 1 e.appr, .ro 1 e.fair, .ro 4 e.log, .ro 1 e.rows]]⟩)], nx, 149⟩) (fun k => (ks.take k).all (matchQ bk e) = true) ks.length _ (by simp) (AS.le_refl _) ?_
    intro k nx hk hI
    refine aw_step [3, 4, 21, 22, 23, 24] [3, 4] (by simp <;> rfl) ?_   -- query.go:185
    refine aw_seq ?_
    refine aw_cond rfl (fun h2 => aw_skip ?_) (fun h2 => ?_)   -- if t24
    · have hlt : k < ks.length := by simp at h2; omega
      have hlt' : k < kv.length := by omega
      have ga := hga k hlt
      have hw := wrap_succ (k := k) (by omega)
      have htk := List.take_succ_eq_append_getElem (l := ks) (i := k) hlt
      have hmem : ks[k] ∈ ks := List.getElem_mem hlt
      have hc := ih _ hmem
      generalize ks[k] = x at ga htk hmem hc
      obtain ⟨xk, xc, xn, xf, xs, xks⟩ := x
      rw [Qy.v] at ga hc
      have hpx := pureQ xks
      generalize xks.map Qy.v = xkv at ga hc hpx
      generalize hmx : matchQ bk e (.mk xk xc xn xf xs xks) = mx at hc
      refine aw_seq ?_
      refine aw_block ?_
      refine aw_step [3, 4, 8, 21, 22, 23] [3, 4, 8] (by simp [ga, hlt'] <;> rfl) ?_   -- query.go:185
      refine aw_seq (aw_region ?_)   -- query.go:186
      refine awl_go 3 (by simp <;> rfl) ?_
      refine awl_callQ hG hc Tryz.func15 rfl (by kernel_rfl) (by simp) rfl rfl rfl (by simp <;> rfl) (by simp [V.pureV, V.pureE]) (by simp <;> rfl) ?_
      refine awl_end [3, 4, 21, 22, 23, 31] [3, 4] (by simp <;> rfl) ?_
      refine aw_cond rfl (fun h3 => ?_) (fun h3 => aw_skip ?_)   -- if t31
      · refine aw_step [6] [] (by simp <;> rfl) ?_   -- query.go:187
        refine aw_ret (ends_ret (by simp [Tryz.results15] <;> rfl) ?_)
        have : ks.all (matchQ bk e) = false := List.all_eq_false.2 ⟨_, hmem, by rw [hmx]; simpa using h3⟩
        rw [this]
      refine aw_one [3, 4, 21, 22, 23] [3, 4] (by simp [hw] <;> rfl) ?_   -- query.go:185
      exact ⟨hlt, by rw [htk, List.all_append, hI]; simp [hmx]; simpa using h3, _, AS.le_refl _⟩
    · refine aw_exit ?_
      refine aw_step [6] [] (by simp <;> rfl) ?_   -- query.go:190
      refine aw_ret (ends_ret (by simp [Tryz.results15] <;> rfl) ?_)
      have hke : k = ks.length := by simp at h2; omega
      rw [hke, List.take_length] at hI
      rw [hI]
  have hk1 : ¬ kind = 1 := by simpa using h1
  rw [if_neg hk1]
  refine aw_step [3, 4, 5, 17, 33] [3, 4, 5] (by simp <;> rfl) ?_   -- query.go:191
  refine aw_cond rfl (fun h4 => ?_) (fun h4 => ?_)   -- if t33
  · have hk2 : kind = 2 := by simpa using h4
    rw [if_pos hk2, anyQ_eq]
    refine aw_seq ?_
    refine aw_step [3, 4, 36, 37, 38] [3, 4] (by simp <;> rfl) ?_   -- query.go:185
    refine aw_len 36 rfl (fun hmax => ?_)
    unfold maxLen at hmax
    refine aw_block ?_
    refine aw_count (fun k nx => ⟨[(3, .bp 3 0 7 0 0), (4, .bp 4 1 7 0 0), (36, .ro 6 kv), (37, .int .i64 kv.length), (38, .int .i64 k)], [(3, ⟨0, 7, 42, [.agg [.int .i64 bk.now, .ro 1 bk.gp, .ro 1 bk.gq, .ro 2 bk.outline, .ro 5 bk.assets, .ro 7 entsV, .ro 2 emV]]⟩), (4, ⟨1, 7, 51, [.agg [.ro 17 vv, .int .i64 e.state, .int .i64 e.author, .ro 1 e.appr, .ro 1 e.fair, .ro 4 e.log, .ro 1 e.rows]]⟩)], nx, 149⟩) (fun k => (ks.take k).any (matchQ bk e) = false) ks.length _ (by simp) (AS.le_refl _) ?_
    intro k nx hk hI
    refine aw_step [3, 4, 36, 37, 38, 39] [3, 4] (by simp <;> rfl) ?_   -- query.go:185
    refine aw_seq ?_
    refine aw_cond rfl (fun h5 => aw_skip ?_) (fun h5 => ?_)   -- if t24
    · have hlt : k < ks.length := by simp at h5; omega
      have hlt' : k < kv.length := by omega
      have ga := hga k hlt
      have hw := wrap_succ (k := k) (by omega)
      have htk := List.take_succ_eq_append_getElem (l := ks) (i := k) hlt
      have hmem : ks[k] ∈ ks := List.getElem_mem hlt
      have hc := ih _ hmem
      generalize ks[k] = x at ga htk hmem hc
      obtain ⟨xk, xc, xn, xf, xs, xks⟩ := x
      rw [Qy.v] at ga hc
      have hpx := pureQ xks
      generalize xks.map Qy.v = xkv at ga hc hpx
      generalize hmx : matchQ bk e (.mk xk xc xn xf xs xks) = mx at hc
      refine aw_seq ?_
      refine aw_block ?_
      refine aw_step [3, 4, 10, 36, 37, 38] [3, 4, 10] (by simp [ga, hlt'] <;> rfl) ?_   -- query.go:185
      refine aw_seq (aw_region ?_)   -- query.go:186
      refine awl_go 3 (by simp <;> rfl) ?_
      refine awl_callQ hG hc Tryz.func15 rfl (by kernel_rfl) (by simp) rfl rfl rfl (by simp <;> rfl) (by simp [V.pureV, V.pureE]) (by simp <;> rfl) ?_
      refine awl_end [3, 4, 36, 37, 38, 45] [3, 4] (by simp <;> rfl) ?_
      refine aw_cond rfl (fun h6 => ?_) (fun h6 => aw_skip ?_)   -- if t31
      · refine aw_step [6] [] (by simp <;> rfl) ?_   -- query.go:187
        refine aw_ret (ends_ret (by simp [Tryz.results15] <;> rfl) ?_)
        have : ks.any (matchQ bk e) = true := List.any_eq_true.2 ⟨_, hmem, by rw [hmx]; simpa using h6⟩
        rw [this]
      refine aw_one [3, 4, 36, 37, 38] [3, 4] (by simp [hw] <;> rfl) ?_   -- query.go:185
      exact ⟨hlt, by rw [htk, List.any_append, hI]; simp [hmx]; simpa using h6, _, AS.le_refl _⟩
    · refine aw_exit ?_
      refine aw_step [6] [] (by simp <;> rfl) ?_   -- query.go:190
      refine aw_ret (ends_ret (by simp [Tryz.results15] <;> rfl) ?_)
      have hke : k = ks.length := by simp at h5; omega
      rw [hke, List.take_length] at hI
      rw [hI]
  have hk2 : ¬ kind = 2 := by simpa using h4
  rw [if_neg hk2]
  refine aw_step [3, 4, 5, 47] [3, 4, 5] (by simp <;> rfl) ?_   -- query.go:198
  refine aw_cond rfl (fun h7 => ?_) (fun h7 => aw_skip ?_)   -- if t47
  · have hk3 : kind = 3 := by simpa using h7
    rw [if_pos hk3]
    cases ks with
    | nil =>
      have : kv = [] := List.length_eq_zero_iff.1 (by simpa using hla)
      subst this
      refine aw_seq (aw_draw [(0, []), (1, []), (2, []), (3, []), (4, []), (7, []), (5, []), (6, []), (8, []), (9, []), (10, []), (11, []), (12, []), (13, []), (14, [])] hmix (by kernel_rfl) ?_)   -- query.go:199
      refine awo_go 11 (by simp <;> rfl) ?_
      refine awo_call (c := false) (res := .bool true) (fun hg => by cases hg) Tryz.func15 rfl (by kernel_rfl) rfl rfl (by simp <;> rfl) rfl rfl (by simp <;> rfl) (by simp) (by simp <;> rfl) ?_
      refine awo_end [6] [] (by simp <;> rfl) ?_
      refine aw_ret (ends_ret (by simp [Tryz.results15] <;> rfl) ?_)
      simp [notQ]
    | cons x r =>
      have hc := ih x (by simp)
      have ga := hga 0 (by simp)
      simp only [List.getElem_cons_zero] at ga
      have hlt' : 0 < kv.length := by simp at hla; omega
      obtain ⟨xk, xc, xn, xf, xs, xks⟩ := x
      rw [Qy.v] at ga hc
      generalize xks.map Qy.v = xkv at ga hc
      rw [notQ]
      generalize matchQ bk e (.mk xk xc xn xf xs xks) = mx at hc
      refine aw_seq (aw_drawX [11] hmix ?_)
      refine at_go [(0, []), (1, []), (2, []), (3, []), (4, []), (7, []), (5, []), (6, []), (8, []), (9, []), (10, [])] (by kernel_rfl) (by simp [hlt', ga] <;> rfl) ?_
      refine at_step (i := 11) (ks := []) (by kernel_rfl) rfl (by simp) (sx_callQ (by simp) hG hc Tryz.func15 rfl (by kernel_rfl) (by simp <;> rfl) rfl rfl (by simp <;> rfl) (by simp [V.pureV, V.pureE]) (by simp <;> rfl)) ?_
      refine at_go [(12, []), (13, []), (14, [])] (by kernel_rfl) (by simp <;> rfl) ?_
      refine at_end [6] [] (by kernel_rfl) (by simp <;> rfl) ?_
      exact aw_ret (ends_ret (by simp [Tryz.results15] <;> rfl) rfl)
  have hk3 : ¬ kind = 3 := by simpa using h7
  rw [if_neg hk3]
  refine aw_seq ?_
  refine aw_step [3, 4, 5, 64, 66] [3, 4, 5] (by simp <;> rfl) ?_   -- query.go:201
  refine aw_len 64 rfl (fun hmax => ?_)
  unfold maxLen at hmax
  refine aw_cond rfl (fun h8 => ?_) (fun h8 => aw_skip ?_)   -- if t66
  · refine aw_step [6] [] (by simp <;> rfl) ?_   -- query.go:202
    refine aw_ret (ends_ret (by simp [Tryz.results15] <;> rfl) ?_)
    have : e.vers = [] := List.length_eq_zero_iff.1 (by simp at h8; rw [← hlv, h8]; rfl)
    simp [leafB, this]
  have hvne : e.vers ≠ [] := fun h => by
    have : vv = [] := List.length_eq_zero_iff.1 (by rw [hlv, h]; rfl)
    simp [this] at h8
  have hlp : 0 < e.vers.length := List.length_pos_iff.2 hvne
  have hlast : e.vers.getLast? = some (e.vers[e.vers.length - 1]'(by omega)) := by
    rw [List.getLast?_eq_getElem?, List.getElem?_eq_getElem (by omega)]
  have hgl := hgv (e.vers.length - 1) (by omega)
  have hstm := hst (e.vers[e.vers.length - 1]'(by omega)) (List.getElem_mem _)
  rw [leafB, hlast]
  simp only
  generalize e.vers[e.vers.length - 1]'(by omega) = it at hgl hstm
  obtain ⟨ix, hix, hixv⟩ : ∃ ix : Int, IntKind.i64.wrap ((vv.length : Int) - 1) = ix ∧ ix = ((e.vers.length - 1 : Nat) : Int) := ⟨_, rfl, by rw [wrap_in (by omega) (by omega)]; omega⟩
  have hix0 : 0 ≤ ix ∧ ix < (vv.length : Int) := by omega
  have hixn : ix.toNat = e.vers.length - 1 := by omega
  rw [← hixn, It.v] at hgl
  have hfA := field_ac it fld
  rw [It.v] at hfA
  have hcA := compare_ac (fieldI it fld) cmp n
  have huA := under_ac it.code s (by omega)
  have hiS := index_ac statesL s
  have hiK := index_ac kindsL s
  have hn6 := names_ac 6
  have hn7 := names_ac 7
  rw [show namesL 6 = statesL from rfl] at hn6
  rw [show namesL 7 = kindsL from rfl] at hn7
  have hcS := contS_acq it.stem s (by omega)
  have hbS := idxS_bound statesL s
  have hbK := idxS_bound kindsL s
  have hpS := strs_pure statesL
  have hpK := strs_pure kindsL
  rw [show statesL.length = 7 from rfl] at hbS
  rw [show kindsL.length = 6 from rfl] at hbK
  have hE1 := hEn it.id n
  unfold condB
  generalize strs statesL = sv at hiS hn6 hpS
  generalize strs kindsL = kdv at hiK hn7 hpK
  generalize idxS statesL s = jS at hiS hbS ⊢
  generalize idxS kindsL s = jK at hiK hbK ⊢
  have hwS : IntKind.i64.wrap (1 + jS) = 1 + jS := wrap_in (by omega) (by omega)
  have hwK : IntKind.i64.wrap (1 + jK) = 1 + jK := wrap_in (by omega) (by omega)
  refine aw_step [3, 4, 5, 11] [3, 4, 5, 11] (by simp [hix, hix0, hgl] <;> rfl) ?_   -- query.go:204
  refine aw_seq ?_
  refine aw_step [3, 4, 5, 11, 76] [3, 4, 5, 11] (by simp <;> rfl) ?_   -- query.go:205
  refine aw_block ?_
  refine aw_step [3, 4, 5, 11, 76, 77] [3, 4, 5, 11] (by simp <;> rfl) ?_   -- query.go:206
  refine aw_cond rfl (fun h9 => ?_) (fun h9 => ?_)   -- if t77
  · have hq : kind = 4 := by simpa using h9
    rw [if_pos hq]
    refine aw_seq (aw_region ?_)   -- query.go:207
    refine awl_go 3 (by simp <;> rfl) ?_
    refine awl_call1 hfA Tryz.func31 rfl (by kernel_rfl) rfl rfl rfl (by simp <;> rfl) (by simp [V.pureV, V.pureE]) (by simp <;> rfl) ?_
    refine awl_end [5, 12, 13] [5] (by simp <;> rfl) ?_
    refine aw_seq (aw_region ?_)   -- query.go:208
    refine awl_go 7 (by simp <;> rfl) ?_
    refine awl_gcall (fun hg => hcA) Tryz.func32 rfl (by kernel_rfl) (by simp <;> rfl) rfl rfl (by simp <;> rfl) (by simp) (by simp <;> rfl) ?_
    refine awl_end [6] [] (by simp <;> rfl) ?_
    exact aw_ret (ends_ret (by simp [Tryz.results15] <;> rfl) rfl)
  have hq4 : ¬ kind = 4 := by simpa using h9
  rw [if_neg hq4]
  refine aw_step [3, 4, 5, 11, 76, 95] [3, 4, 5, 11] (by simp <;> rfl) ?_   -- query.go:209
  refine aw_cond rfl (fun h10 => ?_) (fun h10 => ?_)   -- if t95
  · have hq : kind = 5 := by simpa using h10
    rw [if_pos hq]
    refine aw_seq (aw_region ?_)   -- query.go:210
    refine awl_go 4 (by simp <;> rfl) ?_
    refine awl_call1 huA Tryz.func33 rfl (by kernel_rfl) rfl rfl rfl rfl rfl (by simp <;> rfl) ?_
    refine awl_end [6] [] (by simp <;> rfl) ?_
    exact aw_ret (ends_ret (by simp [Tryz.results15] <;> rfl) rfl)
  have hq5 : ¬ kind = 5 := by simpa using h10
  rw [if_neg hq5]
  refine aw_step [3, 4, 5, 11, 76, 102] [3, 4, 5, 11] (by simp <;> rfl) ?_   -- query.go:211
  refine aw_cond rfl (fun h11 => ?_) (fun h11 => ?_)   -- if t102
  · have hq : kind = 6 := by simpa using h11
    rw [if_pos hq]
    refine aw_seq (aw_draw [(0, []), (1, []), (2, []), (3, []), (4, [])] hmix (by kernel_rfl) ?_)   -- query.go:212
    refine awo_call (fun hg => hn6) Tryz.func35 rfl (by kernel_rfl) rfl rfl (by simp <;> rfl) rfl rfl (by simp <;> rfl) (by simp) (by simp <;> rfl) ?_
    refine awo_go 2 (by simp <;> rfl) ?_
    refine awo_call (fun hg => hiS) Tryz.func34 rfl (by kernel_rfl) rfl rfl (by simp <;> rfl) rfl rfl (by simp <;> rfl) (by simp [hpS]) (by simp <;> rfl) ?_
    refine awo_end [4, 14] [4] (by simp <;> rfl) ?_
    refine aw_step [6] [] (by simp [hwS] <;> rfl) ?_   -- query.go:213
    exact aw_ret (ends_ret (by simp [Tryz.results15] <;> rfl) rfl)
  have hq6 : ¬ kind = 6 := by simpa using h11
  rw [if_neg hq6]
  refine aw_step [3, 5, 11, 76, 118] [3, 5, 11] (by simp <;> rfl) ?_   -- query.go:214
  refine aw_cond rfl (fun h12 => ?_) (fun h12 => ?_)   -- if t118
  · have hq : kind = 7 := by simpa using h12
    rw [if_pos hq]
    refine aw_seq (aw_draw [(0, []), (1, []), (2, []), (3, []), (4, [])] hmix (by kernel_rfl) ?_)   -- query.go:215
    refine awo_call (fun hg => hn7) Tryz.func35 rfl (by kernel_rfl) rfl rfl (by simp <;> rfl) rfl rfl (by simp <;> rfl) (by simp) (by simp <;> rfl) ?_
    refine awo_go 2 (by simp <;> rfl) ?_
    refine awo_call (fun hg => hiK) Tryz.func34 rfl (by kernel_rfl) rfl rfl (by simp <;> rfl) rfl rfl (by simp <;> rfl) (by simp [hpK]) (by simp <;> rfl) ?_
    refine awo_end [11, 15] [11] (by simp <;> rfl) ?_
    refine aw_step [6] [] (by simp [hwK] <;> rfl) ?_   -- query.go:216
    exact aw_ret (ends_ret (by simp [Tryz.results15] <;> rfl) rfl)
  have hq7 : ¬ kind = 7 := by simpa using h12
  rw [if_neg hq7]
  refine aw_step [3, 5, 11, 76, 133] [3, 5, 11] (by simp <;> rfl) ?_   -- query.go:217
  refine aw_cond rfl (fun h13 => ?_) (fun h13 => ?_)   -- if t133
  · have hq : kind = 8 := by simpa using h13
    rw [if_pos hq]
    refine aw_seq (aw_region ?_)   -- query.go:218
    refine awl_go 6 (by simp <;> rfl) ?_
    refine awl_call1 hE1 Tryz.func36 rfl (by kernel_rfl) rfl rfl rfl (by simp <;> rfl) (by simp [V.pureV, V.pureE]) (by simp <;> rfl) ?_
    refine awl_end [6] [] (by simp <;> rfl) ?_
    exact aw_ret (ends_ret (by simp [Tryz.results15] <;> rfl) rfl)
  have hq8 : ¬ kind = 8 := by simpa using h13
  rw [if_neg hq8]
  refine aw_step [5, 11, 142] [5, 11] (by simp <;> rfl) ?_   -- query.go:219
  refine aw_cond rfl (fun h14 => ?_) (fun h14 => aw_skip ?_)   -- if t142
  · have hq : kind = 9 := by simpa using h14
    rw [if_pos hq]
    refine aw_seq (aw_region ?_)   -- query.go:220
    refine awl_go 4 (by simp <;> rfl) ?_
    refine awl_callQ hG hcS Tryz.func37 rfl (by kernel_rfl) (by simp) rfl rfl rfl (by simp <;> rfl) (by simp) (by simp <;> rfl) ?_
    refine awl_end [6] [] (by simp <;> rfl) ?_
    exact aw_ret (ends_ret (by simp [Tryz.results15] <;> rfl) rfl)
  have hq9 : ¬ kind = 9 := by simpa using h14
  rw [if_neg hq9]
  refine aw_step [6] [] (by simp <;> rfl) ?_   -- query.go:222
  exact aw_ret (ends_ret (by simp [Tryz.results15] <;> rfl) rfl)
end Go.Proofs.YtliogkkhofhfcaaGreatDoor
