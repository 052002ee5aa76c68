import Derived.Test.YtnklkkagpkcmfaaGreatDoorG6
import Derived.Test.YtnklkkagpkcmfaaGreatDoorProg
import Derived.Lib.Bytealg
import Derived.Laws.Externs
import Derived.Test.YtnklkkagpkcmfaaGreatDoorG7
set_option linter.all false
set_option maxRecDepth 4000
namespace Go.Proofs.YtnklkkagpkcmfaaGreatDoor
open Go Go.Eng Go.RowKit
def HT : Bs → Prop := fun _ => True
theorem herT : Her HT HT := ⟨fun _ _ => trivial, fun _ => trivial, fun _ _ => trivial, fun _ _ => trivial⟩
abbrev KC := List (FuncId × List V × V)
noncomputable def look : KC → FuncId → List V → Option V
  | [], _, _ => none
  | (g, us, r) :: l, f, vs => bif Nat.beq g f then (bif eqVs us vs then some r else look l f vs) else look l f vs
def Okc (e : FuncId × List V × V) : Prop := ACH HT Tryz.prog e.1 e.2.1 (fun x => x = e.2.2)
def OkL (l : KC) : Prop := ∀ e ∈ l, Okc e
theorem OkL.nil : OkL [] := fun _ h => by cases h
theorem OkL.cons {e : FuncId × List V × V} {l : KC} (h : Okc e) (hl : OkL l) : OkL (e :: l) := fun x hx => by
  rcases List.mem_cons.1 hx with rfl | hx
  · exact h
  · exact hl x hx
theorem look_ok : ∀ {l : KC}, OkL l → ∀ f vs r, look l f vs = some r → ACH HT Tryz.prog f vs (fun x => x = r)
  | [], _, f, vs, r, h => by cases h
  | (g, us, q) :: l, hl, f, vs, r, h => by
    have ih := look_ok (l := l) (fun x hx => hl x (List.mem_cons_of_mem _ hx)) f vs r
    unfold look at h
    cases h1 : Nat.beq g f with
    | false => rw [h1] at h; exact ih h
    | true =>
      rw [h1] at h
      simp only [cond_true] at h
      cases h2 : eqVs us vs with
      | false => rw [h2] at h; exact ih h
      | true =>
        rw [h2] at h
        simp only [cond_true, Option.some.injEq] at h
        have e1 := Nat.eq_of_beq_eq_true h1
        have e2 := eqVs_eq _ _ h2
        subst e1; subst e2; subst h
        exact hl (g, us, q) (by simp)
theorem noNG : ∀ (fid : FuncId) fn, Tryz.prog.funcs[fid]? = some fn → (fn.name == "runtime.NumGoroutine") = false := by
  intro fid fn h
  have hall : (Tryz.prog.funcs.toList.all fun g => !(g.name == "runtime.NumGoroutine")) = true := by kernel_rfl
  have hm : fn ∈ Tryz.prog.funcs.toList := by
    rw [Array.getElem?_eq_some_iff] at h
    obtain ⟨hl, rfl⟩ := h
    exact Array.getElem_mem_toList hl
  have := List.all_eq_true.1 hall fn hm
  simpa using this
noncomputable def F1 : FuncId → Bool := fun f => !(Nat.testBit (2 ^ 485 + 2 ^ 451 + 2 ^ 406 + 2 ^ 346 + 2 ^ 478 + 2 ^ 454 + 2 ^ 402 + 2 ^ 210 + 2 ^ 281 + 2 ^ 405 + 2 ^ 376) f)
noncomputable def evK (KO : FuncId → List V → Option (Nat × TypeId × List V × Option (List V))) (l : KC) (XV : Op → AS → Option V) (e : FuncId × List V × V) : Bool :=
  match pureK (fun _ _ => none) (cfun Tryz.prog F1 (cexec Tryz.prog KO (look l) F1 400 nKS XV)) e.1 e.2.1 with
  | some x => eqV x e.2.2
  | none => false
theorem okc {KO : FuncId → List V → Option (Nat × TypeId × List V × Option (List V))} (hKO : KOok Tryz.prog KO) {l : KC} (hl : OkL l) {XV : Op → AS → Option V} (hX : XVok Tryz.prog HT XV) {e : FuncId × List V × V} (h : evK KO l XV e = true) : Okc e := by
  unfold evK at h
  split at h
  case h_2 => cases h
  rename_i x hx
  have := eqV_eq _ _ h
  subst this
  exact pureK_sound herT (fun _ _ _ h => by cases h) (fun fid vs ins nx l' h => cfun_sound (fun m c S q h => cexec_sound hKO (look_ok hl) noNG 400 herT (fun _ _ _ _ _ h => by cases h) hX m c S q h) fid vs ins nx l' h) _ _ _ hx
theorem aw_ev {l : KC} (hl : OkL l) {n m : Nat} {c : Code} {S : AS} (q : List (Exit × AS)) {w0 : Bs} {N0 : Nat → Prop} {Q : Exit → AS → Prop} (h : cexec Tryz.prog nKO (look l) F1 n nKS (nXV Tryz.prog) m c S = some q) (hQ : ∀ p ∈ q, Q p.1 p.2) : AW Tryz.prog w0 N0 c Q S :=
  cexec_sound nKO_ok (look_ok hl) noNG n herT (fun _ _ _ _ _ h => by cases h) nXV_ok m c S q h w0 N0 Q trivial hQ
theorem one_mem {Q : Exit → AS → Prop} {e : Exit} {T : AS} (h : Q e T) : ∀ p ∈ [(e, T)], Q p.1 p.2 := fun p hp => by rw [List.mem_singleton.1 hp]; exact h
end Go.Proofs.YtnklkkagpkcmfaaGreatDoor

set_option maxRecDepth 4000
namespace Go.Proofs.YtnklkkagpkcmfaaGreatDoor
open Go Go.Eng Go.RowKit
noncomputable def exV : Op → AS → Option V
  | .call { callee := .value (.func f), args := args, argTypes := _ }, S => match args.toList with
    | [x, y] => match S.evc true x, S.evc true y with
      | some (.str s), some (.int .u8 c) => bif Nat.beq f 383 then some (.int .i64 (Lib.indexByte s c.toNat.toUInt8)) else (bif Nat.beq f 252 then some (.int .i64 (Lib.countByte s c.toNat.toUInt8 : Nat)) else none)
      | _, _ => none
    | _ => none
  | _, _ => none
theorem str_of {w : World} {N : Nat → Prop} {μ : Mu} {x : Value} {s : List UInt8} (h : Enc w N μ x (.str s)) : x = .string ⟨s.toArray⟩ := by
  cases h with
  | pur h => cases h; rfl
theorem int_of {w : World} {N : Nat → Prop} {μ : Mu} {x : Value} {k : IntKind} {c : Int} (h : Enc w N μ x (.int k c)) : x = .int k c := by
  cases h with
  | pur h => cases h; rfl
theorem ext_run {ρ : Operand → Value} {o : Oper} {f : FuncId} {x y : Operand} {ats : Array TypeId} {w : World} {fn : Func} {e : Array Value → Sem Value} {v : Value} (ho : o.op = .call { callee := .value (.func f), args := #[x, y], argTypes := ats })
    (hf : Tryz.prog.funcs[f]? = some fn) (hname : (fn.name == "runtime.NumGoroutine") = false) (hb : fn.body.isNone = true) (hn : Extern.findNext fn = none) (he : Extern.find fn = some e) (hr : (e #[ρ x, ρ y]).run Tryz.prog w = .ok v w)
    (hρ : ρ (.func f) = .func (.func f) #[] #[]) : (execOp ρ o).run Tryz.prog w = .ok (.value v) w := by
  have h1 := run_callFunc_extern hf hname hb hn he #[ρ x, ρ y] w
  rw [hr] at h1
  simp only [Result.andThen] at h1
  unfold execOp
  rw [ho]
  simp [resolve, hρ, Deferred.ofValue, invoke]
  exact h1
theorem exV_ok : XVok Tryz.prog HT exV := by
  intro w0 D N0 μ S a w o v _ hr hv
  unfold exV at hv
  split at hv
  case h_2 => cases hv
  rename_i f args ats ho
  split at hv
  case h_2 => cases hv
  rename_i x y hargs
  have hargs : args = #[x, y] := by apply Array.ext'; simpa using hargs
  subst hargs
  split at hv
  case h_2 => cases hv
  rename_i s c hx hy
  have ex := str_of (hr.evc hx rfl)
  have ey := int_of (hr.evc hy rfl)
  cases h1 : Nat.beq f 383 with
  | true =>
    rw [h1] at hv
    simp only [cond_true, Option.some.injEq] at hv
    subst hv
    have := Nat.eq_of_beq_eq_true h1
    subst this
    refine ⟨_, ext_run ho Tryz.func383 (by kernel_rfl) (by kernel_rfl) (by kernel_rfl) (e := Extern.BytealgIndexByte.indexByte) (by kernel_rfl) ?_ rfl, .pur (.int _ _)⟩
    rw [ex, ey, Lib.run_indexByteString]
  | false =>
    rw [h1] at hv
    simp only [cond_false] at hv
    cases h2 : Nat.beq f 252 with
    | false => rw [h2] at hv; cases hv
    | true =>
      rw [h2] at hv
      simp only [cond_true, Option.some.injEq] at hv
      subst hv
      have := Nat.eq_of_beq_eq_true h2
      subst this
      refine ⟨_, ext_run ho Tryz.func252 (by kernel_rfl) (by kernel_rfl) (by kernel_rfl) (e := Extern.BytealgCount.count) (by kernel_rfl) ?_ rfl, .pur (.int _ _)⟩
      rw [ex, ey, Lib.run_countString]
def EndQ (fn : Func) (r : V) (e : Exit) (S : AS) : Prop := (e = .ret ∨ e = .normal) ∧ ∃ x, aresT Tryz.prog S fn.results.toList = some x ∧ (cret true [] 0 (x, S.objs, S.nx)).1 = r
noncomputable def endC (fn : Func) (r : V) (p : Exit × AS) : Bool := (match p.1 with | .ret => true | .normal => true | _ => false) && (match aresT Tryz.prog p.2 fn.results.toList with | some x => eqV (cret true [] 0 (x, p.2.objs, p.2.nx)).1 r | none => false)
theorem endC_spec {fn : Func} {r : V} {p : Exit × AS} (h : endC fn r p = true) : EndQ fn r p.1 p.2 := by
  unfold endC at h
  rw [Bool.and_eq_true] at h
  obtain ⟨h1, h2⟩ := h
  refine ⟨?_, ?_⟩
  · obtain ⟨e, S⟩ := p
    cases e <;> first | exact .inl rfl | exact .inr rfl | cases h1
  · split at h2
    case h_2 => cases h2
    rename_i x hx
    exact ⟨x, hx, eqV_eq _ _ h2⟩
theorem okc_body {e : FuncId × List V × V} {fn : Func} {c : Code} (hf : Tryz.prog.funcs[e.1]? = some fn) (hb : fn.body = some c) (hl : e.2.1.length ≤ fn.ntmps) (hp : e.2.2.pureV = true)
    (h : ∀ w0 N0, AW Tryz.prog w0 N0 c (EndQ fn e.2.2) ⟨env0 0 e.2.1, [], 0, fn.ntmps⟩) : Okc e := by
  refine acn_ach herT (b := true) (l := [(e.2.2, [], 0)]) (R := fun x => x = e.2.2) (fun t ht => ?_) ?_
  · rw [List.mem_singleton.1 ht]; exact ⟨hp, rfl⟩
  intro B N μ xs hB hlen hd hr
  refine calls_of_wp hf hb (wp_mono (h B N _ B.w ⟨μ, hr.enter hlen hl hd⟩) ?_)
  rintro ex a' w' ⟨S', ⟨he, r, h1, h2⟩, ⟨μ', hr'⟩⟩
  have hdf : a'.defers = [] := by rw [hr'.defers, hd]
  obtain ⟨x, hx, hex⟩ := aresT_run hr' h1
  obtain ⟨μ2, h3⟩ := cret_rel (b := true) (ins := []) (nx := 0) (t := (r, S'.objs, S'.nx)) ⟨μ', hr'.leave hd hex (fun _ _ h => h)⟩
  generalize hcr : cret true [] 0 (r, S'.objs, S'.nx) = t at h2 h3
  obtain ⟨_, henv⟩ := h3.env 0 t.1 (by simp [Eng.get])
  have hpu : Pur w' (Own N μ2 ⟨[(0, t.1)], t.2.1, t.2.2, 1⟩) x t.1 := by
    have : (⟨#[x], []⟩ : Act).tmps.getD 0 undef = x := rfl
    rw [this] at henv
    rw [h2] at henv ⊢
    exact henv.pureV hp
  have key : ∃ v, (results fn a'.tmps).run Tryz.prog w' = .ok v w' ∧ ∃ t ∈ [(e.2.2, ([] : List (Nat × Ob)), 0)], ∃ x μ', Ending.returned v = .returned x ∧ RelM (fun _ => False) B N μ' ⟨[(0, t.1)], t.2.1, t.2.2, 1⟩ ⟨#[x], []⟩ w' := by
    refine ⟨x, hx, _, List.mem_singleton.2 rfl, x, μ, rfl, ?_⟩
    rw [← h2]
    have hn : ∀ b, N b → b < B.w.heap.size ∧ ¬ B.X b := hr.n0.1
    exact ⟨by rw [hd], rfl, h3.below, hr.n0, fun d v hv => hr.fresh d v hv, fun d o hd => by simp [Eng.get] at hd, fun d o _ _ _ _ _ hd => by simp [Eng.get] at hd, fun k v hk => by
      simp only [Eng.get] at hk
      split at hk
      · rename_i e0
        subst e0
        injection hk with hk
        subst hk
        exact ⟨by show (0 : Nat) < 1; omega, .pur (hpu.keep (Keeps.refl w' _) (fun b _ hb => .inl (by
          rcases hb with h0 | ⟨d, o, c, h1, _⟩
          · exact h0
          · simp [Eng.get] at h1)))⟩
      · cases hk⟩
  rcases he with rfl | rfl
  · exact ⟨hdf, key⟩
  · exact ⟨hdf, key⟩
theorem aw_last {l : KC} (hl : OkL l) (n m : Nat) {c : Code} {S : AS} {fn : Func} {r : V} {w0 : Bs} {N0 : Nat → Prop} (h : (match cexec Tryz.prog nKO (look l) F1 n nKS (nXV Tryz.prog) m c S with | some q => q.all (endC fn r) | none => false) = true) : AW Tryz.prog w0 N0 c (EndQ fn r) S := by
  split at h
  case h_2 => cases h
  rename_i q hq
  exact aw_ev hl q hq (fun p hp => endC_spec (List.all_eq_true.1 h p hp))
theorem aw_evk {l : KC} (hl : OkL l) (L M : List Nat) {n : Nat} {c : Code} {S S' : AS} {w0 : Bs} {N0 : Nat → Prop} {Q : Exit → AS → Prop} (h : (match cexec Tryz.prog nKO (look l) F1 n nKS (nXV Tryz.prog) 0 c S with | some [(.normal, T)] => some (T.keep L M) | _ => none) = some S') (hQ : Q .normal S') : AW Tryz.prog w0 N0 c Q S := by
  split at h
  · rename_i T hT
    injection h with h
    subst h
    refine aw_leF (f := fun T => T.keep L M) (fun T => le_keep T L M) (aw_ev hl [(.normal, T)] hT (fun p hp => by rw [List.mem_singleton.1 hp]; exact hQ))
  · cases h
theorem awin_last {l : KC} (hl : OkL l) (n m : Nat) {c : Code} {S : AS} {Q : Exit → AS → Prop} {w0 : Bs} {N0 : Nat → Prop} (q : List (Exit × AS)) (h : cloop (cexec Tryz.prog nKO (look l) F1 n nKS (nXV Tryz.prog) m c) n S = some q) (hQ : ∀ p ∈ q, Q p.1 p.2) : AWIn Tryz.prog w0 N0 c Q S :=
  cloop_sound (fun S l' Q h hp => cexec_sound nKO_ok (look_ok hl) noNG n herT (fun _ _ _ _ _ h => by cases h) nXV_ok m c S l' h w0 N0 Q trivial hp) h hQ
noncomputable def k322 : FuncId × List V × V := (322, [.str [65], .int .u8 46], .int .i64 (-1))
theorem k322_ok : Okc k322 := okc nKO_ok OkL.nil exV_ok (by kernel_rfl)
end Go.Proofs.YtnklkkagpkcmfaaGreatDoor

set_option maxRecDepth 4000
namespace Go.Proofs.YtnklkkagpkcmfaaGreatDoor
open Go Go.Eng Go.RowKit
noncomputable def k70 : FuncId × List V × V := (70, [.str [65]], .bool true)
theorem k70_ok : Okc k70 := by
  have hK : OkL [k322] := OkL.cons k322_ok OkL.nil
  refine okc_body Tryz.func70 rfl (by show (1 : Nat) ≤ 30; omega) rfl (fun w0 N0 => ?_)
  refine aw_seq (aw_ev hK (n := 400) (m := 1073741818) [(.normal, ⟨[(2, .bool false), (0, .str [65])], [], 1, 30⟩)] (by kernel_rfl) (one_mem ?_))
  refine aw_seq (aw_ev hK (n := 400) (m := 1073740794) [(.normal, ⟨[(10, .bool false), (2, .bool false), (0, .str [65])], [], 4, 30⟩)] (by kernel_rfl) (one_mem ?_))
  refine aw_seq (aw_ev hK (n := 400) (m := 1073741767) [(.normal, ⟨[(5, .bool true), (4, .int .i64 1), (3, .bp 61443 21 5 0 0)], [(61443, ⟨21, 5, 186, [.agg [.str [65], .str [], .str [], .str [], .str []]]⟩), (61443, ⟨21, 5, 186, [.agg [.str [], .str [], .str [], .str [], .str []]]⟩)], 25, 30⟩)] (by kernel_rfl) (one_mem ?_))
  refine aw_freeze 61443 [3, 4, 5] [] rfl ?_
  exact aw_last hK 400 0 (by kernel_rfl)
noncomputable def k160 : FuncId × List V × V := (160, [.str [79, 110, 101, 32, 97, 110, 100, 32, 111, 110, 101, 63], .str [10]], .int .i64 0)
theorem k160_ok : Okc k160 := okc nKO_ok OkL.nil exV_ok (by kernel_rfl)
end Go.Proofs.YtnklkkagpkcmfaaGreatDoor

set_option maxRecDepth 4000
namespace Go.Proofs.YtnklkkagpkcmfaaGreatDoor
open Go Go.Eng Go.RowKit
abbrev r3 : V := .ro 1 [.int .i64 3]
theorem confl0 : Okc (469, [.nils, .nils], .nils) := by
  refine okc_body Tryz.func469 rfl (by show (2 : Nat) ≤ 44; omega) rfl (fun w0 N0 => ?_)
  refine aw_seq (aw_ev OkL.nil (n := 400) (m := 0) [(.normal, ⟨[(4, .nils), (0, .nils), (1, .nils)], [], 1, 44⟩)] (by kernel_rfl) (one_mem ?_))
  refine aw_seq (aw_region ?_)
  refine awl_makeMap .i64 rfl rfl (fun b hb _ => ⟨_, rfl, ?_⟩)
  refine awl_end (S' := ⟨[(5, .mp b .i64 []), (0, .nils), (1, .nils)], [], 3, 44⟩) [5, 0, 1] [] (by kernel_rfl) ?_
  exact aw_last OkL.nil 400 0 (by kernel_rfl)
theorem confl1 (x : V) (hx : x = .nils ∨ x = .ro 2 []) : Okc (469, [x, r3], .nils) := by
  refine okc_body Tryz.func469 rfl (by show (2 : Nat) ≤ 44; omega) rfl (fun w0 N0 => ?_)
  refine aw_seq (aw_ev OkL.nil (n := 400) (m := 0) [(.normal, ⟨[(4, .nils), (0, x), (1, r3)], [], 1, 44⟩)] (by kernel_rfl) (one_mem ?_))
  refine aw_seq (aw_region ?_)
  refine awl_makeMap .i64 rfl rfl (fun b hb _ => ⟨_, rfl, ?_⟩)
  refine awl_end (S' := ⟨[(5, .mp b .i64 []), (0, x), (1, r3)], [], 3, 44⟩) [5, 0, 1] [] (by kernel_rfl) ?_
  refine aw_seq ?_
  refine aw_seq (aw_ev OkL.nil (n := 400) (m := 2 ^ 18) [(.normal, ⟨[(14, .int .i64 0), (13, .int .i64 1), (12, .ro 1 [.int .i64 3])] ++ [(5, .mp b .i64 []), (0, x), (1, r3)], [], 6, 44⟩)] (by kernel_rfl) (one_mem ?_))
  refine aw_block (awin_loop (awin_round ?_))
  refine aw_seq (aw_ev OkL.nil (n := 400) (m := 0) [(.normal, ⟨[(15, .bool true), (14, .int .i64 0), (13, .int .i64 1), (12, .ro 1 [.int .i64 3]), (5, .mp b .i64 []), (0, x), (1, r3)], [], 7, 44⟩)] (by kernel_rfl) (one_mem ?_))
  refine aw_seq (aw_ev OkL.nil (n := 400) (m := 0) [(.normal, ⟨[(15, .bool true), (14, .int .i64 0), (13, .int .i64 1), (12, .ro 1 [.int .i64 3]), (5, .mp b .i64 []), (0, x), (1, r3)], [], 7, 44⟩)] (by kernel_rfl) (one_mem ?_))
  refine aw_seq (aw_block ?_)
  refine aw_seq (aw_ev OkL.nil (n := 400) (m := 2 ^ 15 + 2 ^ 16 + 2 ^ 17) [(.normal, ⟨[(7, .int .i64 3), (14, .int .i64 0), (13, .int .i64 1), (12, .ro 1 [.int .i64 3]), (5, .mp b .i64 []), (0, x), (1, r3)], [], 10, 44⟩)] (by kernel_rfl) (one_mem ?_))
  refine aw_region ?_
  refine awl_go (S1 := ⟨[(19, .int .i64 3), (18, .mp b .i64 []), (7, .int .i64 3), (14, .int .i64 0), (13, .int .i64 1), (12, .ro 1 [.int .i64 3]), (5, .mp b .i64 []), (0, x), (1, r3)], [], 10, 44⟩) 2 (by kernel_rfl) ?_
  refine awl_mapUpdate (b := b) (k := .i64) (e := 4) (es := []) (a := 3) (u := .bool true) (S' := ⟨[(19, .int .i64 3), (18, .mp b .i64 [(3, .bool true)]), (7, .int .i64 3), (14, .int .i64 0), (13, .int .i64 1), (12, .ro 1 [.int .i64 3]), (5, .mp b .i64 [(3, .bool true)]), (0, x), (1, r3)], [], 10, 44⟩) hb rfl rfl rfl rfl rfl rfl rfl (by kernel_rfl) (by rcases hx with rfl | rfl <;> rfl) (by rcases hx with rfl | rfl <;> simp [mapK, V.mset]) ?_
  refine awl_end (S' := ⟨[(14, .int .i64 0), (13, .int .i64 1), (12, .ro 1 [.int .i64 3]), (5, .mp b .i64 [(3, .bool true)]), (0, x), (1, r3)], [], 13, 44⟩) [14, 13, 12, 5, 0, 1] [] (by kernel_rfl) ?_
  refine aw_ev OkL.nil (n := 400) (m := 2 ^ 20) [(.normal, ⟨[(14, .int .i64 1), (13, .int .i64 1), (12, .ro 1 [.int .i64 3]), (5, .mp b .i64 [(3, .bool true)]), (0, x), (1, r3)], [], 15, 44⟩)] (by kernel_rfl) (one_mem ?_)
  refine awin_last OkL.nil 400 0 [(.exit 0, ⟨[(15, .bool false), (14, .int .i64 1), (13, .int .i64 1), (12, .ro 1 [.int .i64 3]), (5, .mp b .i64 [(3, .bool true)]), (0, x), (1, r3)], [], 16, 44⟩)] (by kernel_rfl) (one_mem ?_)
  exact aw_last OkL.nil 400 0 (by rcases hx with rfl | rfl <;> kernel_rfl)
theorem k469a_ok : Okc (469, [.nils, r3], .nils) := confl1 _ (.inl rfl)
theorem k469b_ok : Okc (469, [.ro 2 [], r3], .nils) := confl1 _ (.inr rfl)
end Go.Proofs.YtnklkkagpkcmfaaGreatDoor

set_option maxRecDepth 4000
namespace Go.Proofs.YtnklkkagpkcmfaaGreatDoor
open Go Go.Eng Go.RowKit
theorem counts_ac (u : V) (hu : u = .nils ∨ u = .ro 2 []) : AC Tryz.prog 95 [u] (fun r => ∃ b, r = .mp b .i64 []) := by
  refine acm_intro Tryz.func95 rfl (by show (1 : Nat) ≤ 27; omega) (fun w0 N0 => ?_)
  refine aw_seq (aw_region ?_)
  refine awl_drop (S' := ⟨[(0, u)], [], 0, 27⟩) rfl rfl rfl (by show (2 : Nat) < 27; omega) (by rcases hu with rfl | rfl <;> rfl) ?_
  refine awl_end (S' := ⟨[(0, u)], [], 1, 27⟩) [0] [] (by kernel_rfl) ?_
  refine aw_seq (aw_region ?_)
  refine awl_makeMap .i64 rfl rfl (fun b hb _ => ⟨_, rfl, ?_⟩)
  refine awl_end (S' := ⟨[(3, .mp b .i64 []), (0, u)], [], 3, 27⟩) [3, 0] [] (by kernel_rfl) ?_
  refine aw_seq (aw_ev OkL.nil (n := 400) (m := 0) [(.normal, ⟨[(10, .bool false), (9, .int .i64 0), (8, .int .i64 0), (7, u), (3, .mp b .i64 []), (0, u)], [], 7, 27⟩)] (by rcases hu with rfl | rfl <;> kernel_rfl) (one_mem ?_))
  refine aw_seq (aw_ev OkL.nil (n := 400) (m := 0) [(.normal, ⟨[(2, .mp b .i64 []), (26, .mp b .i64 []), (10, .bool false), (9, .int .i64 0), (8, .int .i64 0), (7, u), (3, .mp b .i64 []), (0, u)], [], 9, 27⟩)] (by kernel_rfl) (one_mem ?_))
  exact aw_ret (endsM_ret rfl rfl rfl ⟨b, rfl⟩)
abbrev pit : V := .ro 9 [.agg [.int .i64 3, .str [65], .int .i64 0, .int .i64 0, .int .i64 0, .int .i64 1, .int .i64 1, .int .i64 0, .ro 1 [.ro 1 [.int .i64 800, .int .i64 200], .ro 1 [.int .i64 200, .int .i64 800]]]]
abbrev half : V := .agg [.bool false, .ro 1 [.int .u32 1], .ro 1 [.int .u32 2]]
theorem filt (u : V) (n : Int) (r : V) (hc : (u = .nils ∧ n = 0 ∧ r = .nils) ∨ (u = .nils ∧ n = 1 ∧ r = r3) ∨ (u = .ro 2 [] ∧ n = 1 ∧ r = r3)) : Okc (187, [pit, u, .int .i64 n, half, .int .i64 0], r) := by
  have hu : u = .nils ∨ u = .ro 2 [] := by rcases hc with ⟨h, _⟩ | ⟨h, _⟩ | ⟨h, _⟩ <;> simp [h]
  refine okc_body Tryz.func187 rfl (by show (5 : Nat) ≤ 41; omega) (by rcases hc with ⟨_, _, h⟩ | ⟨_, _, h⟩ | ⟨_, _, h⟩ <;> rw [h] <;> rfl) (fun w0 N0 => ?_)
  refine aw_seq (aw_ev OkL.nil (n := 400) (m := 0) [(.normal, ⟨[(10, .nils), (8, .bp 8 0 3 0 0), (0, pit), (1, u), (2, .int .i64 n), (3, half), (4, .int .i64 0)], [(8, ⟨0, 3, 64, [half]⟩)], 2, 41⟩)] (by rcases hu with rfl | rfl <;> kernel_rfl) (one_mem ?_))
  refine aw_seq (aw_region ?_)
  refine awl_go (S1 := ⟨[(15, u), (10, .nils), (8, .bp 8 0 3 0 0), (0, pit), (1, u), (2, .int .i64 n), (3, half), (4, .int .i64 0)], [(8, ⟨0, 3, 64, [half]⟩)], 2, 41⟩) 1 (by rcases hu with rfl | rfl <;> kernel_rfl) ?_
  refine awl_call rfl rfl rfl Tryz.func95 (by kernel_rfl) rfl (vs := [u]) (by rcases hu with rfl | rfl <;> kernel_rfl) (by rcases hu with rfl | rfl <;> rfl) (counts_ac u hu) ?_
  rintro _ ⟨b, rfl⟩
  refine ⟨_, rfl, ?_⟩
  refine awl_end (S' := ⟨[(11, .mp b .i64 []), (8, .bp 8 0 3 0 0), (0, pit), (1, u), (2, .int .i64 n), (4, .int .i64 0)], [(8, ⟨0, 3, 64, [half]⟩)], 5, 41⟩) [11, 8, 0, 1, 2, 4] [8] (by kernel_rfl) ?_
  rcases hc with ⟨rfl, rfl, rfl⟩ | ⟨rfl, rfl, rfl⟩ | ⟨rfl, rfl, rfl⟩
  · exact aw_last OkL.nil 400 0 (by kernel_rfl)
  · exact aw_last OkL.nil 400 0 (by kernel_rfl)
  · exact aw_last OkL.nil 400 0 (by kernel_rfl)
theorem k187a_ok : Okc (187, [pit, .nils, .int .i64 0, half, .int .i64 0], .nils) := filt _ _ _ (.inl ⟨rfl, rfl, rfl⟩)
theorem k187b_ok : Okc (187, [pit, .nils, .int .i64 1, half, .int .i64 0], r3) := filt _ _ _ (.inr (.inl ⟨rfl, rfl, rfl⟩))
theorem k187c_ok : Okc (187, [pit, .ro 2 [], .int .i64 1, half, .int .i64 0], r3) := filt _ _ _ (.inr (.inr ⟨rfl, rfl, rfl⟩))
end Go.Proofs.YtnklkkagpkcmfaaGreatDoor

set_option maxRecDepth 4000
namespace Go.Proofs.YtnklkkagpkcmfaaGreatDoor
open Go Go.Eng Go.RowKit
theorem hmix : Tryz.prog.follows .mixedOrders = true := by kernel_rfl
abbrev v5 : V := .ro 1 [.int .i64 5625]
abbrev pe : V := .agg [.int .i64 3, .str [65], .int .i64 0, .int .i64 0, .int .i64 0, .int .i64 1, .int .i64 1, .int .i64 0, .ro 1 [.ro 1 [.int .i64 800, .int .i64 200], .ro 1 [.int .i64 200, .int .i64 800]]]
theorem aw_kp {S S' : AS} {c : Code} {w0 : Bs} {N0 : Nat → Prop} {Q : Exit → AS → Prop} (L M : List Nat) (hS : S.keep L M = S') (h : AW Tryz.prog w0 N0 c Q S') : AW Tryz.prog w0 N0 c Q S := by
  subst hS
  exact aw_le (le_keep S L M) h
theorem k272_ok : Okc (272, [pit, v5, r3, .nils], .tup [r3, .int .i64 0]) := by
  refine okc_body Tryz.func272 rfl (by show (4 : Nat) ≤ 120; omega) rfl (fun w0 N0 => ?_)
  refine aw_seq (aw_evk OkL.nil [0, 1, 2, 3] [] (n := 400) (S' := ⟨[(0, pit), (1, v5), (2, r3), (3, .nils)], [], 2, 120⟩) (by kernel_rfl) ?_)
  refine aw_seq (aw_evk OkL.nil [0, 1, 2, 3] [] (n := 400) (S' := ⟨[(0, pit), (1, v5), (2, r3), (3, .nils)], [], 7, 120⟩) (by kernel_rfl) ?_)
  refine aw_seq (aw_evk OkL.nil [0, 1, 2, 3] [] (n := 400) (S' := ⟨[(0, pit), (1, v5), (2, r3), (3, .nils)], [], 23, 120⟩) (by kernel_rfl) ?_)
  refine aw_seq (aw_region ?_)
  refine awl_makeMap .i64 rfl rfl (fun b hb _ => ⟨_, rfl, ?_⟩)
  refine awl_boxMap (b := b) (k := .i64) (m := []) rfl rfl rfl rfl rfl rfl (by kernel_rfl) (by kernel_rfl) (by kernel_rfl) (by decide) rfl ?_
  refine awl_end (S' := ⟨[(12, .rm b .i64 []), (0, pit), (1, v5), (2, r3), (3, .nils)], [], 26, 120⟩) [12, 0, 1, 2, 3] [] (by kernel_rfl) ?_
  refine aw_seq ?_
  refine aw_seq (aw_evk OkL.nil [1, 2, 3, 12, 47, 48, 49] [] (n := 400) (S' := ⟨[(1, v5), (2, r3), (3, .nils), (12, .rm b .i64 []), (47, pit), (48, .int .i64 1), (49, .int .i64 0)], [], 29, 120⟩) (by kernel_rfl) ?_)
  refine aw_block (awin_loop (awin_round ?_))
  refine aw_seq (aw_evk OkL.nil [1, 2, 3, 12, 47, 48, 49, 50] [] (n := 400) (S' := ⟨[(1, v5), (2, r3), (3, .nils), (12, .rm b .i64 []), (47, pit), (48, .int .i64 1), (49, .int .i64 0), (50, .bool true)], [], 30, 120⟩) (by kernel_rfl) ?_)
  refine aw_seq (aw_evk OkL.nil [1, 2, 3, 12, 47, 48, 49] [] (n := 400) (S' := ⟨[(1, v5), (2, r3), (3, .nils), (12, .rm b .i64 []), (47, pit), (48, .int .i64 1), (49, .int .i64 0)], [], 30, 120⟩) (by kernel_rfl) ?_)
  refine aw_seq (aw_block ?_)
  refine aw_seq (aw_evk OkL.nil [1, 2, 3, 12, 13, 14, 47, 48, 49] [122894] (n := 400) (S' := ⟨[(1, v5), (2, r3), (3, .nils), (12, .rm b .i64 []), (13, .int .i64 0), (14, .bp 122894 33 9 0 0), (47, pit), (48, .int .i64 1), (49, .int .i64 0)], [(122894, ⟨33, 9, 184, [pe]⟩)], 36, 120⟩) (by kernel_rfl) ?_)
  refine aw_seq (aw_evk OkL.nil [1, 2, 3, 12, 13, 14, 16, 47, 48, 49] [122894] (n := 400) (S' := ⟨[(1, v5), (2, r3), (3, .nils), (12, .rm b .i64 []), (13, .int .i64 0), (14, .bp 122894 33 9 0 0), (16, .bool false), (47, pit), (48, .int .i64 1), (49, .int .i64 0)], [(122894, ⟨33, 9, 184, [pe]⟩)], 45, 120⟩) (by kernel_rfl) ?_)
  refine aw_seq (aw_evk OkL.nil [1, 2, 3, 12, 13, 14, 62, 47, 48, 49] [122894] (n := 400) (S' := ⟨[(1, v5), (2, r3), (3, .nils), (12, .rm b .i64 []), (13, .int .i64 0), (14, .bp 122894 33 9 0 0), (62, .bool true), (47, pit), (48, .int .i64 1), (49, .int .i64 0)], [(122894, ⟨33, 9, 184, [pe]⟩)], 47, 120⟩) (by kernel_rfl) ?_)
  refine aw_cond rfl (fun _ => ?_) (fun h => by cases h)
  refine aw_draw [(1, []), (3, []), (4, []), (5, []), (0, []), (2, []), (6, []), (7, [])] hmix (by kernel_rfl) ?_
  refine awo_go 7 (by simp <;> rfl) ?_
  refine awo_mapUpdate (b := b) (k := .i64) (e := 3) (es := []) (a := 3) (u := .int .i64 5625) hb rfl (by simp) rfl rfl rfl rfl rfl rfl rfl (by kernel_rfl) rfl (by simp [mapK, V.mset] <;> rfl) ?_
  refine awo_end (S' := ⟨[(1, v5), (2, r3), (3, .nils), (12, .rm b .i64 [(3, .int .i64 5625)]), (47, pit), (48, .int .i64 1), (49, .int .i64 0)], [], 55, 120⟩) [1, 2, 3, 12, 47, 48, 49] [] (by simp <;> rfl) ?_
  refine (aw_evk OkL.nil [1, 2, 3, 12, 47, 48, 49] [] (n := 400) (S' := ⟨[(1, v5), (2, r3), (3, .nils), (12, .rm b .i64 [(3, .int .i64 5625)]), (47, pit), (48, .int .i64 1), (49, .int .i64 1)], [], 57, 120⟩) (by kernel_rfl) ?_)
  refine awin_round ?_
  refine aw_seq (aw_evk OkL.nil [1, 2, 3, 12, 50] [] (n := 400) (S' := ⟨[(1, v5), (2, r3), (3, .nils), (12, .rm b .i64 [(3, .int .i64 5625)]), (50, .bool false)], [], 58, 120⟩) (by kernel_rfl) ?_)
  refine aw_seq (aw_cond rfl (fun h => by cases h) (fun _ => aw_exit ?_))
  refine aw_kp (S' := ⟨[(2, r3), (3, .nils), (12, .rm b .i64 [(3, .int .i64 5625)])], [], 58, 120⟩) [2, 3, 12] [] (by kernel_rfl) ?_
  refine aw_seq (aw_region ?_)
  refine awl_makeMapR .i64 rfl rfl (fun b2 hb2 hbn => ⟨_, rfl, ?_⟩)
  have hbb : b ≠ b2 := hbn 12 b .i64 _ (.inr rfl)
  refine awl_end (S' := ⟨[(17, .mp b2 .i64 []), (2, r3), (3, .nils), (12, .rm b .i64 [(3, .int .i64 5625)])], [], 60, 120⟩) [17, 2, 3, 12] [] (by kernel_rfl) ?_
  refine aw_seq ?_
  refine aw_seq (aw_evk OkL.nil [3, 12, 17, 72, 73, 74] [] (n := 400) (S' := ⟨[(3, .nils), (12, .rm b .i64 [(3, .int .i64 5625)]), (17, .mp b2 .i64 []), (72, r3), (73, .int .i64 1), (74, .int .i64 0)], [], 63, 120⟩) (by kernel_rfl) ?_)
  refine aw_block (awin_loop (awin_round ?_))
  refine aw_seq (aw_evk OkL.nil [3, 12, 17, 72, 73, 74, 75] [] (n := 400) (S' := ⟨[(3, .nils), (12, .rm b .i64 [(3, .int .i64 5625)]), (17, .mp b2 .i64 []), (72, r3), (73, .int .i64 1), (74, .int .i64 0), (75, .bool true)], [], 64, 120⟩) (by kernel_rfl) ?_)
  refine aw_seq (aw_evk OkL.nil [3, 12, 17, 72, 73, 74] [] (n := 400) (S' := ⟨[(3, .nils), (12, .rm b .i64 [(3, .int .i64 5625)]), (17, .mp b2 .i64 []), (72, r3), (73, .int .i64 1), (74, .int .i64 0)], [], 64, 120⟩) (by kernel_rfl) ?_)
  refine aw_seq (aw_block ?_)
  refine aw_seq (aw_evk OkL.nil [3, 12, 17, 19, 72, 73, 74] [] (n := 400) (S' := ⟨[(3, .nils), (12, .rm b .i64 [(3, .int .i64 5625)]), (17, .mp b2 .i64 []), (19, .int .i64 3), (72, r3), (73, .int .i64 1), (74, .int .i64 0)], [], 67, 120⟩) (by kernel_rfl) ?_)
  refine aw_seq (aw_evk OkL.nil [3, 12, 17, 19, 72, 73, 74] [] (n := 400) (S' := ⟨[(3, .nils), (12, .rm b .i64 [(3, .int .i64 5625)]), (17, .mp b2 .i64 []), (19, .int .i64 3), (72, r3), (73, .int .i64 1), (74, .int .i64 0)], [], 77, 120⟩) (by kernel_rfl) ?_)
  refine aw_region ?_
  refine awl_go (S1 := ⟨[(87, .int .i64 3), (86, .mp b2 .i64 []), (3, .nils), (12, .rm b .i64 [(3, .int .i64 5625)]), (17, .mp b2 .i64 []), (19, .int .i64 3), (72, r3), (73, .int .i64 1), (74, .int .i64 0)], [], 77, 120⟩) 2 (by kernel_rfl) ?_
  refine awl_mapUpdate (b := b2) (k := .i64) (e := 4) (es := []) (a := 3) (u := .bool true) (S' := ⟨[(87, .int .i64 3), (86, .mp b2 .i64 [(3, .bool true)]), (3, .nils), (12, .rm b .i64 [(3, .int .i64 5625)]), (17, .mp b2 .i64 [(3, .bool true)]), (19, .int .i64 3), (72, r3), (73, .int .i64 1), (74, .int .i64 0)], [], 77, 120⟩) hb2 rfl rfl rfl rfl rfl rfl rfl (by kernel_rfl) rfl (by simp [mapK, V.mset, hbb]) ?_
  refine awl_end (S' := ⟨[(3, .nils), (12, .rm b .i64 [(3, .int .i64 5625)]), (17, .mp b2 .i64 [(3, .bool true)]), (72, r3), (73, .int .i64 1), (74, .int .i64 0)], [], 80, 120⟩) [3, 12, 17, 72, 73, 74] [] (by kernel_rfl) ?_
  refine (aw_evk OkL.nil [3, 12, 17, 72, 73, 74] [] (n := 400) (S' := ⟨[(3, .nils), (12, .rm b .i64 [(3, .int .i64 5625)]), (17, .mp b2 .i64 [(3, .bool true)]), (72, r3), (73, .int .i64 1), (74, .int .i64 1)], [], 82, 120⟩) (by kernel_rfl) ?_)
  refine awin_round ?_
  refine aw_seq (aw_evk OkL.nil [3, 12, 17, 75] [] (n := 400) (S' := ⟨[(3, .nils), (12, .rm b .i64 [(3, .int .i64 5625)]), (17, .mp b2 .i64 [(3, .bool true)]), (75, .bool false)], [], 83, 120⟩) (by kernel_rfl) ?_)
  refine aw_seq (aw_cond rfl (fun h => by cases h) (fun _ => aw_exit ?_))
  refine aw_kp (S' := ⟨[(3, .nils), (12, .rm b .i64 [(3, .int .i64 5625)]), (17, .mp b2 .i64 [(3, .bool true)])], [], 83, 120⟩) [3, 12, 17] [] (by kernel_rfl) ?_
  refine aw_seq (aw_evk OkL.nil [12, 17] [] (n := 400) (S' := ⟨[(12, .rm b .i64 [(3, .int .i64 5625)]), (17, .mp b2 .i64 [(3, .bool true)])], [], 87, 120⟩) (by kernel_rfl) ?_)
  refine aw_seq (aw_evk OkL.nil [12, 17, 26] [] (n := 400) (S' := ⟨[(12, .rm b .i64 [(3, .int .i64 5625)]), (17, .mp b2 .i64 [(3, .bool true)]), (26, .nils)], [], 88, 120⟩) (by kernel_rfl) ?_)
  refine aw_adoptS 26 100 1 3 [26, 12, 17] [100] rfl (S' := ⟨[(26, .sl 100 88 1 0), (12, .rm b .i64 [(3, .int .i64 5625)]), (17, .mp b2 .i64 [(3, .bool true)])], [(100, ⟨88, 1, 3, []⟩)], 89, 120⟩) (by kernel_rfl) ?_
  refine aw_seq ?_
  refine aw_mapRange (bm := b2) (k := .i64) (m := [(3, .bool true)]) (e0 := 4) 107 (fun y : Bool => match y with | false => ⟨[(107, .bp 107 89 0 0 0), (106, .mp b2 .i64 [(3, .bool true)]), (26, .sl 100 88 1 0), (12, .rm b .i64 [(3, .int .i64 5625)]), (17, .mp b2 .i64 [(3, .bool true)])], [(100, ⟨88, 1, 3, []⟩)], 91, 120⟩ | true => ⟨[(107, .bp 107 89 0 0 0), (106, .mp b2 .i64 [(3, .bool true)]), (26, .sl 100 99 1 1), (12, .rm b .i64 [(3, .int .i64 5625)]), (17, .mp b2 .i64 [(3, .bool true)])], [(100, ⟨99, 1, 3, [.int .i64 3]⟩)], 101, 120⟩) (fun y L => match y with | false => ∀ a, a ∈ L ↔ a = 3 | true => L = []) false rfl rfl rfl rfl rfl rfl rfl rfl rfl rfl rfl rfl rfl rfl rfl rfl rfl rfl rfl rfl rfl rfl (by kernel_rfl) (by simp) (fun y => by cases y <;> simp) (by decide) (fun y => by cases y <;> rfl) ?_ (AS.le_refl _) ?_ ?_
  · intro L _ h a
    rw [h a]
    by_cases e : a = 3
    · subst e; simp [assoc]
    · simp [assoc, e, Ne.symm e]
  · intro B N y L a v hI haL
    cases y with
    | true => simp only at hI; subst hI; cases haL
    | false =>
      have ha : a = 3 := (hI a).1 haL
      subst ha
      refine aw_evk OkL.nil [107, 106, 26, 12, 17] [100] (n := 400) (S' := ⟨[(107, .bp 107 89 0 0 0), (106, .mp b2 .i64 [(3, .bool true)]), (26, .sl 100 99 1 1), (12, .rm b .i64 [(3, .int .i64 5625)]), (17, .mp b2 .i64 [(3, .bool true)])], [(100, ⟨99, 1, 3, [.int .i64 3]⟩)], 101, 120⟩) (by kernel_rfl) ?_
      refine ⟨true, fun L' _ h => List.eq_nil_iff_forall_not_mem.2 (fun c hc => ?_), AS.le_refl _⟩
      have h1 := (h c).1 hc
      exact h1.2 ((hI c).1 h1.1)
  · intro y hI
    cases y with
    | false => exact absurd ((hI 3).2 rfl) (by simp)
    | true => exact aw_last OkL.nil 400 0 (by kernel_rfl)
end Go.Proofs.YtnklkkagpkcmfaaGreatDoor

set_option maxRecDepth 4000
namespace Go.Proofs.YtnklkkagpkcmfaaGreatDoor
open Go Go.Eng Go.RowKit
theorem ac_of_okc {e : FuncId × List V × V} (h : Okc e) : AC Tryz.prog e.1 e.2.1 (fun x => x = e.2.2) := fun w N xs hN hl hp => h ⟨w, fun _ => False, fun _ _ => none, []⟩ trivial w N xs (Bs.Below.refl _) hN hl hp
noncomputable def k96 : FuncId × List V × V := (96, [.int .i64 1], .int .i64 1)
theorem k96_ok : Okc k96 := okc nKO_ok OkL.nil nXV_ok (by kernel_rfl)
theorem counts_acm (u : V) (hu : u = .nils ∨ u = .ro 2 []) (w : World) (N : Nat → Prop) (xs : List Value) (hN : ∀ b, N b → b < w.heap.size) (hlen : xs.length = [u].length) (hp : ∀ (i : Nat) x v, xs[i]? = some x → [u][i]? = some v → Pur w N x v) :
    Calls Tryz.prog 95 xs.toArray w (fun e w' => ∃ x b, e = .returned x ∧ w.heap.size ≤ b ∧ Pur w' N x (.mp b .i64 []) ∧ Below w.heap.size w w') := by
  refine (acm_introW (R := fun B r => ∃ b, r = .mp b .i64 [] ∧ B.free b) Tryz.func95 rfl (by show (1 : Nat) ≤ 27; omega) (fun w0 N0 => ?_) w N xs hN hlen hp).mono (fun e w' ⟨x, r, he, ⟨b, hr, hb⟩, hpx, hbw⟩ => ⟨x, b, he, hb.elim id (fun h => h.elim), by rw [← hr]; exact hpx, hbw⟩)
  refine aw_seq (aw_region ?_)
  refine awl_drop (S' := ⟨[(0, u)], [], 0, 27⟩) rfl rfl rfl (by show (2 : Nat) < 27; omega) (by rcases hu with rfl | rfl <;> rfl) ?_
  refine awl_end (S' := ⟨[(0, u)], [], 1, 27⟩) [0] [] (by kernel_rfl) ?_
  refine aw_seq (aw_region ?_)
  refine awl_makeMap .i64 rfl rfl (fun b hb _ => ⟨_, rfl, ?_⟩)
  refine awl_end (S' := ⟨[(3, .mp b .i64 []), (0, u)], [], 3, 27⟩) [3, 0] [] (by kernel_rfl) ?_
  refine aw_seq (aw_ev OkL.nil (n := 400) (m := 0) [(.normal, ⟨[(10, .bool false), (9, .int .i64 0), (8, .int .i64 0), (7, u), (3, .mp b .i64 []), (0, u)], [], 7, 27⟩)] (by rcases hu with rfl | rfl <;> kernel_rfl) (one_mem ?_))
  refine aw_seq (aw_ev OkL.nil (n := 400) (m := 0) [(.normal, ⟨[(2, .mp b .i64 []), (26, .mp b .i64 []), (10, .bool false), (9, .int .i64 0), (8, .int .i64 0), (7, u), (3, .mp b .i64 []), (0, u)], [], 9, 27⟩)] (by kernel_rfl) (one_mem ?_))
  exact aw_ret (endsM_ret rfl rfl rfl ⟨b, rfl, hb⟩)
theorem rec_aco : ACO Tryz.prog 66 [.nils, r3] 2 73 (fun F es => F = koF 2 1 (some [.int .i64 0]) ∧ es = [.agg [.int .i64 3, .int .i64 1]]) := by
  refine aco_intro Tryz.func66 rfl (by show (2 : Nat) ≤ 77; omega) (fun w0 N0 => ?_)
  refine aw_seq (aw_evk OkL.nil [0, 1] [] (n := 400) (S' := ⟨[(0, .nils), (1, r3)], [], 2, 77⟩) (by kernel_rfl) ?_)
  refine aw_seq (aw_region ?_)
  refine awl_makeMap .i64 rfl rfl (fun b hb _ => ⟨_, rfl, ?_⟩)
  refine awl_end (S' := ⟨[(6, .mp b .i64 []), (0, .nils), (1, r3)], [], 4, 77⟩) [6, 0, 1] [] (by kernel_rfl) ?_
  refine aw_seq ?_
  refine aw_seq (aw_evk OkL.nil [0, 1, 6, 18, 19, 20] [] (n := 400) (S' := ⟨[(0, .nils), (1, r3), (6, .mp b .i64 []), (18, r3), (19, .int .i64 1), (20, .int .i64 0)], [], 7, 77⟩) (by kernel_rfl) ?_)
  refine aw_block (awin_loop (awin_round ?_))
  refine aw_seq (aw_evk OkL.nil [0, 1, 6, 18, 19, 20, 21] [] (n := 400) (S' := ⟨[(0, .nils), (1, r3), (6, .mp b .i64 []), (18, r3), (19, .int .i64 1), (20, .int .i64 0), (21, .bool true)], [], 8, 77⟩) (by kernel_rfl) ?_)
  refine aw_seq (aw_evk OkL.nil [0, 1, 6, 18, 19, 20] [] (n := 400) (S' := ⟨[(0, .nils), (1, r3), (6, .mp b .i64 []), (18, r3), (19, .int .i64 1), (20, .int .i64 0)], [], 8, 77⟩) (by kernel_rfl) ?_)
  refine aw_seq (aw_block ?_)
  refine aw_seq (aw_evk OkL.nil [0, 1, 6, 8, 18, 19, 20] [] (n := 400) (S' := ⟨[(0, .nils), (1, r3), (6, .mp b .i64 []), (8, .int .i64 3), (18, r3), (19, .int .i64 1), (20, .int .i64 0)], [], 11, 77⟩) (by kernel_rfl) ?_)
  refine aw_seq (aw_evk OkL.nil [0, 1, 6, 8, 18, 19, 20] [] (n := 400) (S' := ⟨[(0, .nils), (1, r3), (6, .mp b .i64 []), (8, .int .i64 3), (18, r3), (19, .int .i64 1), (20, .int .i64 0)], [], 14, 77⟩) (by kernel_rfl) ?_)
  refine aw_region ?_
  refine awl_go (S1 := ⟨[(28, .int .i64 3), (27, .mp b .i64 []), (0, .nils), (1, r3), (6, .mp b .i64 []), (8, .int .i64 3), (18, r3), (19, .int .i64 1), (20, .int .i64 0)], [], 14, 77⟩) 2 (by kernel_rfl) ?_
  refine awl_mapUpdate (b := b) (k := .i64) (e := 4) (es := []) (a := 3) (u := .bool true) (S' := ⟨[(28, .int .i64 3), (27, .mp b .i64 [(3, .bool true)]), (0, .nils), (1, r3), (6, .mp b .i64 [(3, .bool true)]), (8, .int .i64 3), (18, r3), (19, .int .i64 1), (20, .int .i64 0)], [], 14, 77⟩) hb rfl rfl rfl rfl rfl rfl rfl (by kernel_rfl) rfl (by simp [mapK, V.mset]) ?_
  refine awl_end (S' := ⟨[(0, .nils), (1, r3), (18, r3), (19, .int .i64 1), (20, .int .i64 0), (6, .mp b .i64 [(3, .bool true)])], [], 17, 77⟩) [0, 1, 18, 19, 20, 6] [] (by kernel_rfl) ?_
  refine (aw_evk OkL.nil [0, 1, 18, 19, 20, 6] [] (n := 400) (S' := ⟨[(0, .nils), (1, r3), (18, r3), (19, .int .i64 1), (20, .int .i64 1), (6, .mp b .i64 [(3, .bool true)])], [], 19, 77⟩) (by kernel_rfl) ?_)
  refine awin_round ?_
  refine aw_seq (aw_evk OkL.nil [0, 1, 21] [] (n := 400) (S' := ⟨[(0, .nils), (1, r3), (21, .bool false)], [], 20, 77⟩) (by kernel_rfl) ?_)
  refine aw_seq (aw_cond rfl (fun h => by cases h) (fun _ => aw_exit ?_))
  refine aw_kp (S' := ⟨[(0, .nils), (1, r3)], [], 20, 77⟩) [0, 1] [] (by kernel_rfl) ?_
  refine aw_seq (aw_evk OkL.nil [0, 1] [] (n := 400) (S' := ⟨[(0, .nils), (1, r3)], [], 36, 77⟩) (by kernel_rfl) ?_)
  refine aw_seq (aw_region ?_)
  refine awl_go (S1 := ⟨[(43, .nils), (0, .nils), (1, r3)], [], 36, 77⟩) 1 (by kernel_rfl) ?_
  refine awl_callMp rfl rfl rfl Tryz.func95 (by kernel_rfl) rfl (vs := [.nils]) (by kernel_rfl) rfl (counts_acm _ (.inl rfl)) ?_
  rintro b hb2
  refine ⟨_, rfl, ?_⟩
  refine awl_end (S' := ⟨[(11, .mp b .i64 []), (1, r3)], [], 39, 77⟩) [11, 1] [] (by kernel_rfl) ?_
  refine aw_seq ?_
  refine aw_seq (aw_evk OkL.nil [11, 45, 46, 47] [] (n := 400) (S' := ⟨[(11, .mp b .i64 []), (45, r3), (46, .int .i64 1), (47, .int .i64 0)], [], 42, 77⟩) (by kernel_rfl) ?_)
  refine aw_block (awin_loop (awin_round ?_))
  refine aw_seq (aw_evk OkL.nil [11, 45, 46, 47, 48] [] (n := 400) (S' := ⟨[(11, .mp b .i64 []), (45, r3), (46, .int .i64 1), (47, .int .i64 0), (48, .bool true)], [], 43, 77⟩) (by kernel_rfl) ?_)
  refine aw_seq (aw_evk OkL.nil [11, 45, 46, 47] [] (n := 400) (S' := ⟨[(11, .mp b .i64 []), (45, r3), (46, .int .i64 1), (47, .int .i64 0)], [], 43, 77⟩) (by kernel_rfl) ?_)
  refine aw_seq (aw_block ?_)
  refine aw_seq (aw_evk OkL.nil [11, 13, 45, 46, 47] [] (n := 400) (S' := ⟨[(11, .mp b .i64 []), (13, .int .i64 3), (45, r3), (46, .int .i64 1), (47, .int .i64 0)], [], 46, 77⟩) (by kernel_rfl) ?_)
  refine aw_region ?_
  refine awl_go (S1 := ⟨[(56, .int .i64 1), (55, .int .i64 0), (54, .int .i64 3), (53, .mp b .i64 []), (52, .int .i64 3), (51, .mp b .i64 []), (11, .mp b .i64 []), (13, .int .i64 3), (45, r3), (46, .int .i64 1), (47, .int .i64 0)], [], 46, 77⟩) 6 (by kernel_rfl) ?_
  refine awl_call rfl rfl rfl Tryz.func96 (by kernel_rfl) rfl (vs := [.int .i64 1]) (by kernel_rfl) rfl (ac_of_okc k96_ok) ?_
  rintro _ rfl
  refine ⟨⟨[(57, .int .i64 1), (56, .int .i64 1), (55, .int .i64 0), (54, .int .i64 3), (53, .mp b .i64 []), (52, .int .i64 3), (51, .mp b .i64 []), (11, .mp b .i64 []), (13, .int .i64 3), (45, r3), (46, .int .i64 1), (47, .int .i64 0)], [], 46, 77⟩, by kernel_rfl, ?_⟩
  refine awl_mapUpdate (b := b) (k := .i64) (e := 3) (es := []) (a := 3) (u := .int .i64 1) (S' := ⟨[(57, .int .i64 1), (56, .int .i64 1), (55, .int .i64 0), (54, .int .i64 3), (53, .mp b .i64 [(3, .int .i64 1)]), (52, .int .i64 3), (51, .mp b .i64 [(3, .int .i64 1)]), (11, .mp b .i64 [(3, .int .i64 1)]), (13, .int .i64 3), (45, r3), (46, .int .i64 1), (47, .int .i64 0)], [], 46, 77⟩) hb2 rfl rfl rfl rfl rfl rfl rfl (by kernel_rfl) rfl (by simp [mapK, V.mset]) ?_
  refine awl_end (S' := ⟨[(11, .mp b .i64 [(3, .int .i64 1)]), (45, r3), (46, .int .i64 1), (47, .int .i64 0)], [], 54, 77⟩) [11, 45, 46, 47] [] (by kernel_rfl) ?_
  refine (aw_evk OkL.nil [11, 45, 46, 47] [] (n := 400) (S' := ⟨[(11, .mp b .i64 [(3, .int .i64 1)]), (45, r3), (46, .int .i64 1), (47, .int .i64 1)], [], 56, 77⟩) (by kernel_rfl) ?_)
  refine awin_round ?_
  refine aw_seq (aw_evk OkL.nil [11, 48] [] (n := 400) (S' := ⟨[(11, .mp b .i64 [(3, .int .i64 1)]), (48, .bool false)], [], 57, 77⟩) (by kernel_rfl) ?_)
  refine aw_seq (aw_cond rfl (fun h => by cases h) (fun _ => aw_exit ?_))
  refine aw_kp (S' := ⟨[(11, .mp b .i64 [(3, .int .i64 1)])], [], 57, 77⟩) [11] [] (by kernel_rfl) ?_
  refine aw_seq (aw_evk OkL.nil [11, 14] [] (n := 400) (S' := ⟨[(11, .mp b .i64 [(3, .int .i64 1)]), (14, .nils)], [], 58, 77⟩) (by kernel_rfl) ?_)
  refine aw_adoptS 14 100 2 73 [14, 11] [100] rfl (S' := ⟨[(14, .sl 100 58 2 0), (11, .mp b .i64 [(3, .int .i64 1)])], [(100, ⟨58, 2, 73, []⟩)], 59, 77⟩) (by kernel_rfl) ?_
  refine aw_seq ?_
  refine aw_mapRange2 (bm := b) (k := .i64) (m := [(3, .int .i64 1)]) (e0 := 3) 107 (fun y : Bool => match y with | false => ⟨[(60, .bp 107 59 0 0 0), (59, .mp b .i64 [(3, .int .i64 1)]), (14, .sl 100 58 2 0), (11, .mp b .i64 [(3, .int .i64 1)])], [(100, ⟨58, 2, 73, []⟩)], 61, 77⟩ | true => ⟨[(60, .bp 107 59 0 0 0), (59, .mp b .i64 [(3, .int .i64 1)]), (14, .sl 100 75 2 1), (11, .mp b .i64 [(3, .int .i64 1)])], [(100, ⟨75, 2, 73, [.agg [.int .i64 3, .int .i64 1]]⟩)], 77, 77⟩) (fun y L => match y with | false => ∀ a, a ∈ L ↔ a = 3 | true => L = []) false rfl rfl rfl rfl rfl rfl rfl rfl rfl rfl rfl rfl rfl rfl rfl rfl rfl rfl rfl rfl rfl rfl rfl rfl rfl rfl rfl rfl (by kernel_rfl) (by simp) (fun y => by cases y <;> simp) (by decide) (by decide) (fun y => by cases y <;> rfl) ?_ (AS.le_refl _) ?_ ?_
  · intro L _ h a
    rw [h a]
    by_cases e : a = 3
    · subst e; simp [assoc]
    · simp [assoc, e, Ne.symm e]
  · intro B N y L a v hI haL hv
    cases y with
    | true => simp only at hI; subst hI; cases haL
    | false =>
      have ha : a = 3 := (hI a).1 haL
      subst ha
      simp only [assoc, if_true, Option.some.injEq] at hv
      subst hv
      refine aw_evk OkL.nil [60, 59, 14, 11] [100] (n := 400) (S' := ⟨[(60, .bp 107 59 0 0 0), (59, .mp b .i64 [(3, .int .i64 1)]), (14, .sl 100 75 2 1), (11, .mp b .i64 [(3, .int .i64 1)])], [(100, ⟨75, 2, 73, [.agg [.int .i64 3, .int .i64 1]]⟩)], 77, 77⟩) (by kernel_rfl) ?_
      refine ⟨true, fun L' _ h => List.eq_nil_iff_forall_not_mem.2 (fun c hc => ?_), AS.le_refl _⟩
      have h1 := (h c).1 hc
      exact h1.2 ((hI c).1 h1.1)
  · intro y hI
    cases y with
    | false => exact absurd ((hI 3).2 rfl) (by simp)
    | true =>
      refine aw_kp (S' := ⟨[(14, .sl 100 75 2 1)], [(100, ⟨75, 2, 73, [.agg [.int .i64 3, .int .i64 1]]⟩)], 79, 77⟩) [14] [100] rfl ?_
      refine aw_seq (aw_evk OkL.nil [14] [100] (n := 400) (S' := ⟨[(14, .sl 100 75 2 1)], [(100, ⟨75, 2, 73, [.agg [.int .i64 3, .int .i64 1]]⟩)], 135, 77⟩) (by kernel_rfl) ?_)
      refine aw_seq (aw_evk OkL.nil [4, 5] [100] (n := 400) (S' := ⟨[(4, .sl 100 75 2 1), (5, .int .i64 0)], [(100, ⟨75, 2, 73, [.agg [.int .i64 3, .int .i64 1]]⟩)], 138, 77⟩) (by kernel_rfl) ?_)
      -- ⟨[(4, .sl 100 75 2 1), (5, .int .i64 0)], [(100, ⟨75, 2, 73, [.agg [.int .i64 3, .int .i64 1]]⟩)], 138, 77⟩
      refine aw_ret (endso_row 100 rfl rfl rfl rfl (F := koF 2 1 (some [.int .i64 0])) (by kernel_rfl) ⟨rfl, rfl⟩)
theorem cl_aco : ACO Tryz.prog 23 [.ro 1 [.int .i64 1]] 1 3 (fun F es => F = koF 1 1 none ∧ es = [.int .i64 1]) := by
  refine aco_intro Tryz.func23 rfl (by show (1 : Nat) ≤ 8; omega) (fun w0 N0 => ?_)
  refine aw_seq (aw_evk OkL.nil [0] [] (n := 400) (S' := ⟨[(0, .ro 1 [.int .i64 1])], [], 1, 8⟩) (by kernel_rfl) ?_)
  refine aw_seq (aw_evk OkL.nil [0] [] (n := 400) (S' := ⟨[(0, .ro 1 [.int .i64 1])], [], 3, 8⟩) (by kernel_rfl) ?_)
  refine aw_seq (aw_evk OkL.nil [2] [12293] (n := 400) (S' := ⟨[(2, .sl 12293 5 1 1)], [(12293, ⟨5, 1, 3, [.int .i64 1]⟩)], 7, 8⟩) (by kernel_rfl) ?_)
  exact aw_ret (endso_row 12293 rfl rfl rfl rfl (F := koF 1 1 none) (by kernel_rfl) ⟨rfl, rfl⟩)
noncomputable def KO1 : FuncId → List V → Option (Nat × TypeId × List V × Option (List V)) := fun f vs => bif Nat.beq f 23 then (bif eqVs vs [.ro 1 [.int .i64 1]] then some (1, 3, [.int .i64 1], none) else none) else bif Nat.beq f 66 then (bif eqVs vs [.nils, r3] then some (2, 73, [.agg [.int .i64 3, .int .i64 1]], some [.int .i64 0]) else none) else none
theorem KO1_ok : KOok Tryz.prog KO1 := by
  intro f us sz ty es ex h
  unfold KO1 at h
  cases h1 : Nat.beq f 23 with
  | true =>
    rw [h1] at h
    simp only [cond_true] at h
    have e1 := Nat.eq_of_beq_eq_true h1
    cases h2 : eqVs us [.ro 1 [.int .i64 1]] with
    | false => rw [h2] at h; cases h
    | true =>
      rw [h2] at h
      have e2 := eqVs_eq _ _ h2
      simp only [cond_true, Option.some.injEq, Prod.mk.injEq] at h
      obtain ⟨rfl, rfl, rfl, rfl⟩ := h
      subst e1; subst e2
      exact cl_aco
  | false =>
    rw [h1] at h
    simp only [cond_false] at h
    cases h3 : Nat.beq f 66 with
    | false => rw [h3] at h; cases h
    | true =>
      rw [h3] at h
      simp only [cond_true] at h
      have e1 := Nat.eq_of_beq_eq_true h3
      cases h2 : eqVs us [.nils, r3] with
      | false => rw [h2] at h; cases h
      | true =>
        rw [h2] at h
        have e2 := eqVs_eq _ _ h2
        simp only [cond_true, Option.some.injEq, Prod.mk.injEq] at h
        obtain ⟨rfl, rfl, rfl, rfl⟩ := h
        subst e1; subst e2
        exact rec_aco
end Go.Proofs.YtnklkkagpkcmfaaGreatDoor

set_option maxRecDepth 4000
namespace Go.Proofs.YtnklkkagpkcmfaaGreatDoor
open Go Go.Eng Go.RowKit
abbrev capV : List V := [.bp 2 0 5 0 0, .bp 3 1 1 0 0, .bp 4 2 1 0 0]
abbrev obsD (x y z : V) : List (Nat × Ob) := [(2, ⟨0, 5, 393, [x]⟩), (3, ⟨1, 1, 3, [y]⟩), (4, ⟨2, 1, 31, [z]⟩)]
abbrev nd0 : V := .agg [.int .i64 0, .int .i64 0, .int .i64 0, .str [], .nils]
theorem clo_ret (x y z : V) : ACD Tryz.prog 458 capV (obsD x y z) .returning .returning (fun outs => outs = obsD x y z) := by
  refine acd_recover (u := .returning) (v := .nili) Tryz.func458 rfl (by show (3 : Nat) ≤ 13; omega) rfl rfl rfl (by show (6 : Nat) < 13; omega) (fun w N => .nili) (fun w0 N0 nx => ?_) rfl
  refine awl_end (S' := ⟨[(0, .bp 2 0 5 0 0), (1, .bp 3 1 1 0 0), (2, .bp 4 2 1 0 0), (3, .int .i64 0), (4, .bool false)], obsD x y z, nx + 7, 13⟩) [0, 1, 2, 3, 4] [2, 3, 4] (by kernel_rfl) ?_
  refine aw_step [0, 1, 2, 3, 10] [2, 3, 4] (by simp <;> rfl) ?_
  refine aw_cond rfl (fun h1 => by simp at h1) (fun h1 => aw_skip ?_)
  exact ⟨by simp only; omega, obsD x y z, fun k o hk => by simpa using hk, rfl⟩
theorem aw_evr {l : KC} (hl : OkL l) (L M : List Nat) {n : Nat} {c : Code} {S S' : AS} {w0 : Bs} {N0 : Nat → Prop} {Q : Exit → AS → Prop} (h : (match cexec Tryz.prog nKO (look l) F1 n nKS (nXV Tryz.prog) 0 c S with | some [(.ret, T)] => some (T.keep L M) | _ => none) = some S') (hQ : Q .ret S') : AW Tryz.prog w0 N0 c Q S := by
  split at h
  · rename_i T hT
    injection h with h
    subst h
    refine aw_leF (f := fun T => T.keep L M) (fun T => le_keep T L M) (aw_ev hl [(.ret, T)] hT (fun p hp => by rw [List.mem_singleton.1 hp]; exact hQ))
  · cases h
noncomputable def decA : Code := match Tryz.f415.body with | some (.seq a _) => a | _ => .skip
noncomputable def decB : Code := match Tryz.f415.body with | some (.seq _ (.seq _ b)) => b | _ => .skip
noncomputable def pcD (L M : List Nat) (e : Exit) (c : Code) (S : AS) : Option AS := match cexec Tryz.prog nKO (look []) F1 400 nKS (nXV Tryz.prog) 0 c S with
  | some [(.normal, T)] => (match e with | .normal => some (T.keep L M) | _ => none)
  | some [(.ret, T)] => (match e with | .ret => some (T.keep L M) | _ => none)
  | _ => none
theorem aw_pcD {L M : List Nat} {e : Exit} {c : Code} {S S' : AS} {w0 : Bs} {N0 : Nat → Prop} {Q : Exit → AS → Prop} (h : pcD L M e c S = some S') (hQ : Q e S') : AW Tryz.prog w0 N0 c Q S := by
  unfold pcD at h
  split at h
  · rename_i T hT
    split at h
    · injection h with h
      subst h
      exact aw_leF (f := fun T => T.keep L M) (fun T => le_keep T L M) (aw_ev OkL.nil [(.normal, T)] hT (fun p hp => by rw [List.mem_singleton.1 hp]; exact hQ))
    · cases h
  · rename_i T hT
    split at h
    · injection h with h
      subst h
      exact aw_leF (f := fun T => T.keep L M) (fun T => le_keep T L M) (aw_ev OkL.nil [(.ret, T)] hT (fun p hp => by rw [List.mem_singleton.1 hp]; exact hQ))
    · cases h
  · cases h
theorem dec_ac (bs cs : List V) (y : Int) (nx : Nat)
    (h1 : pcD [0, 2, 3, 4] [2, 3, 4] .normal decA ⟨env0 0 [.ro 1 bs], [], 0, 19⟩ = some ⟨[(0, .ro 1 bs), (2, .bp 2 0 5 0 0), (3, .bp 3 1 1 0 0), (4, .bp 4 2 1 0 0)], obsD nd0 (.int .i64 0) (.int .i64 0), 3, 19⟩)
    (h3 : pcD [2, 3, 4] [2, 3, 4] .ret decB ⟨[(0, .ro 1 bs), (2, .bp 2 0 5 0 0), (3, .bp 3 1 1 0 0), (4, .bp 4 2 1 0 0)], obsD nd0 (.int .i64 0) (.int .i64 0), 5, 19⟩ = some ⟨[(2, .bp 2 0 5 0 0), (3, .bp 3 1 1 0 0), (4, .bp 4 2 1 0 0)], obsD (.agg cs) (.int .i64 y) (.int .i64 0), nx, 19⟩)
    (hr : ∀ n, aresults Tryz.prog ⟨[(2, .bp 2 0 5 0 0), (3, .bp 3 1 1 0 0), (4, .bp 4 2 1 0 0)], obsD (.agg cs) (.int .i64 y) (.int .i64 0) ++ obsD (.agg cs) (.int .i64 y) (.int .i64 0), n, 19⟩ Tryz.f415.results.toList = some (.tup [.agg cs, .int .i64 y, .int .i64 0])) : AC Tryz.prog 415 [.ro 1 bs] (fun r => r = .tup [.agg cs, .int .i64 y, .int .i64 0]) := by
  refine ac_deferred (S1 := ⟨[(0, .ro 1 bs), (2, .bp 2 0 5 0 0), (3, .bp 3 1 1 0 0), (4, .bp 4 2 1 0 0)], obsD nd0 (.int .i64 0) (.int .i64 0), 3, 19⟩) (cvs := capV) Tryz.func415 rfl (by show (1 : Nat) ≤ 19; omega) Tryz.func458 rfl (by kernel_rfl) rfl rfl rfl rfl rfl rfl (fun w0 N0 => aw_pcD h1 ⟨rfl, rfl⟩) (by kernel_rfl) rfl (by show (6 : Nat) < 19; omega) (fun w0 N0 => aw_pcD h3 ?_) rfl
  refine ⟨.returning, _, obsD (.agg cs) (.int .i64 y) (.int .i64 0), _, rfl, fun k o hk => hk, clo_ret _ _ _, rfl, fun outs n ho => ?_⟩
  subst ho
  exact ⟨fun k hk => hk, _, hr n, rfl⟩
theorem k415a_ok : Okc (415, [.ro 1 [.int .u8 50, .int .u8 3, .int .u8 2, .int .u8 1, .int .u8 1, .int .u8 2, .int .u8 2, .int .u8 1, .int .u8 0]], .tup [.agg [.int .i64 50, .int .i64 3, .int .i64 0, .str [], .ro 5 [.agg [.int .i64 1, .int .i64 1, .int .i64 1, .str [], .nils], .agg [.int .i64 2, .int .i64 1, .int .i64 0, .str [], .nils]]], .int .i64 9, .int .i64 0]) := (dec_ac _ _ 9 311 (by kernel_rfl) (by kernel_rfl) (fun n => by kernel_rfl)).h
theorem k415b_ok : Okc (415, [.ro 1 [.int .u8 50, .int .u8 3, .int .u8 7, .int .u8 1, .int .u8 1, .int .u8 4, .int .u8 2, .int .u8 1, .int .u8 20, .int .u8 3, .int .u8 1, .int .u8 6, .int .u8 4, .int .u8 3, .int .u8 0, .int .u8 5, .int .u8 1, .int .u8 0, .int .u8 6, .int .u8 2, .int .u8 0, .int .u8 7, .int .u8 1, .int .u8 2]], .tup [.agg [.int .i64 50, .int .i64 3, .int .i64 0, .str [], .ro 5 [.agg [.int .i64 1, .int .i64 1, .int .i64 2, .str [], .nils], .agg [.int .i64 2, .int .i64 1, .int .i64 10, .str [], .nils], .agg [.int .i64 3, .int .i64 1, .int .i64 3, .str [], .nils], .agg [.int .i64 4, .int .i64 3, .int .i64 0, .str [], .nils], .agg [.int .i64 5, .int .i64 1, .int .i64 0, .str [], .nils], .agg [.int .i64 6, .int .i64 2, .int .i64 0, .str [], .nils], .agg [.int .i64 7, .int .i64 1, .int .i64 1, .str [], .nils]]], .int .i64 24, .int .i64 0]) := (dec_ac _ _ 24 376 (by kernel_rfl) (by kernel_rfl) (fun n => by kernel_rfl)).h
theorem k415c_ok : Okc (415, [.ro 1 [.int .u8 50, .int .u8 3, .int .u8 2, .int .u8 1, .int .u8 1, .int .u8 12, .int .u8 2, .int .u8 1, .int .u8 40]], .tup [.agg [.int .i64 50, .int .i64 3, .int .i64 0, .str [], .ro 5 [.agg [.int .i64 1, .int .i64 1, .int .i64 6, .str [], .nils], .agg [.int .i64 2, .int .i64 1, .int .i64 20, .str [], .nils]]], .int .i64 9, .int .i64 0]) := (dec_ac _ _ 9 311 (by kernel_rfl) (by kernel_rfl) (fun n => by kernel_rfl)).h
end Go.Proofs.YtnklkkagpkcmfaaGreatDoor
