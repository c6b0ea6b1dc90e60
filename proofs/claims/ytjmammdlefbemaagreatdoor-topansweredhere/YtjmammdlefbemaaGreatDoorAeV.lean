/- The abstract evaluator: soundness of functions and of rounds. -/
import Derived.Test.YtjmammdlefbemaaGreatDoorAeU
set_option linter.unusedVariables false
set_option linter.unusedSectionVars false
namespace Go.Ae

section
variable {P : Program} {C : Ctx} (H : CtxOK P C) {q : Nat}

/-- the machine's reading of one result -/
def resOne (tmps : Array Value) : ResultVar → Sem Value
  | .tmp t => pure (tmps.getD t undef)
  | .cell a t => do loadVar t (← asAddr (tmps.getD a undef))

include H in
theorem resG_ok {r : ResultVar} {g : TT → HH → (AV → Nat) → Nat} (hg : resG C q r = some g) {t : TT} {h : HH} {k : AV → Nat} (hk : g t h k = 0) :
    ∃ v, k v = 0 ∧ ∀ base Γ n w (tmps : Array Value), GlOK C base → Rel base Γ h n w → RelT Γ t tmps → ∃ V, (resOne tmps r).run P w = .ok V w ∧ VR Γ v V := by
  cases r with
  | tmp x =>
    cases hg
    exact ⟨_, hk, fun base Γ n w tmps hgl R ht => ⟨_, by simp [resOne], ht x⟩⟩
  | cell x ty =>
    unfold resG at hg
    simp only at hg
    split at hg
    · rename_i f hf
      cases hg
      have := kLoad_ok H (ecode_ne q 992 0) (o := { (default : Oper) with op := .load ty (.tmp x) }) rfl hf
      obtain ⟨v, hk, hall⟩ := this t h k hk
      refine ⟨v, hk, fun base Γ n w tmps hgl R ht => ?_⟩
      obtain ⟨V, hr, hv⟩ := hall base Γ n w { tmps, defers := [] } hgl R ht
      refine ⟨V, ?_, hv⟩
      have he : ({ tmps, defers := [] } : Act).eval (.tmp x) = tmps.getD x undef := rfl
      simp only [execOp, Instr.loadAt, he] at hr
      cases hX : tmps.getD x undef with
      | pointer p =>
        rw [hX] at hr
        cases p with
        | none => simp [Instr.sureAddr] at hr
        | some ad =>
          simp only [Instr.sureAddr, Sem.run_bind, Sem.run_pure, Result.andThen_ok] at hr
          simp only [resOne, hX, asAddr, Sem.run_bind, Sem.run_pure, Result.andThen_ok]
          cases hl : (loadVar ty ad).run P w with
          | ok V' w' => rw [hl] at hr; simp at hr; obtain ⟨rfl, rfl⟩ := hr; rfl
          | halt x w' => rw [hl] at hr; simp at hr
      | _ => rw [hX] at hr; simp [Instr.sureAddr] at hr
    · cases hg

include H in
theorem resL_ok : ∀ {rs : List ResultVar} {g : TT → HH → (List AV → Nat) → Nat}, resL C q rs = some g → ∀ {t : TT} {h : HH} {k : List AV → Nat}, g t h k = 0 →
    ∃ vs, k vs = 0 ∧ ∀ base Γ n w (tmps : Array Value), GlOK C base → Rel base Γ h n w → RelT Γ t tmps → ∃ Vs, (rs.mapM (resOne tmps)).run P w = .ok Vs w ∧ VRs Γ vs Vs
  | [], g, hg, t, h, k, hk => by
    cases hg
    exact ⟨[], hk, fun base Γ n w tmps hgl R ht => ⟨[], by simp, .nil⟩⟩
  | r :: rs, g, hg, t, h, k, hk => by
    change (match resG C q r, resL C q rs with
      | some g, some gs => some fun t h k => g t h fun v => gs t h fun vs => k (v :: vs)
      | _, _ => none) = some g at hg
    split at hg
    · rename_i g1 gs h1 h2
      cases hg
      obtain ⟨v, hk, hv⟩ := resG_ok H h1 hk
      obtain ⟨vs, hk, hvs⟩ := resL_ok h2 hk
      refine ⟨_, hk, fun base Γ n w tmps hgl R ht => ?_⟩
      obtain ⟨V, hr, hV⟩ := hv base Γ n w tmps hgl R ht
      obtain ⟨Vs, hrs, hVs⟩ := hvs base Γ n w tmps hgl R ht
      exact ⟨V :: Vs, by simp [List.mapM_cons, hr, hrs], .cons hV hVs⟩
    · cases hg

theorem VRs.length {Γ : Gam} {vs : List AV} {Vs : List Value} (h : VRs Γ vs Vs) : Vs.length = vs.length := by
  induction h with
  | nil => rfl
  | cons _ _ ih => simp [ih]
theorem VRs.nth {Γ : Gam} {vs : List AV} {Vs : List Value} (h : VRs Γ vs Vs) : ∀ i (hi : i < vs.length) (hi' : i < Vs.length), VR Γ vs[i] Vs[i] := by
  induction h with
  | nil => intro i hi; exact absurd hi (by simp)
  | cons h _ ih =>
    intro i hi hi'
    cases i with
    | zero => exact h
    | succ i => exact ih i (by simpa using hi) (by simpa using hi')

include H in
theorem resD_ok {fn : Func} {t : TT} {h : HH} {k : AV → Nat} (hk : resD C q fn.results.toList t h k = 0) :
    ∃ v, k v = 0 ∧ ∀ base Γ n w (tmps : Array Value), GlOK C base → Rel base Γ h n w → RelT Γ t tmps → ∃ V, (results fn tmps).run P w = .ok V w ∧ VR Γ v V := by
  unfold resD at hk
  have hres : ∀ (tmps : Array Value) (w : World) (Vs : List Value), (fn.results.toList.mapM (resOne tmps)).run P w = .ok Vs w →
      (results fn tmps).run P w = .ok (if h : Vs.length = 1 then Vs[0] else .tuple Vs.toArray) w := by
    intro tmps w Vs hr
    have e1 : (fn.results.mapM (resOne tmps)).run P w = .ok Vs.toArray w := by
      rw [Array.mapM_eq_mapM_toList]
      simp [hr]
    have e2 : results fn tmps = (do let vs ← fn.results.mapM (resOne tmps); pure (if h : vs.size = 1 then vs[0] else .tuple vs)) := by
      unfold results
      congr 1
    rw [e2]
    simp [e1]
  cases hg : resL C q fn.results.toList with
  | none => rw [hg] at hk; exact absurd hk (ecode_ne _ _ _)
  | some g =>
    rw [hg] at hk
    obtain ⟨vs, hk, hvs⟩ := resL_ok H hg hk
    split at hk
    · refine ⟨_, hk, fun base Γ n w tmps hgl R ht => ?_⟩
      obtain ⟨Vs, hr, hV⟩ := hvs base Γ n w tmps hgl R ht
      cases hV
      exact ⟨_, hres tmps w [] hr, .undef⟩
    · refine ⟨_, hk, fun base Γ n w tmps hgl R ht => ?_⟩
      obtain ⟨Vs, hr, hV⟩ := hvs base Γ n w tmps hgl R ht
      cases hV with
      | cons h1 h2 => cases h2; exact ⟨_, hres tmps w _ hr, h1⟩
    · rename_i hne1 hne2
      refine ⟨_, hk, fun base Γ n w tmps hgl R ht => ?_⟩
      obtain ⟨Vs, hr, hV⟩ := hvs base Γ n w tmps hgl R ht
      have hl := hV.length
      have h1 : Vs.length ≠ 1 := by
        intro h1
        rw [h1] at hl
        obtain ⟨v, hv⟩ := List.length_eq_one_iff.1 hl.symm
        exact hne2 v hv
      refine ⟨.tuple Vs.toArray, ?_, .tuple _ _ (by simpa using hl) (fun i hi hi' => by simpa using hV.nth i hi (by simpa using hi'))⟩
      rw [hres tmps w _ hr, dif_neg h1]
end

section
variable {P : Program} {C : Ctx} (H : CtxOK P C) {ib : Nat → Bool} (hib : ∀ f, ib f = true → IdxOK P f) {q : Nat} {CY : Bool → CallT} (hcy : CYOK P C CY)

theorem step_coll {fr : Frame} {cs : List Frame} {w : World} {r : Nat} {ds : List Deferred} (hm : fr.mode = .returning) (hd : fr.defers = { target := .collected r, args := #[] } :: ds)
    (hob : w.heap[r]? = some (.deferred (some []))) : step P (lone fr cs w) = .next (lone { fr with defers := ds } cs (w.putObj r (.deferred none))) := by
  refine step_lone_go ?_
  have := run_takeDeferred (P := P) hob
  simp [stepG, unwind, hm, hd, Sem.runT_eq, this, GStep.bare_after]

theorem Rel.dflObj {base w : World} {Γ : Gam} {h : HH} {n : Nat} (R : Rel base Γ h n w) {b : Nat} {g : G} (hg : Γ b = some g) (hb : hget h b = .dfl) : w.heap[g.c]? = some (.deferred (some [])) := by
  obtain ⟨o, h1, h2⟩ := R.blk b g hg
  rw [hb] at h2
  cases h2
  exact h1

include hcy in
theorem unw_ok {k : HH → Nat → Nat} : ∀ (D : DL) {h : HH} {n : Nat}, unw q CY k D h n = 0 → ∃ h' n', k h' n' = 0 ∧ n ≤ n' ∧ ∀ base Γ w (fr : Frame) cs, GlOK C base → Rel base Γ h n w → RelD P Γ D fr.defers → fr.mode = .returning →
    ∃ Γ' w', Gam.ext n Γ Γ' ∧ Rel base Γ' h' n' w' ∧ Steps P (lone fr cs w) (lone { fr with defers := [] } cs w')
  | [], h, n, hk => ⟨h, n, hk, Nat.le_refl _, fun base Γ w fr cs hgl R hD hm => by
      have : fr.defers = [] := by cases hD' : fr.defers with | nil => rfl | cons d ds => rw [hD'] at hD; cases hD
      refine ⟨Γ, w, Gam.ext_refl _ _, R, ?_⟩
      rw [← this]
      exact .refl _ _⟩
  | .call f as :: D, h, n, hk => by
    obtain ⟨v, h₁, n₁, hk, hn₁, hcall⟩ := hcy.1 _ _ _ _ _ (show CY false f as h n (fun _ h' n' => unw q CY k D h' n') = 0 from hk)
    obtain ⟨h', n', hk, hn, hrest⟩ := unw_ok D hk
    refine ⟨h', n', hk, Nat.le_trans hn₁ hn, fun base Γ w fr cs hgl R hD hm => ?_⟩
    cases hds : fr.defers with
    | nil => rw [hds] at hD; cases hD
    | cons d ds =>
      rw [hds] at hD
      cases hD with
      | call ht As hi hv t =>
        obtain ⟨fv, cap, htar⟩ := ht
        have hrc : recoverD ({ fr with defers := ds } :: cs) = none := by simp [recoverD, hm]
        obtain ⟨Γ₁, w₁, fr₁, V, le, R₁, hV, hst, hkd, hgo⟩ := hcall base Γ w As ({ fr with defers := ds } :: cs) .deferred hgl R hv (.inr ⟨rfl, hrc⟩)
        obtain ⟨Γ', w', le', R', hst'⟩ := hrest base Γ₁ w₁ { fr with defers := ds } cs hgl R₁ (t.mono le.1) hm
        refine ⟨Γ', w', Gam.ext_trans le hn₁ le', R', .head (step_defer (by rw [hm]; simp) hds htar (hi w)) (hst.trans (.head (step_going_returned hkd.1 hgo) ?_))⟩
        have e1 : ({ ({ fr with defers := ds } : Frame) with mode := settle ({ fr with defers := ds } : Frame).mode } : Frame) = { fr with defers := ds } := by
          simp [hm, settle]
        rw [e1]
        exact hst'
  | .coll b :: D, h, n, hk => by
    obtain ⟨hb, hk⟩ := blkDfl_ok (ecode_ne q 990 0) (show blkDfl (ecode q 990 0) (hget h b) (unw q CY k D (hset h b .dead) n) = 0 from hk)
    obtain ⟨h', n', hk, hn, hrest⟩ := unw_ok D hk
    refine ⟨h', n', hk, hn, fun base Γ w fr cs hgl R hD hm => ?_⟩
    cases hds : fr.defers with
    | nil => rw [hds] at hD; cases hD
    | cons d ds =>
      rw [hds] at hD
      cases hD with
      | coll hg t =>
        have hob := R.dflObj hg hb
        obtain ⟨Γ', w', le', R', hst'⟩ := hrest base Γ _ { fr with defers := ds } cs hgl (R.setBlk hg (by rw [hb]; simp) (.dead (.deferred none))) t hm
        exact ⟨Γ', w', le', R', .head (step_coll hm hds hob) hst'⟩

theorem args_rel {Γ : Gam} {args : List AV} {As : Array Value} (hv : VRs Γ args As.toList) (m : Nat) : RelT Γ (fillT args 0 .nil) (As ++ Array.replicate m undef) := by
  intro i
  rw [tget_fillT]
  have hl := hv.length
  simp only [Array.length_toList] at hl
  by_cases hi : i < args.length
  · rw [if_pos ⟨Nat.zero_le _, by omega⟩]
    have h1 := hv.nth i hi (by simpa [hl] using hi)
    have hA : i < As.size := by omega
    simp only [Nat.sub_zero, Array.getD_eq_getD_getElem?, List.getD_eq_getElem?_getD, List.getElem?_eq_getElem hi, Option.getD_some]
    rw [Array.getElem?_append_left hA, Array.getElem?_eq_getElem hA]
    simpa using h1
  · rw [if_neg (by omega), tget_nil]
    have : (As ++ Array.replicate m undef).getD i undef = undef := by
      simp only [Array.getD_eq_getD_getElem?]
      rw [Array.getElem?_append_right (by omega)]
      cases h : (Array.replicate m undef)[i - As.size]? with
      | none => rfl
      | some V =>
        have := Array.getElem?_eq_some_iff.1 h
        obtain ⟨h1, h2⟩ := this
        simp at h2
        simp [h2]
    rw [this]
    exact .undef

include H hib hcy in
theorem fnD_ok (hdraw : ∀ N inR id ops, DrawSnd P C ib q N inR CY id ops) {x : Func} (hx : P.funcs[q]? = some x) {args : List AV} {h : HH} {n : Nat} {k : AV → HH → Nat → Nat} (hk : (fnD C ib q x).run CY args h n k = 0) :
    ∃ v h' n', k v h' n' = 0 ∧ n ≤ n' ∧ ∀ base Γ w (As : Array Value) cs kd, GlOK C base → Rel base Γ h n w → VRs Γ args As.toList →
    (kd = .normal ∨ kd = .deferred ∧ recoverD cs = none) →
    ∃ Γ' w' fr V, Gam.ext n Γ Γ' ∧ Rel base Γ' h' n' w' ∧ VR Γ' v V ∧ Steps P (lone (Frame.enter P q As kd) cs w) (lone fr cs w') ∧ (fr.kind = kd ∧ fr.fn = q) ∧ fr.going P w' (.returned V) := by
  unfold fnD at hk
  cases hb : x.body with
  | none => rw [hb] at hk; exact absurd (show ecode q 989 0 = 0 from hk) (ecode_ne _ _ _)
  | some c =>
    rw [hb] at hk
    obtain ⟨out, t', h', n', D', hk, hn, hall⟩ := den_ok H hib hcy (fun id ops => hdraw x.ntmps false id ops) c hk
    -- both ways out come to the frame's end
    have hend : unw q CY (fun h n => resD C q x.results.toList t' h fun v => k v h n) D' h' n' = 0 := by
      cases out with
      | nrm => exact hk
      | ex i => exact absurd hk (ecode_ne _ _ _)
      | rt => exact hk
    have hout : out = .nrm ∨ out = .rt := by
      cases out with
      | nrm => exact .inl rfl
      | ex i => exact absurd hk (ecode_ne _ _ _)
      | rt => exact .inr rfl
    obtain ⟨h₂, n₂, hk₂, hn₂, hun⟩ := unw_ok hcy D' hend
    obtain ⟨v, hkv, hres⟩ := resD_ok H hk₂
    refine ⟨v, h₂, n₂, hkv, Nat.le_trans hn hn₂, fun base Γ w As cs kd hgl R hv hkd => ?_⟩
    let b : Frame := { (default : Frame) with fn := q, kind := kd }
    have henter : Frame.enter P q As kd = fat b { tmps := As ++ Array.replicate (x.ntmps - As.size) undef, defers := [] } [.code c] := by
      simp [Frame.enter, fat, hx, hb, b]
      rfl
    have hside : Side q false b cs := ⟨rfl, fun _ => rfl, hkd⟩
    obtain ⟨Γ', w', a', le, S', hst⟩ := hall base Γ w b [] cs { tmps := As ++ Array.replicate (x.ntmps - As.size) undef, defers := [] } hgl hside
      ⟨R, args_rel hv _, by simp; omega, .nil⟩
    -- the frame, returning
    obtain ⟨todo, hs1⟩ : ∃ todo, Steps P (lone (Frame.enter P q As kd) cs w) (lone { fat b a' todo with mode := .returning } cs w') := by
      rw [henter]
      rcases hout with rfl | rfl
      · exact ⟨[], Steps.trans hst (.one (fat_end rfl))⟩
      · exact hst.2
    obtain ⟨Γ₂, w₂, le₂, R₂, hs2⟩ := hun base Γ' w' { fat b a' todo with mode := .returning } cs hgl S'.rel S'.df rfl
    obtain ⟨V, hr, hV⟩ := hres base Γ₂ n₂ w₂ a'.tmps hgl R₂ (S'.tm.mono le₂.1)
    exact ⟨Γ₂, w₂, _, V, Gam.ext_trans le hn le₂, R₂, hV, hs1.trans hs2, ⟨rfl, rfl⟩, rfl, rfl, x, hx, hr⟩
end
end Go.Ae
