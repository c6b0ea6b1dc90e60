/- The abstract evaluator: soundness of guards and of regions that run in their order. -/
import Derived.Test.YtjmammdlefbemaaGreatDoorAeR
set_option linter.unusedVariables false
set_option linter.unusedSectionVars false
namespace Go.Ae

theorem nthO_eq {α : Type} : ∀ (l : List α) (i : Nat), nthO l i = l[i]?
  | [], i => rfl
  | x :: l, 0 => rfl
  | x :: l, i + 1 => by show nthO l i = _; rw [nthO_eq l i]; rfl

/-- What a state is, abstractly. -/
structure SR (P : Program) (base : World) (Γ : Gam) (t : TT) (h : HH) (n : Nat) (D : DL) (N : Nat) (a : Act) (w : World) : Prop where
  rel : Rel base Γ h n w
  tm : RelT Γ t a.tmps
  sz : N ≤ a.tmps.size
  df : RelD P Γ D a.defers

theorem put_size (a : Act) (dst : Option Nat) (V : Value) : (a.put dst V).tmps.size = a.tmps.size := by cases dst <;> simp [Act.put]

theorem RelT.put {Γ : Gam} {t : TT} {a : Act} (h : RelT Γ t a.tmps) {dst : Option Nat} {v : AV} {V : Value} (hv : VR Γ v V) (hd : ∀ d, dst = some d → d < a.tmps.size) : RelT Γ (putD dst v t) (a.put dst V).tmps := by
  cases dst with
  | none => exact h
  | some d =>
    intro i
    show VR Γ (tget (tset t d v) i) ((a.tmps.setIfInBounds d V).getD i undef)
    have hd := hd d rfl
    rw [tget_tset]
    by_cases hi : d = i
    · subst hi
      simp [hd]
      exact hv
    · rw [if_neg hi]
      simp [Array.getElem?_setIfInBounds_ne hi]
      simpa using h i

theorem put_defers (a : Act) (dst : Option Nat) (V : Value) : (a.put dst V).defers = a.defers := by cases dst <;> rfl

theorem SR.put {P : Program} {base : World} {Γ : Gam} {t : TT} {h : HH} {n : Nat} {D : DL} {N : Nat} {a : Act} {w : World} {df : List Deferred} (hr : Rel base Γ h n w) (ht : RelT Γ t a.tmps) (hs : N ≤ a.tmps.size) (hd : RelD P Γ D df)
    {dst : Option Nat} {v : AV} {V : Value} (hv : VR Γ v V) (hdst : ∀ d, dst = some d → d < N) : SR P base Γ (putD dst v t) h n D N (({ a with defers := df } : Act).put dst V) w :=
  ⟨hr, RelT.put (a := { a with defers := df }) ht hv (fun d h => Nat.lt_of_lt_of_le (hdst d h) hs), by rw [put_size]; exact hs, by rw [put_defers]; exact hd⟩

theorem asGuard_ok {e : Nat} (he : e ≠ 0) {v : AV} {want : Bool} {kr ks : Nat} (h : asGuard e v want kr ks = 0) :
    (∃ b, v = .bool b ∧ b = want ∧ kr = 0) ∨ ((v = .undef ∨ ∃ b, v = .bool b ∧ b ≠ want) ∧ ks = 0) := by
  cases v <;> first | exact absurd h he | exact .inr ⟨.inl rfl, h⟩ | skip
  rename_i b
  cases b <;> cases want
  · exact .inl ⟨_, rfl, rfl, h⟩
  · exact .inr ⟨.inr ⟨_, rfl, by simp⟩, h⟩
  · exact .inr ⟨.inr ⟨_, rfl, by simp⟩, h⟩
  · exact .inl ⟨_, rfl, rfl, h⟩

theorem gdOf_none {inR : Bool} {ops : Array Oper} {o : Oper} (h : gdOf inR ops.toList o = some none) (tmps : Array Value) : Region.wanted o (yielded ops tmps) = true := by
  unfold gdOf at h
  split at h
  · cases h
  · split at h
    · rename_i hg; simp [Region.wanted, hg]
    · split at h
      · split at h <;> cases h
      · cases h

theorem gdOf_some {inR : Bool} {ops : Array Oper} {o : Oper} {d : Nat} {want : Bool} (h : gdOf inR ops.toList o = some (some (d, want))) (tmps : Array Value) :
    (∀ b, tmps.getD d undef = .bool b → Region.wanted o (yielded ops tmps) = (b == want)) ∧ (tmps.getD d undef = undef → Region.wanted o (yielded ops tmps) = false) := by
  unfold gdOf at h
  split at h
  · cases h
  split at h
  · cases h
  rename_i g want' hg
  rw [nthO_eq] at h
  split at h
  · rename_i x hx
    split at h
    · rename_i d' hd'
      cases h
      have hx : ops[g]? = some x := by simpa using hx
      have hy : yielded ops tmps g = match tmps.getD d undef with | .bool b => some b | _ => none := by
        unfold yielded
        simp only [hx, Option.bind_some, hd', Array.getD_eq_getD_getElem?]
        cases hv : tmps[d]? with
        | none => rfl
        | some V => cases V <;> rfl
      refine ⟨fun b hb => ?_, fun hb => ?_⟩
      · rw [hb] at hy
        simp only [Region.wanted, hg, hy]
        cases b <;> cases want <;> rfl
      · rw [hb] at hy
        simp only [Region.wanted, hg, hy, undef]
        cases want <;> rfl
    · cases h
  · cases h

theorem gdOf_def {inR : Bool} {ops : List Oper} {o : Oper} {gd : Option (Nat × Bool)} (h : gdOf inR ops o = some gd) : inR = true → ∀ c, o.op ≠ .defer c := by
  intro hi c hc
  subst hi
  unfold gdOf at h
  rw [if_pos (by simp [defOK, hc])] at h
  cases h

theorem gdOf_sel {inR : Bool} {ops : List Oper} {o : Oper} {gd : Option (Nat × Bool)} (h : gdOf inR ops o = some gd) : ∀ cs b, o.op ≠ .select cs b := by
  intro cs b hc
  unfold gdOf at h
  rw [if_pos (by simp [defOK, hc])] at h
  cases h

section
variable {P : Program} {C : Ctx} {e : Nat} (he : e ≠ 0) {inR : Bool} {CY : Bool → CallT} (hcy : CYOK P C CY)

include he hcy in
theorem opPt_ok {o : Oper} {K : K} (hK : KOK P C o K) (hdef : inR = true → ∀ c, o.op ≠ .defer c) {view : TT → TT} {dst : Option Nat} {nx : BX OT} {kn : St} {t : TT} {h : HH} {n : Nat} {D : DL}
    (hk : (opPt e inR view dst nx K).run CY kn t h n D = 0) :
    ∃ v h' n' D', nx.run CY kn (putD dst v t) h' n' D' = 0 ∧ n ≤ n' ∧ ∀ base Γ w b k cs (a av : Act) ops i rest q, GlOK C base → Side q inR b cs → Rel base Γ h n w → RelD P Γ D a.defers →
      RelT Γ (view t) av.tmps → execOp a.eval o = execOp av.eval o → ops[i]? = some o → Region.wanted o (yielded ops a.tmps) = true → o.dst = dst →
      ∃ Γ' w' V df, Gam.ext n Γ Γ' ∧ Rel base Γ' h' n' w' ∧ VR Γ' v V ∧ RelD P Γ' D' df ∧
        Steps P (lone (fat b a (.inRegion ops (i :: rest) :: k)) cs w) (lone (fat b (({ a with defers := df } : Act).put dst V) (.inRegion ops rest :: k)) cs w') := by
  cases dst with
  | none =>
    obtain ⟨v, h', n', D', hk, hn, hall⟩ := opRun_ok (pt := fun _ t => t) he hcy hK hdef hk
    exact ⟨v, h', n', D', hk, hn, fun base Γ w b k cs a av ops i rest q => hall base Γ w b k cs a av ops i rest q none⟩
  | some d =>
    obtain ⟨v, h', n', D', hk, hn, hall⟩ := opRun_ok (pt := fun v t => Tr.setC .undef (path d) v t) he hcy hK hdef hk
    exact ⟨v, h', n', D', hk, hn, fun base Γ w b k cs a av ops i rest q => hall base Γ w b k cs a av ops i rest q (some d)⟩

include he hcy in
theorem opGd_ok {o : Oper} {K : K} (hK : KOK P C o K) {all : List Oper} {gd : Option (Nat × Bool)} (hgd : gdOf inR all o = some gd) {view : TT → TT} {dst : Option Nat} {nx : BX OT} {kn : St} {t : TT} {h : HH} {n : Nat} {D : DL}
    (hk : (opGd e inR view dst gd nx K).run CY kn t h n D = 0) :
    ∃ v h' n' D', nx.run CY kn (putD dst v t) h' n' D' = 0 ∧ n ≤ n' ∧ ∀ base Γ w b k cs (a av : Act) (ops : Array Oper) i rest q, ops.toList = all → GlOK C base → Side q inR b cs → Rel base Γ h n w → RelD P Γ D a.defers →
      RelT Γ (view t) av.tmps → execOp a.eval o = execOp av.eval o → (∀ d w, gd = some (d, w) → av.tmps.getD d undef = a.tmps.getD d undef) → ops[i]? = some o → o.dst = dst →
      ∃ Γ' w' V df, Gam.ext n Γ Γ' ∧ Rel base Γ' h' n' w' ∧ VR Γ' v V ∧ RelD P Γ' D' df ∧
        Steps P (lone (fat b a (.inRegion ops (i :: rest) :: k)) cs w) (lone (fat b (({ a with defers := df } : Act).put dst V) (.inRegion ops rest :: k)) cs w') := by
  cases gd with
  | none =>
    obtain ⟨v, h', n', D', hk, hn, hall⟩ := opPt_ok he hcy hK (gdOf_def hgd) hk
    refine ⟨v, h', n', D', hk, hn, fun base Γ w b k cs a av ops i rest q hops hgl hs R hD ht hex hg ho hd => ?_⟩
    exact hall base Γ w b k cs a av ops i rest q hgl hs R hD ht hex ho (gdOf_none (by rw [hops]; exact hgd) _) hd
  | some g =>
    obtain ⟨d, want⟩ := g
    rcases asGuard_ok he hk with ⟨bb, hv, hb, hk⟩ | ⟨hv, hk⟩
    · obtain ⟨v, h', n', D', hk, hn, hall⟩ := opPt_ok he hcy hK (gdOf_def hgd) hk
      refine ⟨v, h', n', D', hk, hn, fun base Γ w b k cs a av ops i rest q hops hgl hs R hD ht hex hg ho hd => ?_⟩
      have h1 := ht d
      have hv : tget (view t) d = .bool bb := hv
      rw [hv, hg d want rfl] at h1
      refine hall base Γ w b k cs a av ops i rest q hgl hs R hD ht hex ho ?_ hd
      rw [(gdOf_some (by rw [hops]; exact hgd) _).1 _ h1.bool_inv, hb]
      simp
    · refine ⟨.undef, h, n, D, hk, Nat.le_refl _, fun base Γ w b k cs a av ops i rest q hops hgl hs R hD ht hex hg ho hd => ?_⟩
      refine ⟨Γ, w, undef, a.defers, Gam.ext_refl _ _, R, .undef, hD, .one ?_⟩
      have h1 := ht d
      rw [hg d want rfl] at h1
      have hw : Region.wanted o (yielded ops a.tmps) = false := by
        rcases hv with hv | ⟨bb, hv, hb⟩
        · have hv : tget (view t) d = .undef := hv
          rw [hv] at h1
          exact (gdOf_some (by rw [hops]; exact hgd) _).2 h1.undef_inv
        · have hv : tget (view t) d = .bool bb := hv
          rw [hv] at h1
          rw [(gdOf_some (by rw [hops]; exact hgd) _).1 _ h1.bool_inv]
          cases bb <;> cases want <;> simp_all
      have := fat_op_skip (P := P) (b := b) (a := a) (k := k) (cs := cs) (w := w) (ops := ops) (i := i) (rest := rest) (by simp [ho, hw])
      rw [this, ho, put_self_defers, ← hd]
      rfl
end

theorem ecode_ne (q id i : Nat) : ecode q id i ≠ 0 := Nat.succ_ne_zero _

section
variable {P : Program} {C : Ctx} (H : CtxOK P C) {ib : Nat → Bool} (hib : ∀ f, ib f = true → IdxOK P f) {q N : Nat} {inR : Bool} {CY : Bool → CallT} (hcy : CYOK P C CY)

theorem dstOK_spec {o : Oper} (h : dstOK N o = true) : ∀ d, o.dst = some d → d < N := by
  intro d hd
  unfold dstOK at h
  rw [hd] at h
  exact blt_lt h

include H hib hcy in
theorem opsD_ok {id : Nat} {all : List Oper} : ∀ (ops : List Oper) (i : Nat), all.drop i = ops → ∀ {kn : St} {t : TT} {h : HH} {n : Nat} {D : DL}, (opsD C ib q N inR id all ops i).run CY kn t h n D = 0 →
    ∃ t' h' n' D', kn t' h' n' D' = 0 ∧ n ≤ n' ∧ ∀ base Γ w b k cs (a : Act) (arr : Array Oper), arr.toList = all → GlOK C base → Side q inR b cs → SR P base Γ t h n D N a w →
      ∃ Γ' w' a', Gam.ext n Γ Γ' ∧ SR P base Γ' t' h' n' D' N a' w' ∧
        Steps P (lone (fat b a (.inRegion arr (List.range' i ops.length) :: k)) cs w) (lone (fat b a' (.inRegion arr [] :: k)) cs w')
  | [], i, hd, kn, t, h, n, D, hk => ⟨t, h, n, D, hk, Nat.le_refl _, fun base Γ w b k cs a arr harr hgl hs S => ⟨Γ, w, a, Gam.ext_refl _ _, S, .refl _ _⟩⟩
  | o :: ops, i, hd, kn, t, h, n, D, hk => by
    change (Bool.rec (motive := fun _ => BX OT) (.mk fun _ _ _ _ _ _ => ecode q id i)
      (Option.rec (motive := fun _ => BX OT) (.mk fun _ _ _ _ _ _ => ecode q id i) (fun gd => opGd (ecode q id i) inR (fun t => t) o.dst gd (opsD C ib q N inR id all ops (i + 1)) (cop C ib (ecode q id i) o)) (gdOf inR all o))
      (dstOK N o) : BX OT).run CY kn t h n D = 0 at hk
    cases hdst : dstOK N o with
    | false => rw [hdst] at hk; exact absurd hk (ecode_ne _ _ _)
    | true =>
      rw [hdst] at hk
      cases hgd : gdOf inR all o with
      | none => rw [hgd] at hk; exact absurd hk (ecode_ne _ _ _)
      | some gd =>
        rw [hgd] at hk
        obtain ⟨v, h₁, n₁, D₁, hk, hn₁, hop⟩ := opGd_ok (ecode_ne q id i) hcy (cop_ok H hib (ecode_ne q id i) o) hgd hk
        have hd' : all.drop (i + 1) = ops := by
          rw [← List.drop_drop, hd]; rfl
        obtain ⟨t', h', n', D', hk, hn, hrest⟩ := opsD_ok ops (i + 1) hd' hk
        refine ⟨t', h', n', D', hk, Nat.le_trans hn₁ hn, fun base Γ w b k cs a arr harr hgl hs S => ?_⟩
        have hi : arr[i]? = some o := by
          have h1 : all[i]? = some o := by
            have := congrArg (fun l => l[0]?) hd
            simpa using this
          rw [← harr] at h1
          simpa using h1
        obtain ⟨Γ₁, w₁, V, df, le, R₁, hv, hD₁, hst⟩ := hop base Γ w b k cs a a arr i (List.range' (i + 1) ops.length) q harr hgl hs S.rel S.df S.tm rfl (fun _ _ _ => rfl) hi rfl
        obtain ⟨Γ', w', a', le', S', hst'⟩ := hrest base Γ₁ w₁ b k cs _ arr harr hgl hs (SR.put R₁ (S.tm.mono le.1) S.sz hD₁ hv (dstOK_spec hdst))
        refine ⟨Γ', w', a', Gam.ext_trans le hn₁ le', S', ?_⟩
        rw [List.length_cons, List.range'_succ]
        exact hst.trans hst'
end
end Go.Ae
