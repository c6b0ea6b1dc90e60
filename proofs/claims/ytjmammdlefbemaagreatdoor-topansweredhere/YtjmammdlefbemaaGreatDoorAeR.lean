/- The abstract evaluator: soundness of one compiled operation, run in a frame. -/
import Derived.Test.YtjmammdlefbemaaGreatDoorAeQ
set_option linter.unusedVariables false
set_option linter.unusedSectionVars false
namespace Go.Ae

theorem RelD.mono {P : Program} {Γ Δ : Gam} (le : Γ.le Δ) {D : DL} {ds : List Deferred} (h : RelD P Γ D ds) : RelD P Δ D ds := by
  induction h with
  | nil => exact .nil
  | call ht As hi hv _ ih => exact .call ht As hi (hv.mono le) ih
  | coll hb _ ih => exact .coll (le _ _ hb) ih

def CallOK (P : Program) (C : Ctx) (c : CallT) : Prop :=
  ∀ f args h n k, c f args h n k = 0 → ∃ v h' n', k v h' n' = 0 ∧ n ≤ n' ∧ ∀ base Γ w (As : Array Value) cs kd, GlOK C base → Rel base Γ h n w → VRs Γ args As.toList →
    (kd = .normal ∨ kd = .deferred ∧ recoverD cs = none) →
    ∃ Γ' w' fr V, Gam.ext n Γ Γ' ∧ Rel base Γ' h' n' w' ∧ VR Γ' v V ∧ Steps P (lone (Frame.enter P f As kd) cs w) (lone fr cs w') ∧ (fr.kind = kd ∧ fr.fn = f) ∧ fr.going P w' (.returned V)

def YldOK (P : Program) (C : Ctx) (c : CallT) : Prop :=
  ∀ b args h n k, c b args h n k = 0 → ∃ v h' n', k v h' n' = 0 ∧ n ≤ n' ∧ ∀ base Γ w (As : Array Value) g, GlOK C base → Rel base Γ h n w → Γ b = some g → VRs Γ args As.toList →
    ∃ fn tmps asg body, (Instr.yield g.c As).run P w = .ok (.round g.c fn tmps asg body) w ∧ ∀ (c : Frame) (cs : List Frame),
      ∃ Γ' w' V, Gam.ext n Γ Γ' ∧ Rel base Γ' h' n' w' ∧ VR Γ' v V ∧ Steps P (lone (Frame.round g.c fn tmps asg body .normal) (c :: cs) w) (lone (c.finish V) cs w')

def CYOK (P : Program) (C : Ctx) (c : Bool → CallT) : Prop := CallOK P C (c false) ∧ YldOK P C (c true)

section
variable {P : Program} {C : Ctx} {e : Nat} (he : e ≠ 0) {inR : Bool} {CY : Bool → CallT} (hcy : CYOK P C CY)

theorem tryRecover_none {q : Nat} {b : Frame} {cs : List Frame} (hs : Side q inR b cs) (a : Act) (todo : List Item) : tryRecover (fat b a todo) cs = none := by
  rcases hs.kind with hk | ⟨hk, hr⟩
  · cases cs <;> simp [tryRecover, fat, hk]
  · rw [tryRecover_deferred (fr := fat b a todo) hk, hr]

theorem put_self_defers (a : Act) (dst : Option Nat) (v : Value) : ({ a with defers := a.defers } : Act).put dst v = a.put dst v := rfl

include he hcy in
theorem opRun_ok {o : Oper} {K : K} (hK : KOK P C o K) (hdef : inR = true → ∀ c, o.op ≠ .defer c) {view : TT → TT} {pt : AV → TT → TT} {nx : BX OT} {kn : St} {t : TT} {h : HH} {n : Nat} {D : DL}
    (hk : (opRun e inR view pt nx K).run CY kn t h n D = 0) :
    ∃ v h' n' D', nx.run CY kn (pt v t) h' n' D' = 0 ∧ n ≤ n' ∧ ∀ base Γ w b k cs (a av : Act) ops i rest q dst, GlOK C base → Side q inR b cs → Rel base Γ h n w → RelD P Γ D a.defers →
      RelT Γ (view t) av.tmps → execOp a.eval o = execOp av.eval o → ops[i]? = some o → Region.wanted o (yielded ops a.tmps) = true → o.dst = dst →
      ∃ Γ' w' V df, Gam.ext n Γ Γ' ∧ Rel base Γ' h' n' w' ∧ VR Γ' v V ∧ RelD P Γ' D' df ∧
        Steps P (lone (fat b a (.inRegion ops (i :: rest) :: k)) cs w) (lone (fat b (({ a with defers := df } : Act).put dst V) (.inRegion ops rest :: k)) cs w') := by
  -- one step of the machine
  have one : ∀ {b : Frame} {a : Act} {k : List Item} {cs : List Frame} {w : World} {ops : Array Oper} {i : Nat} {rest : List Nat} {q : Nat}, Side q inR b cs → ops[i]? = some o → Region.wanted o (yielded ops a.tmps) = true →
      stepG P true { frame := fat b a (.inRegion ops (i :: rest) :: k), callers := cs, status := .running, dying := none } w = stepG.apply P true (fat b a (.inRegion ops (i :: rest) :: k)) cs none (execOp a.eval o) w := by
    intro b a k cs w ops i rest q hs ho hw
    refine fat_op ho hw ?_
    cases inR with
    | true => exact .inr (hdef rfl)
    | false => exact .inl (hs.rnd rfl)
  have fin : ∀ {b : Frame} {a : Act} {k : List Item} {ops : Array Oper} {i : Nat} {rest : List Nat} {dst : Option Nat} (v : Value), ops[i]? = some o → o.dst = dst → (fat b a (.inRegion ops (i :: rest) :: k)).finish v = fat b (a.put dst v) (.inRegion ops rest :: k) := by
    intro b a k ops i rest dst v ho hd
    rw [fat_finish, ho, ← hd]; rfl
  cases K with
  | bad => exact absurd hk he
  | val f =>
    obtain ⟨v, hk, hall⟩ := hK _ _ _ hk
    refine ⟨v, h, n, D, hk, Nat.le_refl _, fun base Γ w b k cs a av ops i rest q dst hgl hs R hD ht hex ho hw hd => ?_⟩
    obtain ⟨V, hr, hv⟩ := hall base Γ n w av hgl R ht
    rw [← hex] at hr
    refine ⟨Γ, w, V, a.defers, Gam.ext_refl _ _, R, hv, hD, .one (step_lone_go ?_)⟩
    rw [one hs ho hw, put_self_defers, ← fin V ho hd]
    simp [stepG.apply, hr]
  | alc f =>
    obtain ⟨B, mk, hk, hall⟩ := hK _ _ _ hk
    rw [forceN_eq] at hk
    refine ⟨mk n, hset h n B, n + 1, D, hk, Nat.le_succ _, fun base Γ w b k cs a av ops i rest q dst hgl hs R hD ht hex ho hw hd => ?_⟩
    obtain ⟨V, obj, cap, dr, hr, hid⟩ := hall base Γ n w av hgl R ht
    rw [← hex] at hr
    have hn := R.fresh n (Nat.le_refl _)
    obtain ⟨h1, h2⟩ := hid n hn
    refine ⟨_, _, V, a.defers, Gam.ext_put hn (Nat.le_refl _), R.alloc rfl h2 dr, h1, hD.mono (Gam.le_put hn), .one (step_lone_go ?_)⟩
    rw [one hs ho hw, put_self_defers, ← fin V ho hd]
    simp [stepG.apply, hr]
  | wr f =>
    obtain ⟨v, h', n', hk, hn, hall⟩ := hK _ _ _ _ hk
    refine ⟨v, h', n', D, hk, hn, fun base Γ w b k cs a av ops i rest q dst hgl hs R hD ht hex ho hw hd => ?_⟩
    obtain ⟨Γ', w', N, V, le, R', hr, hv, hN⟩ := hall base Γ w av hgl R ht
    rw [← hex] at hr
    refine ⟨Γ', w', V, a.defers, le, R', hv, hD.mono le.1, .one (step_lone_go ?_)⟩
    rw [one hs ho hw, put_self_defers, ← fin V ho hd]
    rcases hN with rfl | ⟨rfl, rfl⟩ <;> simp [stepG.apply, hr]
  | call f =>
    obtain ⟨fn, args, hk, hall⟩ := hK _ _ hk
    obtain ⟨v, h', n', hk, hn, hcall⟩ := hcy.1 _ _ _ _ _ hk
    refine ⟨v, h', n', D, hk, hn, fun base Γ w b k cs a av ops i rest q dst hgl hs R hD ht hex ho hw hd => ?_⟩
    obtain ⟨As, hr, hv⟩ := hall base Γ h n w av hgl R ht
    rw [← hex] at hr
    obtain ⟨Γ', w', fr, V, le, R', hv', hst, hkd, hgo⟩ := hcall base Γ w As (fat b a (.inRegion ops (i :: rest) :: k) :: cs) .normal hgl R hv (.inl rfl)
    refine ⟨Γ', w', V, a.defers, le, R', hv', hD.mono le.1, .head (m₁ := lone (Frame.enter P fn As .normal) (fat b a (.inRegion ops (i :: rest) :: k) :: cs) w) (step_lone_go ?_) (hst.trans (.one ?_))⟩
    · rw [one hs ho hw]
      simp [stepG.apply, hr, fat]
    · rw [put_self_defers, ← fin V ho hd]
      exact step_leave_returned ⟨hgo.1, hgo.2.1, hkd.1, hgo.2.2⟩
  | callv f =>
    rcases hK _ _ _ hk with ⟨fn, args, hk, hall⟩ | ⟨y, args, hk, hall⟩
    · obtain ⟨v, h', n', hk, hn, hcall⟩ := hcy.1 _ _ _ _ _ hk
      refine ⟨v, h', n', D, hk, hn, fun base Γ w b k cs a av ops i rest q dst hgl hs R hD ht hex ho hw hd => ?_⟩
      obtain ⟨As, hr, hv⟩ := hall base Γ h n w av hgl R ht
      rw [← hex] at hr
      obtain ⟨Γ', w', fr, V, le, R', hv', hst, hkd, hgo⟩ := hcall base Γ w As (fat b a (.inRegion ops (i :: rest) :: k) :: cs) .normal hgl R hv (.inl rfl)
      refine ⟨Γ', w', V, a.defers, le, R', hv', hD.mono le.1, .head (m₁ := lone (Frame.enter P fn As .normal) (fat b a (.inRegion ops (i :: rest) :: k) :: cs) w) (step_lone_go ?_) (hst.trans (.one ?_))⟩
      · rw [one hs ho hw]
        simp [stepG.apply, hr, fat]
      · rw [put_self_defers, ← fin V ho hd]
        exact step_leave_returned ⟨hgo.1, hgo.2.1, hkd.1, hgo.2.2⟩
    · obtain ⟨v, h', n', hk, hn, hy⟩ := hcy.2 _ _ _ _ _ hk
      refine ⟨v, h', n', D, hk, hn, fun base Γ w b k cs a av ops i rest q dst hgl hs R hD ht hex ho hw hd => ?_⟩
      obtain ⟨As, g, hg, hr, hv⟩ := hall base Γ h n w av hgl R ht
      rw [← hex] at hr
      obtain ⟨fn, tmps, asg, body, hyr, hst⟩ := hy base Γ w As g hgl R hg hv
      rw [hyr] at hr
      obtain ⟨Γ', w', V, le, R', hv', hst⟩ := hst (fat b a (.inRegion ops (i :: rest) :: k)) cs
      refine ⟨Γ', w', V, a.defers, le, R', hv', hD.mono le.1, .head (m₁ := lone (Frame.round g.c fn tmps asg body .normal) (fat b a (.inRegion ops (i :: rest) :: k) :: cs) w) (step_lone_go ?_) ?_⟩
      · rw [one hs ho hw]
        simp [stepG.apply, hr]
      · rw [put_self_defers, ← fin V ho hd]
        exact hst
  | dfr f =>
    obtain ⟨fn, args, hk, hall⟩ := hK _ _ hk
    refine ⟨.undef, h, n, _, hk, Nat.le_refl _, fun base Γ w b k cs a av ops i rest q dst hgl hs R hD ht hex ho hw hd => ?_⟩
    obtain ⟨d, hr, htar, As, hi, hv⟩ := hall base Γ h n w av hgl R ht
    rw [← hex] at hr
    refine ⟨Γ, w, undef, d :: a.defers, Gam.ext_refl _ _, R, .undef, .call htar As hi hv hD, .one (step_lone_go ?_)⟩
    have : ({ fat b a (.inRegion ops (i :: rest) :: k) with defers := d :: a.defers } : Frame).finish undef = fat b (({ a with defers := d :: a.defers } : Act).put dst undef) (.inRegion ops rest :: k) := fin (a := { a with defers := d :: a.defers }) undef ho hd
    rw [one hs ho hw]
    simp only [stepG.apply, Sem.runT_eq, hr, GStep.bare_after]
    exact congrArg (fun fr => GStep.go { frame := fr, callers := cs, status := .running, dying := none } w) this
  | rcv =>
    obtain ⟨hi, hk⟩ := guardN_ok he hk
    have hi : inR = false := by simpa using hi
    refine ⟨.nili, h, n, D, hk, Nat.le_refl _, fun base Γ w b k cs a av ops i rest q dst hgl hs R hD ht hex ho hw hd => ?_⟩
    have hr := hK a w
    refine ⟨Γ, w, .nilIface, a.defers, Gam.ext_refl _ _, R, .nili, hD, .one (step_lone_go ?_)⟩
    have htr := tryRecover_none hs a (.inRegion ops (i :: rest) :: k)
    have hro : (fat b a (.inRegion ops (i :: rest) :: k)).roundOf = none := hs.rnd hi
    rw [one hs ho hw, put_self_defers, ← fin .nilIface ho hd]
    simp [stepG.apply, hr, htr, hro]
end
end Go.Ae
