/- The abstract evaluator: soundness of code, and of functions. -/
import Derived.Test.YtjmammdlefbemaaGreatDoorAeT
set_option linter.unusedVariables false
set_option linter.unusedSectionVars false
namespace Go.Ae

section
variable {P : Program} {C : Ctx} (H : CtxOK P C) {ib : Nat → Bool} (hib : ∀ f, ib f = true → IdxOK P f) {q N lf : Nat} {inR : Bool} {CY : Bool → CallT} (hcy : CYOK P C CY)

include H hib hcy in
theorem region_ok {id : Nat} {ops : Array Oper} (hdraw : DrawSnd P C ib q N inR CY id ops) {draw : Bool} : CodeSnd P C ib q N inR lf CY (.region id ops draw) := by
  intro kn kx kr t h n D hk
  cases draw with
  | true =>
    obtain ⟨t', h', n', D', hk, hn, hall⟩ := hdraw (kn := kn) hk
    refine ⟨.nrm, t', h', n', D', hk, hn, fun base Γ w b k cs a hgl hs S => ?_⟩
    exact hall base Γ w b k cs a hgl hs S
  | false =>
    obtain ⟨t', h', n', D', hk, hn, hall⟩ := opsD_ok H hib hcy (q := q) (N := N) (inR := inR) (id := id) (all := ops.toList) ops.toList 0 (by simp) (kn := kn) hk
    refine ⟨.nrm, t', h', n', D', hk, hn, fun base Γ w b k cs a hgl hs S => ?_⟩
    obtain ⟨Γ', w', a', le, S', hst⟩ := hall base Γ w b k cs a ops rfl hgl hs S
    refine ⟨Γ', w', a', le, S', ?_⟩
    refine .head fat_region (.trans (m₁ := lone (fat b a' (.inRegion ops [] :: k)) cs w') ?_ (.one fat_region_end))
    rw [List.range_eq_range']
    simpa using hst

theorem loop_go {body : Code} (ih : CodeSnd P C ib q N inR lf CY body) {kx : Nat → St} {kr : St} : ∀ (m : Nat) {t : TT} {h : HH} {n : Nat} {D : DL},
    loopD q (fun r => (den C ib q N inR lf body).run CY r kx kr) m t h n D = 0 →
    ∃ out t' h' n' D', out ≠ .nrm ∧ (∀ kn, cont kn kx kr out t' h' n' D' = 0) ∧ n ≤ n' ∧ ∀ base Γ w b k cs (a : Act), GlOK C base → Side q inR b cs → SR P base Γ t h n D N a w →
      ∃ Γ' w' a', Gam.ext n Γ Γ' ∧ SR P base Γ' t' h' n' D' N a' w' ∧ Arr P (lone (fat b a (.code body :: .inLoop body :: k)) cs w) b k cs out a' w'
  | 0, t, h, n, D, hk => absurd (show ecode q 994 0 = 0 from hk) (ecode_ne _ _ _)
  | m + 1, t, h, n, D, hk => by
    obtain ⟨out, t₁, h₁, n₁, D₁, hk, hn₁, hall⟩ := ih hk
    cases out with
    | nrm =>
      obtain ⟨out, t', h', n', D', hne, hk, hn, hall'⟩ := loop_go ih m hk
      refine ⟨out, t', h', n', D', hne, hk, Nat.le_trans hn₁ hn, fun base Γ w b k cs a hgl hs S => ?_⟩
      obtain ⟨Γ₁, w₁, a₁, le, S₁, hst⟩ := hall base Γ w b (.inLoop body :: k) cs a hgl hs S
      obtain ⟨Γ', w', a', le', S', hst'⟩ := hall' base Γ₁ w₁ b k cs a₁ hgl hs S₁
      exact ⟨Γ', w', a', Gam.ext_trans le hn₁ le', S', .of_steps (Steps.trans hst (.one fat_inLoop)) hst'⟩
    | ex i =>
      refine ⟨.ex i, t₁, h₁, n₁, D₁, by simp, fun _ => hk, hn₁, fun base Γ w b k cs a hgl hs S => ?_⟩
      obtain ⟨Γ₁, w₁, a₁, le, S₁, hst⟩ := hall base Γ w b (.inLoop body :: k) cs a hgl hs S
      exact ⟨Γ₁, w₁, a₁, le, S₁, .pass (.inl rfl) (by simp) hst⟩
    | rt =>
      refine ⟨.rt, t₁, h₁, n₁, D₁, by simp, fun _ => hk, hn₁, fun base Γ w b k cs a hgl hs S => ?_⟩
      obtain ⟨Γ₁, w₁, a₁, le, S₁, hst⟩ := hall base Γ w b (.inLoop body :: k) cs a hgl hs S
      exact ⟨Γ₁, w₁, a₁, le, S₁, .pass (.inl rfl) (by simp) hst⟩

include H hib hcy in
theorem den_ok (hdraw : ∀ id ops, DrawSnd P C ib q N inR CY id ops) : ∀ c, CodeSnd P C ib q N inR lf CY c := by
  intro c
  induction c with
  | skip =>
    intro kn kx kr t h n D hk
    exact ⟨.nrm, t, h, n, D, hk, Nat.le_refl _, fun base Γ w b k cs a hgl hs S => ⟨Γ, w, a, Gam.ext_refl _ _, S, .one fat_skip⟩⟩
  | region id ops draw => exact region_ok H hib hcy (hdraw id ops)
  | seq x y ihx ihy =>
    intro kn kx kr t h n D hk
    obtain ⟨out, t₁, h₁, n₁, D₁, hk, hn₁, hall⟩ := ihx hk
    cases out with
    | nrm =>
      obtain ⟨out, t', h', n', D', hk, hn, hall'⟩ := ihy hk
      refine ⟨out, t', h', n', D', hk, Nat.le_trans hn₁ hn, fun base Γ w b k cs a hgl hs S => ?_⟩
      obtain ⟨Γ₁, w₁, a₁, le, S₁, hst⟩ := hall base Γ w b (.code y :: k) cs a hgl hs S
      obtain ⟨Γ', w', a', le', S', hst'⟩ := hall' base Γ₁ w₁ b k cs a₁ hgl hs S₁
      exact ⟨Γ', w', a', Gam.ext_trans le hn₁ le', S', .of_steps (.head fat_seq hst) hst'⟩
    | ex i =>
      refine ⟨.ex i, t₁, h₁, n₁, D₁, hk, hn₁, fun base Γ w b k cs a hgl hs S => ?_⟩
      obtain ⟨Γ₁, w₁, a₁, le, S₁, hst⟩ := hall base Γ w b (.code y :: k) cs a hgl hs S
      exact ⟨Γ₁, w₁, a₁, le, S₁, .of_steps (.one fat_seq) (.pass (.inl rfl) (by simp) hst)⟩
    | rt =>
      refine ⟨.rt, t₁, h₁, n₁, D₁, hk, hn₁, fun base Γ w b k cs a hgl hs S => ?_⟩
      obtain ⟨Γ₁, w₁, a₁, le, S₁, hst⟩ := hall base Γ w b (.code y :: k) cs a hgl hs S
      exact ⟨Γ₁, w₁, a₁, le, S₁, .of_steps (.one fat_seq) (.pass (.inl rfl) (by simp) hst)⟩
  | cond c x y ihx ihy =>
    intro kn kx kr t h n D hk
    change (Option.rec (motive := fun _ => BX KT) (.mk fun _ _ _ _ => badSt q)
      (fun g => .mk fun CY kn kx kr t h n D => asBool (ecode q 995 0) (g t) fun b => Bool.rec (motive := fun _ => Nat) ((den C ib q N inR lf y).run CY kn kx kr t h n D) ((den C ib q N inR lf x).run CY kn kx kr t h n D) b) (opG c) : BX KT).run CY kn kx kr t h n D = 0 at hk
    cases hg : opG c with
    | none => rw [hg] at hk; exact absurd (show ecode q 997 997 = 0 from hk) (ecode_ne _ _ _)
    | some g =>
      rw [hg] at hk
      obtain ⟨bb, hv, hk⟩ := asBool_ok (ecode_ne _ _ _) hk
      have hv : g t = .bool bb := hv
      have hc : ∀ {Γ : Gam} {a : Act}, RelT Γ t a.tmps → a.eval c = .bool bb := fun ht => by
        have := opG_ok hg ht
        rw [hv] at this
        exact this.bool_inv
      cases bb with
      | true =>
        obtain ⟨out, t', h', n', D', hk, hn, hall⟩ := ihx hk
        refine ⟨out, t', h', n', D', hk, hn, fun base Γ w b k cs a hgl hs S => ?_⟩
        obtain ⟨Γ', w', a', le, S', hst⟩ := hall base Γ w b k cs a hgl hs S
        exact ⟨Γ', w', a', le, S', .of_steps (.one (fat_cond (hc S.tm))) hst⟩
      | false =>
        obtain ⟨out, t', h', n', D', hk, hn, hall⟩ := ihy hk
        refine ⟨out, t', h', n', D', hk, hn, fun base Γ w b k cs a hgl hs S => ?_⟩
        obtain ⟨Γ', w', a', le, S', hst⟩ := hall base Γ w b k cs a hgl hs S
        exact ⟨Γ', w', a', le, S', .of_steps (.one (fat_cond (hc S.tm))) hst⟩
  | block id c ih =>
    intro kn kx kr t h n D hk
    obtain ⟨out, t', h', n', D', hk, hn, hall⟩ := ih hk
    cases out with
    | nrm =>
      refine ⟨.nrm, t', h', n', D', hk, hn, fun base Γ w b k cs a hgl hs S => ?_⟩
      obtain ⟨Γ', w', a', le, S', hst⟩ := hall base Γ w b (.inBlock id :: k) cs a hgl hs S
      exact ⟨Γ', w', a', le, S', .head fat_block (Steps.trans hst (.one fat_inBlock))⟩
    | ex i =>
      change (Bool.rec (motive := fun _ => St) (kx i) kn (Nat.beq i id)) t' h' n' D' = 0 at hk
      cases hi : Nat.beq i id with
      | true =>
        rw [hi] at hk
        have hi : i = id := Nat.eq_of_beq_eq_true hi
        refine ⟨.nrm, t', h', n', D', hk, hn, fun base Γ w b k cs a hgl hs S => ?_⟩
        obtain ⟨Γ', w', a', le, S', hst⟩ := hall base Γ w b (.inBlock id :: k) cs a hgl hs S
        exact ⟨Γ', w', a', le, S', .head fat_block (hst k (by simp [exitTo, hi]))⟩
      | false =>
        rw [hi] at hk
        have hi : ¬ i = id := Nat.ne_of_beq_eq_false hi
        refine ⟨.ex i, t', h', n', D', hk, hn, fun base Γ w b k cs a hgl hs S => ?_⟩
        obtain ⟨Γ', w', a', le, S', hst⟩ := hall base Γ w b (.inBlock id :: k) cs a hgl hs S
        refine ⟨Γ', w', a', le, S', fun k' hk' => .head fat_block (hst k' ?_)⟩
        have : (id == i) = false := by simp; exact fun h => hi h.symm
        simp [exitTo, this, hk']
    | rt =>
      refine ⟨.rt, t', h', n', D', hk, hn, fun base Γ w b k cs a hgl hs S => ?_⟩
      obtain ⟨Γ', w', a', le, S', hst⟩ := hall base Γ w b (.inBlock id :: k) cs a hgl hs S
      exact ⟨Γ', w', a', le, S', .of_steps (b := b) (k := k) (cs := cs) (e := .rt) (.one fat_block) hst⟩
  | loop c ih =>
    intro kn kx kr t h n D hk
    obtain ⟨out, t', h', n', D', hne, hk, hn, hall⟩ := loop_go ih lf hk
    refine ⟨out, t', h', n', D', hk kn, hn, fun base Γ w b k cs a hgl hs S => ?_⟩
    obtain ⟨Γ', w', a', le, S', hst⟩ := hall base Γ w b k cs a hgl hs S
    exact ⟨Γ', w', a', le, S', .of_steps (.one fat_loop) hst⟩
  | rangeFunc f ps asg body _ _ => exact rangeFunc_ok H hcy
  | exit id =>
    intro kn kx kr t h n D hk
    exact ⟨.ex id, t, h, n, D, hk, Nat.le_refl _, fun base Γ w b k cs a hgl hs S => ⟨Γ, w, a, Gam.ext_refl _ _, S, fun k' hk' => .one (fat_exit hk')⟩⟩
  | scope c ih =>
    intro kn kx kr t h n D hk
    obtain ⟨out, t', h', n', D', hk, hn, hall⟩ := ih (kn := kn) (kx := kx) (kr := kr) hk
    refine ⟨out, t', h', n', D', hk, hn, fun base Γ w b k cs a hgl hs S => ?_⟩
    obtain ⟨Γ', w', a', le, S', hst⟩ := hall base Γ w b (.inScope c :: k) cs a hgl hs S
    refine ⟨Γ', w', a', le, S', .of_steps (.one fat_scope) ?_⟩
    cases out with
    | nrm => exact Steps.trans hst (.one fat_inScope)
    | ex i => exact .pass (.inr ⟨c, rfl⟩) (by simp) hst
    | rt => exact .pass (.inr ⟨c, rfl⟩) (by simp) hst
  | label l =>
    intro kn kx kr t h n D hk
    exact ⟨.nrm, t, h, n, D, hk, Nat.le_refl _, fun base Γ w b k cs a hgl hs S => ⟨Γ, w, a, Gam.ext_refl _ _, S, .one fat_label⟩⟩
  | goto l => intro kn kx kr t h n D hk; exact absurd (show ecode q 997 997 = 0 from hk) (ecode_ne _ _ _)
  | ret =>
    intro kn kx kr t h n D hk
    cases hR : inR with
    | true => rw [hR] at hk; exact absurd (show ecode q 997 997 = 0 from hk) (ecode_ne _ _ _)
    | false =>
      rw [hR] at hk
      exact ⟨.rt, t, h, n, D, hk, Nat.le_refl _, fun base Γ w b k cs a hgl hs S => ⟨Γ, w, a, Gam.ext_refl _ _, S, hs.rnd rfl, _, .one (fat_ret (hs.rnd rfl))⟩⟩
  | refuse s => intro kn kx kr t h n D hk; exact absurd (show ecode q 997 997 = 0 from hk) (ecode_ne _ _ _)
end
end Go.Ae
