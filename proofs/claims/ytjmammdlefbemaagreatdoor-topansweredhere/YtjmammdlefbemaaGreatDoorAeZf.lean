/- The abstract evaluator: calls and rounds, to any depth. -/
import Derived.Test.YtjmammdlefbemaaGreatDoorAeZe
set_option linter.unusedVariables false
set_option linter.unusedSectionVars false
namespace Go.Ae

def CallAt (P : Program) (C : Ctx) (c : CallT) (f : Nat) : Prop :=
  ∀ args h n k, c f args h n k = 0 → ∃ v h' n', k v h' n' = 0 ∧ n ≤ n' ∧ ∀ base Γ w (As : Array Value) cs kd, GlOK C base → Rel base Γ h n w → VRs Γ args As.toList →
    (kd = .normal ∨ kd = .deferred ∧ recoverD cs = none) →
    ∃ Γ' w' fr V, Gam.ext n Γ Γ' ∧ Rel base Γ' h' n' w' ∧ VR Γ' v V ∧ Steps P (lone (Frame.enter P f As kd) cs w) (lone fr cs w') ∧ (fr.kind = kd ∧ fr.fn = f) ∧ fr.going P w' (.returned V)

section
variable {P : Program} {C : Ctx} (H : CtxOK P C) {ib : Nat → Bool} (hib : ∀ f, ib f = true → IdxOK P f) {ov : Nat → Option CallT} (hov : ∀ f c, ov f = some c → CallAt P C c f) {CY : Bool → CallT} (hcy : CYOK P C CY)

include H hib hov hcy in
theorem callF_ok : CallOK P C (callF C ib ov CY) := by
  intro f args h n k hk
  unfold callF at hk
  cases ho : ov f with
  | some c =>
    rw [ho] at hk
    exact hov f c ho args h n k hk
  | none =>
    rw [ho] at hk
    cases hf : C.fn f with
    | none => rw [hf] at hk; exact absurd (show ecode f 988 0 = 0 from hk) (ecode_ne _ _ _)
    | some x =>
      rw [hf] at hk
      exact fnD_ok H hib hcy (fun N inR id ops => draw_ok H hib hcy) (H.fn f x hf).1 hk

theorem setL_ok {Γ : Gam} : ∀ {ps : List Nat} {args : List AV} {As : List Value} {t : TT} {tmps : Array Value}, VRs Γ args As → RelT Γ t tmps → (∀ p ∈ ps, p < tmps.size) →
    RelT Γ (setL ps args t) ((ps.zip As).foldl (fun tmps (x : Nat × Value) => tmps.setIfInBounds x.1 x.2) tmps)
  | [], args, As, t, tmps, hv, ht, _ => ht
  | p :: ps, [], As, t, tmps, hv, ht, _ => by cases hv; exact ht
  | p :: ps, a :: args, As, t, tmps, hv, ht, hp => by
    cases hv with
    | cons h1 h2 =>
      rename_i V Vs
      show RelT Γ (setL ps args (tset t p a)) _
      simp only [List.zip_cons_cons, List.foldl_cons]
      refine setL_ok h2 (fun i => ?_) (fun p' hp' => by simpa using hp p' (by simp [hp']))
      have hps := hp p (by simp)
      rw [tget_tset]
      by_cases hi : p = i
      · subst hi; simp [hps]; exact h1
      · rw [if_neg hi]
        simp [Array.getElem?_setIfInBounds_ne hi]
        simpa using ht i

theorem foldl_size (l : List (Nat × Value)) : ∀ (tmps : Array Value), (l.foldl (fun tmps (x : Nat × Value) => tmps.setIfInBounds x.1 x.2) tmps).size = tmps.size := by
  induction l with
  | nil => intro tmps; rfl
  | cons x l ih => intro tmps; simp only [List.foldl_cons]; rw [ih]; simp

include H hib hcy in
theorem callY_ok : YldOK P C (callY C ib CY) := by
  intro b args h n k hk
  unfold callY at hk
  obtain ⟨busy, t, q, nt, ps, asg, body, hb, hk⟩ := blkLoop_ok (ecode_ne _ _ _) hk
  obtain ⟨hbusy, hk⟩ := guardN_ok (ecode_ne _ _ _) hk
  obtain ⟨hlen, hk⟩ := guardN_ok (ecode_ne _ _ _) hk
  obtain ⟨hps, hk⟩ := guardN_ok (ecode_ne _ _ _) hk
  have hbusy : busy = false := by simpa using hbusy
  have hlen : args.length = ps.length := Nat.eq_of_beq_eq_true hlen
  have hps : ∀ p ∈ ps, p < nt := fun p hp => blt_lt (List.all_eq_true.1 hps p hp)
  rw [hbusy] at hb
  obtain ⟨out, t₁, h₁, n₁, D₁, hk, hn₁, hasg⟩ := den_ok H hib hcy (q := q) (N := nt) (lf := loopFuel) (inR := true) (fun id ops => draw_ok H hib hcy) asg hk
  cases out with
  | ex i => exact absurd (show ecode q 996 i = 0 from hk) (ecode_ne _ _ _)
  | rt => exact absurd (show ecode q 997 997 = 0 from hk) (ecode_ne _ _ _)
  | nrm =>
    obtain ⟨busy1, tt1, q1, nt1, ps1, asg1, body1, hb1, hk⟩ := blkLoop_ok (ecode_ne q 987 4) hk
    obtain ⟨hbusy1, hk⟩ := guardN_ok (ecode_ne _ _ _) hk
    have hbusy1 : busy1 = false := by simpa using hbusy1
    rw [hbusy1] at hb1
    obtain ⟨out, t₂, h₂, n₂, D₂, hk, hn₂, hbody⟩ := den_ok H hib hcy (q := q) (N := nt) (lf := loopFuel) (inR := true) (fun id ops => draw_ok H hib hcy) body hk
    cases out with
    | ex i => exact absurd (show ecode q 996 i = 0 from hk) (ecode_ne _ _ _)
    | rt => exact absurd (show ecode q 997 997 = 0 from hk) (ecode_ne _ _ _)
    | nrm =>
      obtain ⟨busy2, tt2, q2, nt2, ps2, asg2, body2, hb2, hk⟩ := blkLoop_ok (ecode_ne q 987 6) hk
      refine ⟨.bool true, _, n₂, hk, Nat.le_trans hn₁ hn₂, fun base Γ w As g hgl R hg hv => ?_⟩
      obtain ⟨r, hob, hstate, hfn, hrps, hra, hrb, _, hnt, hrt⟩ := R.loopObj hg hb
      have hsz : As.size = r.params.size := by
        have := hv.length
        rw [hrps]
        simp at this ⊢
        omega
      have hzip : (r.params.zip As).foldl (fun tmps (x : Nat × Value) => tmps.setIfInBounds x.1 x.2) r.tmps = (ps.zip As.toList).foldl (fun tmps (x : Nat × Value) => tmps.setIfInBounds x.1 x.2) r.tmps := by
        rw [← Array.foldl_toList, hrps]
        simp
      refine ⟨r.fn, (r.params.zip As).foldl (fun tmps (t, a) => tmps.setIfInBounds t a) r.tmps, r.assign, r.body, run_yield hob hsz, fun c cs => ?_⟩
      let b0 : Frame := { (default : Frame) with fn := q, kind := .normal, roundOf := some g.c }
      have hfr : Frame.round g.c r.fn ((r.params.zip As).foldl (fun tmps (t, a) => tmps.setIfInBounds t a) r.tmps) r.assign r.body .normal =
          fat b0 { tmps := (ps.zip As.toList).foldl (fun tmps (x : Nat × Value) => tmps.setIfInBounds x.1 x.2) r.tmps, defers := [] } [.code asg, .beginRound, .code body] := by
        rw [← hzip]
        simp [Frame.round, fat, b0, hfn, hra, hrb]
      rw [hfr]
      have hside : Side q true b0 (c :: cs) := ⟨rfl, fun h => (by cases h), .inl rfl⟩
      obtain ⟨Γ₁, w₁, a₁, le₁, S₁, hst₁⟩ := hasg base Γ w b0 [.beginRound, .code body] (c :: cs) { tmps := (ps.zip As.toList).foldl (fun tmps (x : Nat × Value) => tmps.setIfInBounds x.1 x.2) r.tmps, defers := [] } hgl hside
        ⟨R, setL_ok hv (fun i => hrt i) (fun p hp => Nat.lt_of_lt_of_le (hps p hp) hnt), (by show nt ≤ ((ps.zip As.toList).foldl (fun tmps (x : Nat × Value) => tmps.setIfInBounds x.1 x.2) r.tmps).size; rw [foldl_size]; exact hnt), .nil⟩
      have hg₁ := le₁.1 b g hg
      obtain ⟨r1, hob1, hstate1, hfn1, hps1, hra1, hrb1, hpd1, hnt1, hrt1⟩ := S₁.rel.loopObj hg₁ hb1
      have R₁' := S₁.rel.setBlk hg₁ (by rw [hb1]; simp) (B := .loop true tt1 q1 nt1 ps1 asg1 body1) (o' := .loop { r1 with state := .busy })
        (.loop true tt1 q1 nt1 ps1 asg1 body1 { r1 with state := .busy } rfl hfn1 hps1 hra1 hrb1 hpd1 hrt1 hnt1)
      obtain ⟨Γ₂, w₂, a₂, le₂, S₂, hst₂⟩ := hbody base Γ₁ _ b0 [] (c :: cs) a₁ hgl hside ⟨R₁', S₁.tm, S₁.sz, S₁.df⟩
      have hg₂ := le₂.1 b g hg₁
      obtain ⟨r2, hob2, hstate2, hfn2, hps2, hra2, hrb2, hpd2, hnt2, hrt2⟩ := S₂.rel.loopObj hg₂ hb2
      have R₂' := S₂.rel.setBlk hg₂ (by rw [hb2]; simp) (B := .loop false tt2 q2 nt2 ps2 asg2 body2) (o' := .loop { r2 with state := .ready, pending := none })
        (.loop false tt2 q2 nt2 ps2 asg2 body2 { r2 with state := .ready, pending := none } rfl hfn2 hps2 hra2 hrb2 rfl hrt2 hnt2)
      refine ⟨Γ₂, _, .bool true, Gam.ext_trans le₁ hn₁ le₂, R₂', .bool true, ?_⟩
      have hbr := run_beginRound (P := P) hob1 (by rw [hstate1]; rfl)
      have her := run_endRound (P := P) none hob2
      refine Steps.trans hst₁ (.head (stepR_beginRound (b := b0) rfl hbr) (Steps.trans hst₂ (.one ?_)))
      exact stepR_round_end (b := b0) rfl rfl her

include H hib hov in
theorem cy_ok : ∀ d, CYOK P C (cy C ib ov d)
  | 0 => ⟨fun f args h n k hk => absurd (show ecode f 986 0 = 0 from hk) (ecode_ne _ _ _), fun f args h n k hk => absurd (show ecode f 986 0 = 0 from hk) (ecode_ne _ _ _)⟩
  | d + 1 => ⟨callF_ok H hib hov (cy_ok d), callY_ok H hib (cy_ok d)⟩
end
end Go.Ae
