/- The abstract evaluator: soundness of code. -/
import Derived.Test.YtjmammdlefbemaaGreatDoorAeS
import Derived.RangeFuncRecord
import Derived.RangeFuncIn
set_option linter.unusedVariables false
set_option linter.unusedSectionVars false
namespace Go.Ae

theorem fat_eq (b : Frame) (a : Act) (todo : List Item) : fat b a todo = b.atR a todo := rfl

theorem Rel.setBlk {base w : World} {Γ : Gam} {h : HH} {n : Nat} (R : Rel base Γ h n w) {b : Nat} {g : G} (hg : Γ b = some g) (hl : hget h b ≠ .dead) {B : ABlk} {o' : Obj} (ho : OR Γ g B o') :
    Rel base Γ (hset h b B) n (w.putObj g.c o') := by
  obtain ⟨ob, hob, hor⟩ := R.blk b g hg
  have hheap : ∀ q, (w.putObj g.c o').heap[q]? = if g.c = q then some o' else w.heap[q]? := by
    intro q
    show (w.heap.setIfInBounds g.c o')[q]? = _
    by_cases hq : g.c = q
    · subst hq
      obtain ⟨hlt, _⟩ := Array.getElem?_eq_some_iff.1 hob
      simp [hlt]
    · rw [if_neg hq, Array.getElem?_setIfInBounds_ne hq]
  have hlive : ∀ q, live (hset h b B) q → live h q := by
    intro q hq
    unfold live at *
    rw [hget_hset] at hq
    by_cases hbq : b = q
    · subst hbq; exact hl
    · rwa [if_neg hbq] at hq
  refine ⟨R.os, R.tape, R.output, by simpa [World.putObj] using R.size, ?_, by simpa [World.putObj] using R.rng, R.fresh, ?_, fun p q gp gq hp hq => R.inj p q gp gq (hlive p hp) (hlive q hq)⟩
  · intro q hq
    rw [hheap, if_neg (by have := (R.rng b g hg).1; omega)]
    exact R.old q hq
  · intro p gp hp
    obtain ⟨o'', hp1, hp2⟩ := R.blk p gp hp
    rw [hheap, hget_hset]
    by_cases hbp : b = p
    · subst hbp
      rw [hg] at hp; cases hp
      rw [if_pos rfl, if_pos rfl]
      exact ⟨_, rfl, ho⟩
    · rw [if_neg hbp]
      by_cases hcc : g.c = gp.c
      · by_cases hlp : live h p
        · exact absurd (R.inj b p g gp hl hlp hg hp hcc) hbp
        · have hld : hget h p = .dead := Classical.not_not.mp hlp
          rw [if_pos hcc]
          exact ⟨_, rfl, by rw [hld]; exact .dead _⟩
      · rw [if_neg hcc]
        exact ⟨o'', hp1, hp2⟩

theorem blkLoop_ok {e : Nat} (he : e ≠ 0) {b : ABlk} {k : Bool → TT → Nat → Nat → List Nat → Code → Code → Nat} (h : blkLoop e b k = 0) : ∃ busy t fn nt ps asg body, b = .loop busy t fn nt ps asg body ∧ k busy t fn nt ps asg body = 0 := by
  cases b <;> first | exact ⟨_, _, _, _, _, _, _, rfl, h⟩ | exact absurd h he
theorem blkDfl_ok {e : Nat} (he : e ≠ 0) {b : ABlk} {k : Nat} (h : blkDfl e b k = 0) : b = .dfl ∧ k = 0 := by
  cases b <;> first | exact ⟨rfl, h⟩ | exact absurd h he

theorem Rel.loopObj {base w : World} {Γ : Gam} {h : HH} {n : Nat} (R : Rel base Γ h n w) {b : Nat} {g : G} (hg : Γ b = some g) {busy : Bool} {t : TT} {fn nt : Nat} {ps : List Nat} {asg body : Code} (hb : hget h b = .loop busy t fn nt ps asg body) :
    ∃ r, w.heap[g.c]? = some (.loop r) ∧ r.state = (if busy then .busy else .ready) ∧ r.fn = fn ∧ r.params = ps.toArray ∧ r.assign = asg ∧ r.body = body ∧ r.pending = none ∧ nt ≤ r.tmps.size ∧ ∀ i, VR Γ (tget t i) (r.tmps.getD i undef) := by
  obtain ⟨o, h1, h2⟩ := R.blk b g hg
  rw [hb] at h2
  cases h2 with
  | loop _ _ _ _ _ _ _ r hs hfn hps ha hbd hp ht hnt => exact ⟨r, h1, hs, hfn, hps, ha, hbd, hp, hnt, ht⟩

/-- A region that is drawn: sound. -/
def DrawSnd (P : Program) (C : Ctx) (ib : Nat → Bool) (q N : Nat) (inR : Bool) (CY : Bool → CallT) (id : Nat) (ops : Array Oper) : Prop :=
  ∀ {kn : St} {t : TT} {h : HH} {n : Nat} {D : DL}, (drawD C ib q N inR id ops.toList).run CY kn t h n D = 0 →
    ∃ t' h' n' D', kn t' h' n' D' = 0 ∧ n ≤ n' ∧ ∀ base Γ w b k cs (a : Act), GlOK C base → Side q inR b cs → SR P base Γ t h n D N a w →
      ∃ Γ' w' a', Gam.ext n Γ Γ' ∧ SR P base Γ' t' h' n' D' N a' w' ∧ Steps P (lone (fat b a (.code (.region id ops true) :: k)) cs w) (lone (fat b a' k) cs w')

def CodeSnd (P : Program) (C : Ctx) (ib : Nat → Bool) (q N : Nat) (inR : Bool) (lf : Nat) (CY : Bool → CallT) (c : Code) : Prop :=
  ∀ {kn : St} {kx : Nat → St} {kr : St} {t : TT} {h : HH} {n : Nat} {D : DL}, (den C ib q N inR lf c).run CY kn kx kr t h n D = 0 →
    ∃ out t' h' n' D', cont kn kx kr out t' h' n' D' = 0 ∧ n ≤ n' ∧ ∀ base Γ w b k cs (a : Act), GlOK C base → Side q inR b cs → SR P base Γ t h n D N a w →
      ∃ Γ' w' a', Gam.ext n Γ Γ' ∧ SR P base Γ' t' h' n' D' N a' w' ∧ Arr P (lone (fat b a (.code c :: k)) cs w) b k cs out a' w'

section
variable {P : Program} {C : Ctx} (H : CtxOK P C) {ib : Nat → Bool} (hib : ∀ f, ib f = true → IdxOK P f) {q N lf : Nat} {inR : Bool} {CY : Bool → CallT} (hcy : CYOK P C CY)

include H hcy in
theorem rangeFunc_ok {f : Operand} {ps : Array Nat} {asg body : Code} : CodeSnd P C ib q N inR lf CY (.rangeFunc f ps asg body) := by
  intro kn kx kr t h n D hk
  change (Bool.rec (motive := fun _ => BX KT)
      (Option.rec (motive := fun _ => BX KT) (.mk fun _ _ _ _ => badSt q)
        (fun g => .mk fun CY kn _ _ t h n D => asFn (ecode q 993 0) (g t) fun fn caps => guardN (ecode q 993 1) (C.has fn) (
          CY false fn (.yld (Nat.succ n) :: capsL caps) (hset (hset h n .dfl) (Nat.succ n) (.loop false t q N ps.toList asg body)) (Nat.succ (Nat.succ n)) fun _ h' n' =>
            blkLoop (ecode q 993 2) (hget h' (Nat.succ n)) fun busy _ _ _ _ _ _ => guardN (ecode q 993 3) (!busy) (kn t (hset h' (Nat.succ n) .dead) n' (.coll n :: D)))) (opG f))
      (.mk fun _ _ _ _ => badSt q) inR : BX KT).run CY kn kx kr t h n D = 0 at hk
  cases hR : inR with
  | true => rw [hR] at hk; exact absurd (show ecode q 997 997 = 0 from hk) (ecode_ne _ _ _)
  | false =>
    rw [hR] at hk
    cases hg : opG f with
    | none => rw [hg] at hk; exact absurd (show ecode q 997 997 = 0 from hk) (ecode_ne _ _ _)
    | some g =>
      rw [hg] at hk
      obtain ⟨fn, caps, hv, hk⟩ := asFn_ok (ecode_ne _ _ _) hk
      obtain ⟨hh, hk⟩ := guardN_ok (ecode_ne _ _ _) hk
      obtain ⟨v, h', n', hk, hn, hcall⟩ := hcy.1 _ _ _ _ _ hk
      obtain ⟨busy, t3, fn3, nt3, ps3, asg3, body3, hb, hk⟩ := blkLoop_ok (ecode_ne _ _ _) hk
      obtain ⟨hbusy, hk⟩ := guardN_ok (ecode_ne _ _ _) hk
      have hbusy : busy = false := by simpa using hbusy
      refine ⟨.nrm, t, _, n', _, hk, by omega, fun base Γ w b k cs a hgl hs S => ?_⟩
      have hro := hs.rnd rfl
      have hn0 := S.rel.fresh n (Nat.le_refl _)
      -- the two new blocks
      have R1 := S.rel.alloc (g := ⟨w.heap.size, 0, 0⟩) (o := .deferred (some [])) rfl (.dfl) w.drawn
      have le1 : Γ.le (Γ.put n ⟨w.heap.size, 0, 0⟩) := Gam.le_put hn0
      have hn1 : (Γ.put n ⟨w.heap.size, 0, 0⟩) (n + 1) = none := R1.fresh (n + 1) (Nat.le_refl _)
      let r : Loop := { state := .ready, pending := none, fn := b.fn, tmps := a.tmps, params := ps, assign := asg, body := body, defers := w.heap.size }
      have R2 := R1.alloc (g := ⟨w.heap.size + 1, 0, 0⟩) (o := .loop r) (B := .loop false t q N ps.toList asg body) (by simp)
        (.loop false t q N ps.toList asg body r rfl hs.fn (by simp [r]) rfl rfl rfl (fun i => ((S.tm i).mono le1).mono (Gam.le_put hn1)) S.sz) w.drawn
      have le2 : (Γ.put n ⟨w.heap.size, 0, 0⟩).le ((Γ.put n ⟨w.heap.size, 0, 0⟩).put (n + 1) ⟨w.heap.size + 1, 0, 0⟩) := Gam.le_put hn1
      have hv' := opG_ok hg S.tm
      have hv : g t = .fn fn caps := hv
      rw [hv] at hv'
      obtain ⟨cp, hX, hcs, hcaps⟩ := hv'.fn_inv
      have hargs : VRs ((Γ.put n ⟨w.heap.size, 0, 0⟩).put (n + 1) ⟨w.heap.size + 1, 0, 0⟩) (.yld (n + 1) :: capsL caps) (#[Value.func (.yield (w.heap.size + 1)) #[] #[]] ++ cp).toList := by
        simp only [Array.toList_append, List.cons_append, List.nil_append]
        refine .cons (.yld _ _ (Gam.put_self _ _ _)) ?_
        exact ((caps_ok (by rw [Array.length_toList]; exact hcs) (by simpa using hcaps)).mono le1).mono le2
      obtain ⟨Γ', w', fr, V, le, R', hvV, hst, hkd, hgo⟩ := hcall base _ _ (#[Value.func (.yield (w.heap.size + 1)) #[] #[]] ++ cp)
        (b.atR { a with defers := [{ target := .collected w.heap.size, args := #[] }] ++ a.defers } (.inRangeFunc (w.heap.size + 1) :: k) :: cs) .normal hgl R2 hargs (.inl rfl)
      have hgl' : Γ' (n + 1) = some ⟨w.heap.size + 1, 0, 0⟩ := le.1 _ _ (Gam.put_self _ _ _)
      have hgd' : Γ' n = some ⟨w.heap.size, 0, 0⟩ := le.1 _ _ (le2 _ _ (Gam.put_self _ _ _))
      obtain ⟨r', hob, hstate, _, _, _, _, hpend, _, _⟩ := R'.loopObj hgl' hb
      have hst' : r'.state ≠ .busy := by rw [hstate, hbusy]; simp
      have hend := run_endLoop (P := P) hob hst'
      rw [hpend] at hend
      have hext : Gam.ext n Γ Γ' := Gam.ext_trans (Gam.ext_trans (Gam.ext_put hn0 (Nat.le_refl _)) (Nat.le_refl n) (Gam.ext_put hn1 (Nat.le_succ n))) (by omega) le
      refine ⟨Γ', w'.putObj (w.heap.size + 1) (.loop { r' with state := .exhausted, pending := none }), { a with defers := [{ target := .collected w.heap.size, args := #[] }] ++ a.defers }, hext,
        ⟨R'.setBlk hgl' (by rw [hb]; simp) (.dead _), S.tm.mono hext.1, S.sz, .coll hgd' (S.df.mono hext.1)⟩, ?_⟩
      show Steps P _ _
      have hce : ∀ v, a.eval (.const v) = v := fun _ => rfl
      have henter := stepR_rangeFunc (P := P) (b := b) (a := a) (k := k) (cs := cs) (w := w) (g := f) (ps := ps) (assign := asg) (body := body) (l := w.heap.size + 1) (mark := [{ target := .collected w.heap.size, args := #[] }])
        (w₁ := { w with heap := (w.heap.push (.deferred (some []))).push (.loop r) }) (w₁' := { w with heap := (w.heap.push (.deferred (some []))).push (.loop r) }) (w₂ := { w with heap := (w.heap.push (.deferred (some []))).push (.loop r) })
        (d := { target := .fn (.func fn) cp, args := #[] ++ #[Value.func (.yield (w.heap.size + 1)) #[] #[]] }) (f := fn) (args := (#[] ++ #[Value.func (.yield (w.heap.size + 1)) #[] #[]]) ++ cp)
        (by rw [hro]; simp [Instr.enterLoop, r]; rfl) (by simp [resolve, rangeCall, Deferred.ofValue, hX, hce]) (by simp only [invoke]; exact run_callFunc_has H hh _ _)
      refine .head henter (Steps.trans (m₁ := lone fr (b.atR { a with defers := [{ target := .collected w.heap.size, args := #[] }] ++ a.defers } (.inRangeFunc (w.heap.size + 1) :: k) :: cs) w') ?_ (.head (m₁ := lone (fat b { a with defers := [{ target := .collected w.heap.size, args := #[] }] ++ a.defers } (.endRangeFunc (w.heap.size + 1) :: k)) cs w') ?_ (.one ?_)))
      · simpa using hst
      · rw [step_leave_returned ⟨hgo.1, hgo.2.1, hkd.1, hgo.2.2⟩, finish_atR_inRangeFunc]
        rfl
      · have := stepR_endRangeFunc (P := P) (b := b) (a := { a with defers := [{ target := .collected w.heap.size, args := #[] }] ++ a.defers }) (k := k) (cs := cs) hend
        exact this
end
end Go.Ae
