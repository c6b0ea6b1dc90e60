/- The abstract evaluator: drawn regions, second part: one operation, wherever the schedule comes to it. -/
import Derived.Test.YtjmammdlefbemaaGreatDoorAeW
set_option linter.unusedVariables false
set_option linter.unusedSectionVars false
namespace Go.Ae

noncomputable def pendOf (κ : K) (v : AV) : Option Nat := if isAlc κ = true then blkNo v else none
theorem pendOf_alc (f : TT → HH → (ABlk → (Nat → AV) → Nat) → Nat) (v : AV) : pendOf (.alc f) v = blkNo v := if_pos rfl
theorem pendOf_val (f : TT → HH → (AV → Nat) → Nat) (v : AV) : pendOf (.val f) v = none := if_neg (by simp [isAlc])

/-- What one operation that writes nothing does at the heap h, wherever the schedule comes to it. -/
def NWStep (P : Program) (C : Ctx) (q : Nat) (inR : Bool) (arr : Array Oper) (i : Nat) (o : Oper) (v : AV) (pend : Option Nat) (h : HH) (n : Nat) (sv : Nat → AV) : Prop :=
  ∀ base Γ w b k cs (a : Act) rest, GlOK C base → Side q inR b cs → Rel base Γ h n w → (∀ x ∈ o.looksAt arr, VR Γ (sv x) (a.tmps.getD x undef)) → (∀ bb, pend = some bb → Γ bb = none) →
    ∃ Γ' w' V, (Γ' = Γ ∨ ∃ bb g, pend = some bb ∧ Γ' = Γ.put bb g) ∧ Rel base Γ' h n w' ∧ VR Γ' v V ∧
      step P (lone (fat b a (.inRegion arr (i :: rest) :: k)) cs w) = .next (lone (fat b (a.put o.dst V) (.inRegion arr rest :: k)) cs w')

section
variable {P : Program} {C : Ctx} {q : Nat} {inR : Bool} {arr : Array Oper} {i : Nat} {o : Oper} (ho : arr[i]? = some o) {κ : K} (hK : KOK P C o κ) (hsel : ∀ cs b, o.op ≠ .select cs b) {gd : Option (Nat × Bool)} (hgd : gdOf inR arr.toList o = some gd)

include ho hsel hgd in
/-- the step, once it is known what the operation answers -/
theorem nw_step {b : Frame} {a : Act} {k : List Item} {cs : List Frame} {w w' : World} {rest : List Nat} {V : Value} (hs : Side q inR b cs) (hw : Region.wanted o (yielded arr a.tmps) = true)
    (hr : (execOp (({ a with tmps := seen (o.looksAt arr) a.tmps } : Act).eval) o).run P w = .ok (.value V) w') :
    step P (lone (fat b a (.inRegion arr (i :: rest) :: k)) cs w) = .next (lone (fat b (a.put o.dst V) (.inRegion arr rest :: k)) cs w') := by
  rw [← exec_seen (arr := arr) hsel] at hr
  have hd : b.roundOf = none ∨ ∀ c, o.op ≠ .defer c := by
    cases inR with
    | true => exact .inr (gdOf_def hgd rfl)
    | false => exact .inl (hs.rnd rfl)
  have e1 := fat_op (P := P) (b := b) (a := a) (k := k) (cs := cs) (w := w) (rest := rest) ho hw hd
  have e2 : (fat b a (.inRegion arr (i :: rest) :: k)).finish V = fat b (a.put o.dst V) (.inRegion arr rest :: k) := by rw [fat_finish, ho]; rfl
  refine step_lone_go ?_
  rw [e1, ← e2]
  simp [stepG.apply, hr]

include ho hsel hgd in
/-- an operation that is not wanted -/
theorem nw_skip {sv : Nat → AV} {h : HH} {n : Nat} {d : Nat} {want : Bool} (hg : gd = some (d, want)) (hv : sv d = .undef ∨ ∃ bb, sv d = .bool bb ∧ bb ≠ want) :
    NWStep P C q inR arr i o .undef (pendOf κ .undef) h n sv := by
  intro base Γ w b k cs a rest hgl hs R hu hp
  subst hg
  refine ⟨Γ, w, undef, .inl rfl, R, .undef, ?_⟩
  have h1 := hu d (gd_seen hgd)
  have hw : Region.wanted o (yielded arr a.tmps) = false := by
    rcases hv with hv | ⟨bb, hv, hb⟩
    · rw [hv] at h1
      exact (gdOf_some hgd _).2 h1.undef_inv
    · rw [hv] at h1
      rw [(gdOf_some hgd _).1 _ h1.bool_inv]
      cases bb <;> cases want <;> simp_all
  rw [fat_op_skip (by simp [ho, hw]), ho]
  rfl

/-- is the operation wanted, by what it sees? -/
def gdYes (gd : Option (Nat × Bool)) (sv : Nat → AV) : Prop := ∀ d want, gd = some (d, want) → sv d = .bool want
theorem gdYes_wanted (hgd : gdOf inR arr.toList o = some gd) {sv : Nat → AV} (hy : gdYes gd sv) {Γ : Gam} {a : Act} (hu : ∀ x ∈ o.looksAt arr, VR Γ (sv x) (a.tmps.getD x undef)) : Region.wanted o (yielded arr a.tmps) = true := by
  cases gd with
  | none => exact gdOf_none hgd _
  | some g =>
    obtain ⟨d, want⟩ := g
    have h1 := hu d (gd_seen hgd)
    rw [hy d want rfl] at h1
    rw [(gdOf_some hgd _).1 _ h1.bool_inv]
    simp

include ho hsel hgd in
theorem nw_val {f : TT → HH → (AV → Nat) → Nat} (hK : ValOK P C o f) {t : TT} {h : HH} {k : AV → Nat} (hk : f (restr (o.looksAt arr) t) h k = 0) (hy : gdYes gd (tget t)) :
    ∃ v, k v = 0 ∧ ∀ Hk nk, hle h Hk → NWStep P C q inR arr i o v (pendOf (.val f) v) Hk nk (tget t) := by
  obtain ⟨v, hk, hall⟩ := hK _ _ _ hk
  refine ⟨v, hk, fun Hk nk hl => ?_⟩
  intro base Γ w b k cs a rest hgl hs R hu hp
  obtain ⟨V, hr, hv⟩ := hall base Γ nk w { a with tmps := seen (o.looksAt arr) a.tmps } hgl (R.weaken hl) (relT_seen hu)
  exact ⟨Γ, w, V, .inl rfl, R, hv, nw_step ho hsel hgd hs (gdYes_wanted hgd hy hu) hr⟩

include ho hsel hgd in
theorem nw_alc {f : TT → HH → (ABlk → (Nat → AV) → Nat) → Nat} (hK : AlcOK P C o f) {t : TT} {h : HH} {k : ABlk → (Nat → AV) → Nat} (hk : f (restr (o.looksAt arr) t) h k = 0) (hy : gdYes gd (tget t)) :
    ∃ B mk, k B mk = 0 ∧ ∀ id, blkNo (mk id) = some id → B ≠ .dead → ∀ Hk nk, hle h Hk → hget Hk id = B → id < nk → NWStep P C q inR arr i o (mk id) (pendOf (.alc f) (mk id)) Hk nk (tget t) := by
  obtain ⟨B, mk, hk, hall⟩ := hK _ _ _ hk
  refine ⟨B, mk, hk, fun id hid hB Hk nk hl hHk hlt => ?_⟩
  intro base Γ w b k cs a rest hgl hs R hu hp
  obtain ⟨V, obj, cap, dr, hr, hv⟩ := hall base Γ nk w { a with tmps := seen (o.looksAt arr) a.tmps } hgl (R.weaken hl) (relT_seen hu)
  have hpend : pendOf (.alc f) (mk id) = some id := by
    rw [pendOf_alc, hid]
  have hnone := hp id hpend
  obtain ⟨h1, h2⟩ := hv id hnone
  refine ⟨Γ.put id ⟨w.heap.size, 0, cap⟩, _, V, .inr ⟨id, _, hpend, rfl⟩, R.allocAt hnone hlt rfl (by rw [hHk]; exact h2) dr, h1, nw_step ho hsel hgd hs (gdYes_wanted hgd hy hu) hr⟩

variable {e : Nat} (he : e ≠ 0) {d : Nat} (hd : o.dst = some d) {CY : Bool → CallT} {kn : St} {nx : BX OT} {t : TT} {h : HH} {n : Nat} {D : DL}

include ho hK hsel hgd he hd in
theorem opNw_ok (hk : (opNw e (restr (o.looksAt arr)) d gd nx κ).run CY kn t h n D = 0) :
    ∃ v h' n', nx.run CY kn (tset t d v) h' n' D = 0 ∧ n ≤ n' ∧ hle h h' ∧ (∀ b, b < n → hget h' b = hget h b) ∧ (∀ bb, pendOf κ v = some bb → bb = n ∧ n' = n + 1) ∧
      ∀ Hk nk, hle h' Hk → n' ≤ nk → NWStep P C q inR arr i o v (pendOf κ v) Hk nk (tget t) := by
  have main : gdYes gd (tget t) → K.rec (motive := fun _ => Nat) e
      (fun f => f (restr (o.looksAt arr) t) h fun v => nx.run CY kn (tset t d v) h n D)
      (fun f => f (restr (o.looksAt arr) t) h fun B mk => blkLive e B (blkDead e (hget h n) (asBlk e (mk n) fun b => guardN e (Nat.beq b n) (nx.run CY kn (tset t d (mk n)) (hset h n B) (Nat.succ n) D))))
      (fun _ => e) (fun _ => e) (fun _ => e) (fun _ => e) e κ = 0 →
    ∃ v h' n', nx.run CY kn (tset t d v) h' n' D = 0 ∧ n ≤ n' ∧ hle h h' ∧ (∀ b, b < n → hget h' b = hget h b) ∧ (∀ bb, pendOf κ v = some bb → bb = n ∧ n' = n + 1) ∧
      ∀ Hk nk, hle h' Hk → n' ≤ nk → NWStep P C q inR arr i o v (pendOf κ v) Hk nk (tget t) := by
    intro hy hk
    cases κ with
    | val f =>
      obtain ⟨v, hk, hall⟩ := nw_val (q := q) ho hsel hgd hK hk hy
      refine ⟨v, h, n, hk, Nat.le_refl _, hle_refl _, fun _ _ => rfl, fun bb hb => ?_, fun Hk nk hl _ => hall Hk nk hl⟩
      rw [pendOf_val] at hb
      cases hb
    | alc f =>
      obtain ⟨B, mk, hk, hall⟩ := nw_alc (q := q) ho hsel hgd hK hk hy
      obtain ⟨hB, hk⟩ := blkLive_ok he hk
      obtain ⟨hdead, hk⟩ := blkDead_ok he hk
      obtain ⟨bb, hbb, hk⟩ := asBlk_ok he hk
      obtain ⟨hbn, hk⟩ := guardN_ok he hk
      have hbn : bb = n := Nat.eq_of_beq_eq_true hbn
      rw [hbn] at hbb
      refine ⟨mk n, hset h n B, n + 1, hk, Nat.le_succ _, fun x => ?_, fun x hx => ?_, fun b2 hb2 => ?_, fun Hk nk hl hnk => ?_⟩
      · rw [hget_hset]
        by_cases hx : n = x
        · subst hx; exact .inl hdead
        · rw [if_neg hx]; exact .inr rfl
      · rw [hget_hset, if_neg (by omega)]
      · rw [pendOf_alc, hbb] at hb2
        cases hb2
        exact ⟨rfl, rfl⟩
      · refine hall n hbb hB Hk nk (hle_trans (fun x => ?_) hl) ?_ (by omega)
        · rw [hget_hset]
          by_cases hx : n = x
          · subst hx; exact .inl hdead
          · rw [if_neg hx]; exact .inr rfl
        · rcases hl n with h1 | h1
          · rw [hget_hset, if_pos rfl] at h1; exact absurd h1 hB
          · rw [hget_hset, if_pos rfl] at h1; exact h1.symm
    | bad => exact absurd hk he
    | wr f => exact absurd hk he
    | call f => exact absurd hk he
    | callv f => exact absurd hk he
    | dfr f => exact absurd hk he
    | rcv => exact absurd hk he
  cases gd with
  | none => exact main (fun d want h => by cases h) hk
  | some g =>
    obtain ⟨dg, want⟩ := g
    have huse := gd_seen hgd
    have hview : tget (restr (o.looksAt arr) t) dg = tget t dg := by rw [tget_restr, if_pos huse]
    rcases asGuard_ok he hk with ⟨bb, hv, hb, hk⟩ | ⟨hv, hk⟩
    · have hv : tget (restr (o.looksAt arr) t) dg = .bool bb := hv
      rw [hview, hb] at hv
      exact main (fun d w h => by cases h; exact hv) hk
    · have hv : tget (restr (o.looksAt arr) t) dg = .undef ∨ ∃ bb, tget (restr (o.looksAt arr) t) dg = .bool bb ∧ bb ≠ want := hv
      rw [hview] at hv
      refine ⟨.undef, h, n, hk, Nat.le_refl _, hle_refl _, fun _ _ => rfl, fun bb hb => ?_, fun Hk nk hl _ => nw_skip ho hsel hgd rfl hv⟩
      unfold pendOf at hb
      split at hb <;> cases hb

include ho hK hsel hgd he hd in
theorem opChk_ok (hk : (opChk e (restr (o.looksAt arr)) d gd nx κ).run CY kn t h n D = 0) :
    nx.run CY kn t h n D = 0 ∧ ∀ Hk nk, hle h Hk → n ≤ nk → NWStep P C q inR arr i o (tget t d) (pendOf κ (tget t d)) Hk nk (tget t) := by
  have main : gdYes gd (tget t) → K.rec (motive := fun _ => Nat) e
      (fun f => f (restr (o.looksAt arr) t) h fun v => guardN e (avEq v (tget t d)) (nx.run CY kn t h n D))
      (fun f => f (restr (o.looksAt arr) t) h fun B mk => asBlk e (tget t d) fun b => guardN e (avEq (mk b) (tget t d)) (guardN e (Nat.blt b n) (guardN e (blkEq B (hget h b)) (nx.run CY kn t h n D))))
      (fun _ => e) (fun _ => e) (fun _ => e) (fun _ => e) e κ = 0 →
    nx.run CY kn t h n D = 0 ∧ ∀ Hk nk, hle h Hk → n ≤ nk → NWStep P C q inR arr i o (tget t d) (pendOf κ (tget t d)) Hk nk (tget t) := by
    intro hy hk
    cases κ with
    | val f =>
      obtain ⟨v, hk, hall⟩ := nw_val (q := q) ho hsel hgd hK hk hy
      obtain ⟨hv, hk⟩ := guardN_ok he hk
      have hv := avEq_ok _ _ hv
      exact ⟨hk, fun Hk nk hl _ => by rw [← hv]; exact hall Hk nk hl⟩
    | alc f =>
      obtain ⟨B, mk, hk, hall⟩ := nw_alc (q := q) ho hsel hgd hK hk hy
      obtain ⟨bb, hbb, hk⟩ := asBlk_ok he hk
      obtain ⟨hv, hk⟩ := guardN_ok he hk
      obtain ⟨hlt, hk⟩ := guardN_ok he hk
      obtain ⟨hB, hk⟩ := guardN_ok he hk
      have hv := avEq_ok _ _ hv
      have hlt : bb < n := blt_lt hlt
      obtain ⟨hB1, hB2⟩ := blkEq_ok hB
      refine ⟨hk, fun Hk nk hl hnk => ?_⟩
      rw [← hv]
      refine hall bb (by rw [hv]; exact hbb) hB2 Hk nk hl ?_ (by omega)
      rcases hl bb with h1 | h1
      · rw [hB1, h1] at hB2; exact absurd rfl hB2
      · rw [hB1, h1]
    | bad => exact absurd hk he
    | wr f => exact absurd hk he
    | call f => exact absurd hk he
    | callv f => exact absurd hk he
    | dfr f => exact absurd hk he
    | rcv => exact absurd hk he
  cases gd with
  | none => exact main (fun d want h => by cases h) hk
  | some g =>
    obtain ⟨dg, want⟩ := g
    have huse := gd_seen hgd
    have hview : tget (restr (o.looksAt arr) t) dg = tget t dg := by rw [tget_restr, if_pos huse]
    rcases asGuard_ok he hk with ⟨bb, hv, hb, hk⟩ | ⟨hv, hk⟩
    · have hv : tget (restr (o.looksAt arr) t) dg = .bool bb := hv
      rw [hview, hb] at hv
      exact main (fun d w h => by cases h; exact hv) hk
    · have hv : tget (restr (o.looksAt arr) t) dg = .undef ∨ ∃ bb, tget (restr (o.looksAt arr) t) dg = .bool bb ∧ bb ≠ want := hv
      rw [hview] at hv
      obtain ⟨he2, hk⟩ := guardN_ok he hk
      have he2 := avEq_ok _ _ he2
      refine ⟨hk, fun Hk nk hl _ => ?_⟩
      rw [he2]
      exact nw_skip ho hsel hgd rfl hv
end
end Go.Ae
