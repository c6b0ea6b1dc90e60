/- The abstract evaluator: soundness of operations, the fifth part: make, slices. -/
import Derived.Test.YtjmammdlefbemaaGreatDoorAeG
set_option linter.unusedVariables false
set_option linter.unusedSectionVars false
namespace Go.Ae

theorem wrap_small (m : Nat) (h : m ≤ 65536) : IntKind.i64.wrap (m : Int) = m := by
  unfold IntKind.wrap
  have h1 : (m : Int) % 2 ^ IntKind.i64.bits = m := by
    have : IntKind.i64.bits = 64 := rfl
    rw [this]; omega
  simp only [h1]
  have h2 : ¬ ((m : Int) ≥ 2 ^ (IntKind.i64.bits - 1)) := by
    have : IntKind.i64.bits = 64 := rfl
    rw [this]; omega
  simp [h2]

theorem run_sliceBound {P : Program} {w : World} {kd : IntKind} {m y : Nat} {code : BoundsCode} (h : m ≤ y) : (Instr.sliceBound (.int kd (Int.ofNat m)) y code).run P w = .ok m w := by
  have : (0 : Int) ≤ m ∧ (m : Int) ≤ y := by omega
  simp [Instr.sliceBound, asIntOf, this, h]

theorem run_sliceBound' {P : Program} {w : World} {kd : IntKind} {m y : Nat} {code : BoundsCode} (h : m ≤ y) : (Instr.sliceBound (.int kd (m : Int)) y code).run P w = .ok m w := run_sliceBound h

section
variable {P : Program} {C : Ctx} (H : CtxOK P C) {e : Nat} (he : e ≠ 0)

include H he in
theorem kMakeSlice_ok {o : Oper} {ty : Nat} {x y : Operand} (ho : o.op = .makeSlice ty x y) {k : K} (h : kMakeSlice C e ty x y = some k) : KOK P C o k := by
  simp only [kMakeSlice, Option.bind_eq_bind, Option.bind_eq_some_iff] at h
  obtain ⟨gl, hgl, gc, hgc, d, hd, h⟩ := h
  have hu := H.und hd
  split at h
  · rename_i elem
    simp only [Option.bind_eq_some_iff] at h
    obtain ⟨i, hi, z, hz, zl, hzl, h⟩ := h
    split at h
    · rename_i hc
      simp only [Bool.and_eq_true, decide_eq_true_eq] at hc
      obtain ⟨⟨hl, hb⟩, hpos⟩ := hc
      cases h
      intro t h k hk
      obtain ⟨kd, n, hn, hk⟩ := asNat_ok he hk
      obtain ⟨kd', m, hm, hk⟩ := asNat_ok he hk
      obtain ⟨h1, hk⟩ := guardN_ok he hk
      obtain ⟨h2, hk⟩ := guardN_ok he hk
      have h1 : n ≤ m := ble_le h1
      have h2 : m ≤ 65536 := ble_le h2
      rw [forceN_eq] at hk
      refine ⟨_, _, hk, fun base Γ q w a hgo R ht => ?_⟩
      have hrl := opG_ok hgl ht
      rw [hn] at hrl
      have hrc := opG_ok hgc ht
      rw [hm] at hrc
      have hzs : z.cells.size = i.size := by have := (toScs_ok hzl).1; simp at this; omega
      have hrows := zero_rows hzl (by omega) Γ m
      rw [hl] at hrows
      refine ⟨.slice (some ⟨w.heap.size, 0, none⟩) n m, .cells ((Array.range (m * i.size)).map fun j => z.cells[j % z.cells.size]!) elem (0, 0), 0, w.drawn, ?_, fun id hid => ⟨.sliceE id 0 n m _ (Gam.put_self _ _ _), ?_⟩⟩
      · have hbig : ¬ ((i.bytes : Int) * (m : Int) > 2 ^ 48) := by
          have : i.bytes * m ≤ 65536 * 65536 := Nat.mul_le_mul hb h2
          omega
        have e1 : IntKind.i64.wrap (Int.ofNat n) = n := wrap_small n (by omega)
        have e2 : IntKind.i64.wrap (Int.ofNat m) = m := wrap_small m h2
        have hs : (sizeOf elem).run P w = .ok i.size w := by simp [sizeOf, H.info hi]
        have hneg : ¬ ((m : Int) < 0) := by omega
        have hneg' : ¬ ((n : Int) < 0) := by omega
        have hgt : ¬ ((n : Int) > m) := by omega
        simp only [execOp, ho, Sem.run_bind, Instr.makeSlice, run_underlying hu, Result.andThen_ok, hrl.int_inv, hrc.int_inv, Go.asInt, asIntOf, H.info hi, Sem.run_pure, e1, e2]
        have hcond : (((decide ((m : Int) < 0) || decide ((i.bytes : Int) * (m : Int) > 2 ^ 48)) || decide ((n : Int) < 0)) || decide ((n : Int) > m)) = false := by
          simp only [decide_eq_false hneg, decide_eq_false hbig, decide_eq_false hneg', decide_eq_false hgt, Bool.or_self]
        by_cases h0 : m * i.size = 0
        · have hm0 : m = 0 := by
            rcases Nat.mul_eq_zero.1 h0 with h | h
            · exact h
            · omega
          subst hm0
          have hn0 : n = 0 := by omega
          subst hn0
          simp [hs, newRow, show Array.range 0 = #[] from rfl]
        · simp [hneg, hneg', hbig, hgt, hs, h0, zeroValue, H.info hi, hz, newRow]
          intro hcon
          omega
      · exact or_cells elem (by simp) (fun j hj => ⟨(hrows j hj).1.mono (Gam.le_put hid), (hrows j hj).2⟩)
    · cases h
  · cases h

/-- the cut of a slice value -/
def cutV (a : Addr) (s l h m : Nat) : Value := .slice (if m = l then some a else (some a).map (·.add (l * s))) (h - l) (m - l)

include he in
theorem sliceK_some {s b off len c l h m : Nat} {op : Bool} {k : AV → Nat} (hk : sliceK e s b off len op c l h (some m) k = 0) :
    ∃ v, k v = 0 ∧ l ≤ h ∧ h ≤ m ∧ m ≤ len ∧ ∀ (Γ : Gam) (g : G), Γ b = some g → VR Γ v (cutV ⟨g.c, g.d + off, none⟩ s l h m) := by
  obtain ⟨h1, hk⟩ := guardN_ok he hk
  obtain ⟨h2, hk⟩ := guardN_ok he hk
  obtain ⟨h3, hk⟩ := guardN_ok he hk
  have h1 : l ≤ h := ble_le h1
  have h2 : h ≤ m := ble_le h2
  have h3 : m ≤ len := ble_le h3
  rw [forceN_eq, forceN_eq, ite2_eq] at hk
  by_cases hml : m = l
  · subst hml
    rw [if_pos (by simp)] at hk
    refine ⟨_, hk, h1, h2, h3, fun Γ g hg => ?_⟩
    unfold cutV
    rw [if_pos rfl]
    exact .sliceE _ _ _ _ g hg
  · have : Nat.beq m l = false := by
      cases hb : Nat.beq m l with
      | false => rfl
      | true => exact absurd (Nat.eq_of_beq_eq_true hb) hml
    rw [this] at hk
    simp only [Bool.false_eq_true, if_false, forceN_eq] at hk
    refine ⟨_, hk, h1, h2, h3, fun Γ g hg => ?_⟩
    unfold cutV
    rw [if_neg hml]
    simp only [Option.map_some, add_mul]
    exact .sliceE _ _ _ _ g hg

include he in
theorem sliceK_none {s b off len c l h : Nat} {op : Bool} {k : AV → Nat} (hk : sliceK e s b off len op c l h none k = 0) :
    ∃ v, k v = 0 ∧ l ≤ h ∧ h ≤ len ∧ ∀ (Γ : Gam) (g : G), Γ b = some g → (op = true → len ≤ g.cap - c) →
      len ≤ (if op then g.cap - c else c) ∧ VR Γ v (cutV ⟨g.c, g.d + off, none⟩ s l h (if op then g.cap - c else c)) := by
  obtain ⟨h1, hk⟩ := guardN_ok he hk
  obtain ⟨h2, hk⟩ := guardN_ok he hk
  have h1 : l ≤ h := ble_le h1
  have h2 : h ≤ len := ble_le h2
  cases op with
  | false =>
    obtain ⟨h3, hk⟩ := guardN_ok he hk
    have h3 : len ≤ c := ble_le h3
    rw [forceN_eq, forceN_eq, ite2_eq] at hk
    by_cases hml : c = l
    · subst hml
      rw [if_pos (by simp)] at hk
      refine ⟨_, hk, h1, h2, fun Γ g hg _ => ⟨by simpa using h3, ?_⟩⟩
      simp only [Bool.false_eq_true, if_false]
      unfold cutV
      rw [if_pos rfl]
      exact .sliceE _ _ _ _ g hg
    · have : Nat.beq c l = false := by
        cases hb : Nat.beq c l with
        | false => rfl
        | true => exact absurd (Nat.eq_of_beq_eq_true hb) hml
      rw [this] at hk
      simp only [Bool.false_eq_true, if_false, forceN_eq] at hk
      refine ⟨_, hk, h1, h2, fun Γ g hg _ => ⟨by simpa using h3, ?_⟩⟩
      simp only [Bool.false_eq_true, if_false]
      unfold cutV
      rw [if_neg hml]
      simp only [Option.map_some, add_mul]
      exact .sliceE _ _ _ _ g hg
  | true =>
    have hk : ite2 (Nat.beq l 0) (k (.slice b off h true c)) (ite2 (Nat.beq l len) (k .voidO) (forceN (Nat.sub h l) fun n => forceN (Nat.add c l) fun c' => forceN (Nat.add off (Nat.mul l s)) fun o => k (.slice b o n true c'))) = 0 := hk
    rw [ite2_eq, ite2_eq, forceN_eq, forceN_eq, forceN_eq] at hk
    by_cases hl0 : l = 0
    · subst hl0
      rw [if_pos (by simp)] at hk
      refine ⟨_, hk, h1, h2, fun Γ g hg hcap => ⟨by simpa using hcap rfl, ?_⟩⟩
      have hcap := hcap rfl
      simp only [if_true]
      unfold cutV
      have : (if g.cap - c = 0 then some (⟨g.c, g.d + off, none⟩ : Addr) else (some (⟨g.c, g.d + off, none⟩ : Addr)).map (·.add (0 * s))) = some ⟨g.c, g.d + off, none⟩ := by
        split
        · rfl
        · simp [Addr.add]
      rw [this]
      exact .sliceO _ _ _ _ g hg (by omega)
    · have hb0 : Nat.beq l 0 = false := by
        cases hb : Nat.beq l 0 with
        | false => rfl
        | true => exact absurd (Nat.eq_of_beq_eq_true hb) hl0
      rw [hb0] at hk
      simp only [Bool.false_eq_true, if_false] at hk
      by_cases hll : l = len
      · subst hll
        rw [if_pos (by simp)] at hk
        refine ⟨_, hk, h1, h2, fun Γ g hg hcap => ⟨by simpa using hcap rfl, ?_⟩⟩
        simp only [if_true]
        unfold cutV
        have : h - l = 0 := by omega
        rw [this]
        split
        · exact .voidO _ _
        · exact .voidO _ _
      · have hbl : Nat.beq l len = false := by
          cases hb : Nat.beq l len with
          | false => rfl
          | true => exact absurd (Nat.eq_of_beq_eq_true hb) hll
        rw [hbl] at hk
        simp only [Bool.false_eq_true, if_false] at hk
        refine ⟨_, hk, h1, h2, fun Γ g hg hcap => ⟨by simpa using hcap rfl, ?_⟩⟩
        have hcap := hcap rfl
        simp only [if_true]
        unfold cutV
        rw [if_neg (by omega)]
        simp only [Option.map_some, add_mul]
        have : g.cap - c - l = g.cap - (c + l) := by omega
        rw [this]
        exact .sliceO b (off + l * s) (h - l) (c + l) g hg (by omega)

theorem bytesOf_extract (bs : List Nat) (l h : Nat) : (bytesOf bs).extract l h = bytesOf ((bs.drop l).take (h - l)) := by
  apply ByteArray.ext
  simp only [ByteArray.data_extract, bytesOf]
  apply Array.ext'
  simp [List.map_take, List.map_drop]


/-- the bounds of a cut -/
theorem run_sliceBounds {w : World} {isS : Bool} {len cap l h : Nat} {lo hi : Option Value} (hlo : (lo = none ∧ l = 0) ∨ ∃ kd, lo = some (.int kd (Int.ofNat l)))
    (hhi : (hi = none ∧ h = len) ∨ ∃ kd, hi = some (.int kd (Int.ofNat h))) (h1 : l ≤ h) (h2 : h ≤ cap) : (Instr.sliceBounds isS len cap lo hi none).run P w = .ok (l, h, cap) w := by
  rcases hlo with ⟨rfl, rfl⟩ | ⟨kd, rfl⟩ <;> rcases hhi with ⟨rfl, rfl⟩ | ⟨kd', rfl⟩ <;>
    simp [Instr.sliceBounds, run_sliceBound' h1, run_sliceBound' h2]

theorem run_sliceBounds3 {w : World} {isS : Bool} {len cap l h m : Nat} {lo : Option Value} {kh km : IntKind} (hlo : (lo = none ∧ l = 0) ∨ ∃ kd, lo = some (.int kd (Int.ofNat l)))
    (h1 : l ≤ h) (h2 : h ≤ m) (h3 : m ≤ cap) : (Instr.sliceBounds isS len cap lo (some (.int kh (Int.ofNat h))) (some (.int km (Int.ofNat m)))).run P w = .ok (l, h, m) w := by
  rcases hlo with ⟨rfl, rfl⟩ | ⟨kd, rfl⟩ <;>
    simp [Instr.sliceBounds, run_sliceBound' h1, run_sliceBound' h2, run_sliceBound' h3]

theorem beq_nat {a b : Nat} (h : Nat.beq a b = true) : a = b := Nat.eq_of_beq_eq_true h

/-- an optional bound, evaluated -/
theorem bound_of {x : Option Operand} {g : Option (TT → AV)} (hx : opGo x = some g) {t : TT} {d v : Nat} (hv : (g = none ∧ v = d) ∨ ∃ f kd, g = some f ∧ f t = .int kd (Int.ofNat v))
    {Γ : Gam} {a : Act} (ht : RelT Γ t a.tmps) : (x.map a.eval = none ∧ v = d) ∨ ∃ kd, x.map a.eval = some (.int kd (Int.ofNat v)) := by
  rcases opGo_ok hx ht with ⟨rfl, rfl⟩ | ⟨y, f, rfl, rfl, hvr⟩
  · rcases hv with ⟨_, h⟩ | ⟨f, kd, h, _⟩
    · exact .inl ⟨rfl, h⟩
    · cases h
  · rcases hv with ⟨h, _⟩ | ⟨f', kd, h, hf⟩
    · cases h
    · cases h
      rw [hf] at hvr
      exact .inr ⟨kd, by simp [hvr.int_inv]⟩

include he in
theorem optN_kk {g : Option (TT → AV)} {t : TT} {d : Nat} {kk : Nat → Nat} (h : optN e g t (kk d) kk = 0) : ∃ v, ((g = none ∧ v = d) ∨ ∃ f kd, g = some f ∧ f t = .int kd (Int.ofNat v)) ∧ kk v = 0 := by
  rcases optN_ok he h with ⟨hg, hk⟩ | ⟨f, kd, m, hg, hf, hk⟩
  · exact ⟨d, .inl ⟨hg, rfl⟩, hk⟩
  · exact ⟨m, .inr ⟨f, kd, hg, hf⟩, hk⟩

theorem sliceAt_of {w : World} {ty : Nat} {d : TypeDesc} (hu : P.underlying ty = some d) (hd : ∀ n el, d ≠ .array n el) (x : Value) (lo hi mx : Option Value) :
    (Instr.sliceAt ty x lo hi mx).run P w = (Instr.slice ty x lo hi mx).run P w := by
  unfold Instr.sliceAt
  simp only [Sem.run_bind, run_underlying hu, Result.andThen_ok]

include H he in
theorem kSlice_ok {o : Oper} {ty : Nat} {x : Operand} {lo hi mx : Option Operand} (ho : o.op = .slice ty x lo hi mx) {k : K} (h : kSlice C e ty x lo hi mx = some k) : KOK P C o k := by
  simp only [kSlice, Option.bind_eq_bind, Option.bind_eq_some_iff] at h
  obtain ⟨gx, hgx, gl, hgl, gh, hgh, gm, hgm, d, hd, h⟩ := h
  have hu := H.und hd
  have hexec : ∀ (a : Act) (w : World), (execOp a.eval o).run P w = ((Instr.sliceAt ty (a.eval x) (lo.map a.eval) (hi.map a.eval) (mx.map a.eval)).run P w).andThen fun v w' => .ok (.value v) w' := by
    intro a w
    simp [execOp, ho]
  split at h
  · -- a string
    cases h
    have hmx : mx = none := by cases mx with | none => rfl | some y => simp [opGo] at hgm
    intro t h k hk
    obtain ⟨bs, hv, hk⟩ := asStr_ok he hk
    obtain ⟨l, hl, hk⟩ := optN_kk he hk
    obtain ⟨q, hq, hk⟩ := optN_kk he hk
    obtain ⟨h1, hk⟩ := guardN_ok he hk
    obtain ⟨h2, hk⟩ := guardN_ok he hk
    have h1 : l ≤ q := ble_le h1
    have h2 : q ≤ lenN bs := ble_le h2
    rw [lenN_eq] at h2 hq
    rw [takeL_eq, dropL_eq] at hk
    refine ⟨_, hk, fun base Γ n w a hgo R ht => ?_⟩
    have hr := opG_ok hgx ht
    rw [hv] at hr
    refine ⟨.string ((bytesOf bs).extract l q), ?_, by rw [bytesOf_extract]; exact .str _⟩
    rw [hexec, sliceAt_of hu (by simp)]
    simp only [hmx, hr.str_inv, Instr.slice, Sem.run_bind, run_underlying hu, Result.andThen_ok, Option.map_none, Option.isSome_none]
    simp [run_sliceBounds (P := P) (w := w) (isS := false) (len := (bytesOf bs).size) (cap := (bytesOf bs).size) (bound_of hgl hl ht) (by rw [bytesOf_size]; exact bound_of hgh hq ht) h1 (by rw [bytesOf_size]; exact h2)]
  · -- a slice, two bounds
    rename_i elem
    simp only [Option.bind_eq_some_iff] at h
    obtain ⟨s, hs, h⟩ := h
    cases h
    have hmx : mx = none := by cases mx with | none => rfl | some y => simp [opGo] at hgm
    intro t h k hk
    obtain ⟨l, hl, hk⟩ := optN_kk he hk
    have hrun : ∀ {w : World} {A : Option Addr} {len cap q : Nat} {lo' hi' : Option Value}, (Instr.sliceBounds true len cap lo' hi' none).run P w = .ok (l, q, cap) w →
        (Instr.slice ty (.slice A len cap) lo' hi' none).run P w = .ok (.slice (if cap = l then A else A.map (·.add (l * s))) (q - l) (cap - l)) w := by
      intro w A len cap q lo' hi' hb
      simp [Instr.slice, run_underlying hu, hb, H.size hs]
    rcases asSlice_ok he hk with ⟨hv, hk⟩ | ⟨hv, hk⟩ | ⟨hv, hk⟩ | ⟨b, off, len, op, c, hv, hk⟩
    · obtain ⟨q, hq, hk⟩ := optN_kk he hk
      obtain ⟨h1, hk⟩ := guardN_ok he hk
      obtain ⟨h2, hk⟩ := guardN_ok he hk
      have h1 := beq_nat h1
      have h2 := beq_nat h2
      subst h1; subst h2
      refine ⟨_, hk, fun base Γ n w a hgo R ht => ?_⟩
      have hr := opG_ok hgx ht
      rw [hv] at hr
      refine ⟨.slice none 0 0, ?_, .nils⟩
      rw [hexec, sliceAt_of hu (by simp), hr.nils_inv, hmx, Option.map_none, hrun (run_sliceBounds (bound_of hgl hl ht) (bound_of hgh hq ht) (Nat.le_refl _) (Nat.le_refl _))]
      simp
    · obtain ⟨q, hq, hk⟩ := optN_kk he hk
      obtain ⟨h1, hk⟩ := guardN_ok he hk
      obtain ⟨h2, hk⟩ := guardN_ok he hk
      have h1 := beq_nat h1
      have h2 := beq_nat h2
      subst h1; subst h2
      refine ⟨_, hk, fun base Γ n w a hgo R ht => ?_⟩
      have hr := opG_ok hgx ht
      rw [hv] at hr
      obtain ⟨A, c, hV⟩ := hr.voidO_inv
      refine ⟨.slice (some A) 0 c, ?_, .voidO _ _⟩
      rw [hexec, sliceAt_of hu (by simp), hV, hmx, Option.map_none, hrun (run_sliceBounds (bound_of hgl hl ht) (bound_of hgh hq ht) (Nat.le_refl _) (Nat.zero_le _))]
      simp [Addr.add]
    · obtain ⟨q, hq, hk⟩ := optN_kk he hk
      obtain ⟨h1, hk⟩ := guardN_ok he hk
      obtain ⟨h2, hk⟩ := guardN_ok he hk
      have h1 := beq_nat h1
      have h2 := beq_nat h2
      subst h1; subst h2
      refine ⟨_, hk, fun base Γ n w a hgo R ht => ?_⟩
      have hr := opG_ok hgx ht
      rw [hv] at hr
      obtain ⟨A, hV⟩ := hr.voidE_inv
      refine ⟨.slice (some A) 0 0, ?_, .voidE _⟩
      rw [hexec, sliceAt_of hu (by simp), hV, hmx, Option.map_none, hrun (run_sliceBounds (bound_of hgl hl ht) (bound_of hgh hq ht) (Nat.le_refl _) (Nat.le_refl _))]
      simp
    · obtain ⟨q, hq, hk⟩ := optN_kk he hk
      obtain ⟨v, hk, h1, h2, hvr⟩ := sliceK_none he hk
      refine ⟨v, hk, fun base Γ n w a hgo R ht => ?_⟩
      have hr := opG_ok hgx ht
      rw [hv] at hr
      have hcap : op = true → ∀ g, Γ b = some g → len ≤ g.cap - c := by
        intro hop g hg
        subst hop
        obtain ⟨g', hg', _, hle⟩ := hr.sliceO_inv
        rw [hg] at hg'; cases hg'; exact hle
      obtain ⟨g', hg', hV⟩ := hr.slice_inv
      obtain ⟨hlen, hvr⟩ := hvr Γ g' hg' (fun hop => hcap hop g' hg')
      refine ⟨_, ?_, hvr⟩
      rw [hexec, sliceAt_of hu (by simp), hV, hmx, Option.map_none, hrun (run_sliceBounds (bound_of hgl hl ht) (bound_of hgh hq ht) h1 (Nat.le_trans h2 hlen))]
      rfl
  · -- a slice, three bounds
    rename_i elem gm
    simp only [Option.bind_eq_some_iff] at h
    obtain ⟨s, hs, h⟩ := h
    split at h
    · cases h
    · rename_i gh'
      cases h
      obtain ⟨ym, rfl⟩ : ∃ y, mx = some y := by cases mx with | none => simp [opGo] at hgm | some y => exact ⟨y, rfl⟩
      obtain ⟨yh, rfl⟩ : ∃ y, hi = some y := by cases hi with | none => simp [opGo] at hgh | some y => exact ⟨y, rfl⟩
      simp only [opGo, Option.map_eq_some_iff, Option.some.injEq] at hgm hgh
      obtain ⟨gm', hgm, rfl⟩ := hgm
      obtain ⟨gh'', hgh, rfl⟩ := hgh
      intro t h k hk
      obtain ⟨l, hl, hk⟩ := optN_kk he hk
      obtain ⟨kh, q, hq, hk⟩ := asNat_ok he hk
      obtain ⟨km, m, hm, hk⟩ := asNat_ok he hk
      have hrun : ∀ {w : World} {A : Option Addr} {len cap : Nat} {lo' hi' mx' : Option Value}, (Instr.sliceBounds true len cap lo' hi' mx').run P w = .ok (l, q, m) w →
          (Instr.slice ty (.slice A len cap) lo' hi' mx').run P w = .ok (.slice (if m = l then A else A.map (·.add (l * s))) (q - l) (m - l)) w := by
        intro w A len cap lo' hi' mx' hb
        simp [Instr.slice, run_underlying hu, hb, H.size hs]
      have hev : ∀ {Γ : Gam} {a : Act}, RelT Γ t a.tmps → a.eval yh = .int kh (Int.ofNat q) ∧ a.eval ym = .int km (Int.ofNat m) := by
        intro Γ a ht
        have h1 := opG_ok hgh ht
        rw [hq] at h1
        have h2 := opG_ok hgm ht
        rw [hm] at h2
        exact ⟨h1.int_inv, h2.int_inv⟩
      rcases asSlice_ok he hk with ⟨hv, hk⟩ | ⟨hv, hk⟩ | ⟨hv, hk⟩ | ⟨b, off, len, op, c, hv, hk⟩
      · obtain ⟨h1, hk⟩ := guardN_ok he hk
        obtain ⟨h2, hk⟩ := guardN_ok he hk
        obtain ⟨h3, hk⟩ := guardN_ok he hk
        have h1 := beq_nat h1
        have h2 := beq_nat h2
        have h3 := beq_nat h3
        subst h1; subst h2; subst h3
        refine ⟨_, hk, fun base Γ n w a hgo R ht => ?_⟩
        have hr := opG_ok hgx ht
        rw [hv] at hr
        obtain ⟨e1, e2⟩ := hev ht
        refine ⟨.slice none 0 0, ?_, .nils⟩
        rw [hexec, sliceAt_of hu (by simp), hr.nils_inv, Option.map_some, Option.map_some, e1, e2, hrun (run_sliceBounds3 (bound_of hgl hl ht) (Nat.le_refl _) (Nat.le_refl _) (Nat.le_refl _))]
        simp
      · obtain ⟨h1, hk⟩ := guardN_ok he hk
        obtain ⟨h2, hk⟩ := guardN_ok he hk
        obtain ⟨h3, hk⟩ := guardN_ok he hk
        have h1 := beq_nat h1
        have h2 := beq_nat h2
        have h3 := beq_nat h3
        subst h1; subst h2; subst h3
        refine ⟨_, hk, fun base Γ n w a hgo R ht => ?_⟩
        have hr := opG_ok hgx ht
        rw [hv] at hr
        obtain ⟨e1, e2⟩ := hev ht
        obtain ⟨A, c, hV⟩ := hr.voidO_inv
        refine ⟨.slice (some A) 0 0, ?_, .voidE _⟩
        rw [hexec, sliceAt_of hu (by simp), hV, Option.map_some, Option.map_some, e1, e2, hrun (run_sliceBounds3 (bound_of hgl hl ht) (Nat.le_refl _) (Nat.le_refl _) (Nat.zero_le _))]
        simp
      · obtain ⟨h1, hk⟩ := guardN_ok he hk
        obtain ⟨h2, hk⟩ := guardN_ok he hk
        obtain ⟨h3, hk⟩ := guardN_ok he hk
        have h1 := beq_nat h1
        have h2 := beq_nat h2
        have h3 := beq_nat h3
        subst h1; subst h2; subst h3
        refine ⟨_, hk, fun base Γ n w a hgo R ht => ?_⟩
        have hr := opG_ok hgx ht
        rw [hv] at hr
        obtain ⟨e1, e2⟩ := hev ht
        obtain ⟨A, hV⟩ := hr.voidE_inv
        refine ⟨.slice (some A) 0 0, ?_, .voidE _⟩
        rw [hexec, sliceAt_of hu (by simp), hV, Option.map_some, Option.map_some, e1, e2, hrun (run_sliceBounds3 (bound_of hgl hl ht) (Nat.le_refl _) (Nat.le_refl _) (Nat.le_refl _))]
        simp
      · have hk' : (op = false → len ≤ c) ∧ sliceK e s b off len op c l q (some m) k = 0 := by
          cases op with
          | false => obtain ⟨h1, h2⟩ := guardN_ok he hk; exact ⟨fun _ => ble_le h1, h2⟩
          | true => exact ⟨(fun h => by cases h), hk⟩
        obtain ⟨hlc, hk⟩ := hk'
        obtain ⟨v, hk, h1, h2, h3, hvr⟩ := sliceK_some he hk
        refine ⟨v, hk, fun base Γ n w a hgo R ht => ?_⟩
        have hr := opG_ok hgx ht
        rw [hv] at hr
        obtain ⟨e1, e2⟩ := hev ht
        have hcap : ∀ g, Γ b = some g → len ≤ (if op then g.cap - c else c) := by
          intro g hg
          cases op with
          | true =>
            obtain ⟨g', hg', _, hle⟩ := hr.sliceO_inv
            rw [hg] at hg'; cases hg'; exact hle
          | false => exact hlc rfl
        obtain ⟨g', hg', hV⟩ := hr.slice_inv
        refine ⟨_, ?_, hvr Γ g' hg'⟩
        rw [hexec, sliceAt_of hu (by simp), hV, Option.map_some, Option.map_some, e1, e2, hrun (run_sliceBounds3 (bound_of hgl hl ht) h1 h2 (Nat.le_trans h3 (hcap g' hg')))]
        rfl
  · -- an array's address
    rename_i len elem
    simp only [Option.bind_eq_some_iff] at h
    obtain ⟨s, hs, h⟩ := h
    cases h
    have hmx : mx = none := by cases mx with | none => rfl | some y => simp [opGo] at hgm
    intro t h k hk
    obtain ⟨b, off, hv, hk⟩ := asPtr_ok he hk
    obtain ⟨l, hl, hk⟩ := optN_kk he hk
    obtain ⟨q, hq, hk⟩ := optN_kk he hk
    obtain ⟨v, hk, h1, h2, hvr⟩ := sliceK_none he hk
    refine ⟨v, hk, fun base Γ n w a hgo R ht => ?_⟩
    have hr := opG_ok hgx ht
    rw [hv] at hr
    obtain ⟨g', hg', hV⟩ := hr.ptr_inv
    obtain ⟨_, hvr⟩ := hvr Γ g' hg' (fun h => by cases h)
    refine ⟨_, ?_, hvr⟩
    rw [hexec]
    simp only [hV, hmx, Option.map_none, Instr.sliceAt, Sem.run_bind, run_underlying hu, Result.andThen_ok, Instr.sureAddr, Sem.run_pure,
      run_sliceBounds (P := P) (w := w) (isS := false) (len := len) (cap := len) (bound_of hgl hl ht) (bound_of hgh hq ht) h1 h2, H.size hs]
    simp only [cutV, Bool.false_eq_true, if_false]
    split <;> rfl
  · cases h
end
end Go.Ae
