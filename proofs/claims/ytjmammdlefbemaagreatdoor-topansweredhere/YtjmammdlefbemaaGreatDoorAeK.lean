/- The abstract evaluator: comparisons and conversions, the rest. -/
import Derived.Test.YtjmammdlefbemaaGreatDoorAeJ
set_option linter.unusedVariables false
set_option linter.unusedSectionVars false
namespace Go.Ae

theorem modify_push {α : Type} (xs : Array α) (a : α) (f : α → α) : (xs.push a).modify xs.size f = xs.push (f a) := by
  apply Array.ext_getElem?
  intro i
  simp only [Array.getElem?_modify, Array.getElem?_push]
  by_cases h : xs.size = i
  · subst h; simp
  · rw [if_neg h, if_neg (Ne.symm h), if_neg (Ne.symm h)]

section
variable {P : Program} {C : Ctx} (H : CtxOK P C) {e : Nat} (he : e ≠ 0)

include he in
theorem asNili_ok {v : AV} {k : Nat} (h : asNili e v k = 0) : v = .nili ∧ k = 0 := by
  cases v <;> first | exact absurd h he | exact ⟨rfl, h⟩

theorem eq_ii {ty : Nat} {ms : Array (String × TypeId)} {w : World} (hu : P.underlying ty = some (.interface ms)) (d : Nat) : (Op.equalIn (d + 1) ty .nilIface .nilIface).run P w = .ok true w := by simp [Op.equalIn, run_underlying hu]

include H he in
theorem kBinIf_ok {o : Oper} {op : BinOp} {ty yt : TypeId} {x y : Operand} (ho : o.op = .binOp op ty x y yt) {gx gy : TT → AV} (hgx : opG x = some gx) (hgy : opG y = some gy)
    {ms : Array (String × TypeId)} (hd : C.und ty = some (.interface ms)) {k : K} (h : kBinIf e op x y gx gy = some k) : KOK P C o k := by
  have hu := H.und hd
  unfold kBinIf at h
  split at h
  · rename_i hc
    have hgd : ∀ w, (eqGuard op ty x y .nilIface .nilIface).run P w = .ok () w := by
      intro w
      simp only [Bool.or_eq_true] at hc
      rcases hc with hc | hc
      · cases x <;> first | (simp [isC] at hc; done) | skip
        cases op <;> simp [eqGuard]
      · cases y <;> first | (simp [isC] at hc; done) | skip
        cases op <;> simp [eqGuard]
    split at h <;> cases h
    all_goals
      intro t h k hk
      obtain ⟨hx, hk⟩ := asNili_ok he hk
      obtain ⟨hy, hk⟩ := asNili_ok he hk
      refine ⟨_, hk, fun base Γ n w act hgl R ht => ?_⟩
      have h1 := opG_ok hgx ht; rw [hx] at h1
      have h2 := opG_ok hgy ht; rw [hy] at h2
      have he := eq_ii (P := P) (w := w) hu 9999
      have he' : (Op.equal ty .nilIface .nilIface).run P w = .ok true w := he
      exact ⟨_, exec_bin ho h1.nili_inv h2.nili_inv (hgd w) (by simp only [binOp, Sem.run_bind, he', Result.andThen_ok, Sem.run_pure, Bool.not_true]), .bool _⟩
  · cases h

include H he in
theorem partsEq_ok : ∀ (fs : List Field) (l : List (Nat × Bool)), eqParts C fs = some l → ∀ (cs : TT) (n : Nat) (ds : TT) (m : Nat) (k : Bool → Nat), partsEq e l cs n ds m k = 0 →
    ∃ r, k r = 0 ∧ ∀ (Γ : Gam) (Cs Ds : Array Value) (w : World) (d : Nat), Cs.size = n → Ds.size = m → (∀ i (hi : i < Cs.size), VR Γ (tget cs i) Cs[i]) → (∀ i (hi : i < Ds.size), VR Γ (tget ds i) Ds[i]) →
      (Op.eqFields (d + 1) Cs Ds fs).run P w = .ok r w
  | [], l, hl, cs, n, ds, m, k, hk => by
    cases hl
    exact ⟨true, hk, fun Γ Cs Ds w d _ _ _ _ => rfl⟩
  | f :: fs, l, hl, cs, n, ds, m, k, hk => by
    unfold eqParts at hl
    split at hl
    · rename_i hname
      split at hl
      all_goals first
        | (cases hl; done)
        | skip
      · rename_i r hu hr
        cases hl
        have hk : guardN e (Nat.blt f.offset n) (guardN e (Nat.blt f.offset m) (asStr e (tget cs f.offset) fun a => asStr e (tget ds f.offset) fun b =>
          Bool.rec (motive := fun _ => Nat) (k false) (partsEq e r cs n ds m k) (strEq a b))) = 0 := hk
        obtain ⟨h1, hk⟩ := guardN_ok he hk
        obtain ⟨h2, hk⟩ := guardN_ok he hk
        have h1 := blt_lt h1
        have h2 := blt_lt h2
        obtain ⟨a, ha, hk⟩ := asStr_ok he hk
        obtain ⟨b, hb, hk⟩ := asStr_ok he hk
        have step : ∀ (Γ : Gam) (Cs Ds : Array Value) (w : World) (d : Nat), Cs.size = n → Ds.size = m → (∀ i (hi : i < Cs.size), VR Γ (tget cs i) Cs[i]) → (∀ i (hi : i < Ds.size), VR Γ (tget ds i) Ds[i]) →
            (Op.eqFields (d + 1) Cs Ds (f :: fs)).run P w = if strEq a b then (Op.eqFields (d + 1) Cs Ds fs).run P w else .ok false w := by
          intro Γ Cs Ds w d hn hm hc hd
          have ea := hc f.offset (by omega); rw [ha] at ea
          have eb := hd f.offset (by omega); rw [hb] at eb
          have ga : Cs[f.offset]? = some (.string (bytesOf a)) := by rw [Array.getElem?_eq_getElem (by omega), ea.str_inv]
          have gb : Ds[f.offset]? = some (.string (bytesOf b)) := by rw [Array.getElem?_eq_getElem (by omega), eb.str_inv]
          have hag : C.isAgg f.type = some false := by simp [Ctx.isAgg, hu]
          simp only [Op.eqFields, hname, ne_eq, not_false_eq_true, if_true, Sem.run_bind, part, H.isAgg hag, Result.andThen_ok, Bool.false_eq_true, if_false, ga, gb, Sem.run_pure,
            run_equalIn_string w d f.type _ _ (H.und hu), strEq_toL]
          cases strEq a b <;> rfl
        cases hs : strEq a b with
        | false =>
          rw [hs] at hk
          exact ⟨false, hk, fun Γ Cs Ds w d hn hm hc hd => by rw [step Γ Cs Ds w d hn hm hc hd, hs]; rfl⟩
        | true =>
          rw [hs] at hk
          obtain ⟨q, hq, ih⟩ := partsEq_ok fs r hr cs n ds m k hk
          exact ⟨q, hq, fun Γ Cs Ds w d hn hm hc hd => by rw [step Γ Cs Ds w d hn hm hc hd, hs]; exact ih Γ Cs Ds w d hn hm hc hd⟩
      · rename_i r hu hr
        cases hl
        have hk : guardN e (Nat.blt f.offset n) (guardN e (Nat.blt f.offset m) (asBool e (tget cs f.offset) fun a => asBool e (tget ds f.offset) fun b =>
          Bool.rec (motive := fun _ => Nat) (k false) (partsEq e r cs n ds m k) (beqB a b))) = 0 := hk
        obtain ⟨h1, hk⟩ := guardN_ok he hk
        obtain ⟨h2, hk⟩ := guardN_ok he hk
        have h1 := blt_lt h1
        have h2 := blt_lt h2
        obtain ⟨a, ha, hk⟩ := asBool_ok he hk
        obtain ⟨b, hb, hk⟩ := asBool_ok he hk
        have step : ∀ (Γ : Gam) (Cs Ds : Array Value) (w : World) (d : Nat), Cs.size = n → Ds.size = m → (∀ i (hi : i < Cs.size), VR Γ (tget cs i) Cs[i]) → (∀ i (hi : i < Ds.size), VR Γ (tget ds i) Ds[i]) →
            (Op.eqFields (d + 1) Cs Ds (f :: fs)).run P w = if beqB a b then (Op.eqFields (d + 1) Cs Ds fs).run P w else .ok false w := by
          intro Γ Cs Ds w d hn hm hc hd
          have ea := hc f.offset (by omega); rw [ha] at ea
          have eb := hd f.offset (by omega); rw [hb] at eb
          have ga : Cs[f.offset]? = some (.bool a) := by rw [Array.getElem?_eq_getElem (by omega), ea.bool_inv]
          have gb : Ds[f.offset]? = some (.bool b) := by rw [Array.getElem?_eq_getElem (by omega), eb.bool_inv]
          have hag : C.isAgg f.type = some false := by simp [Ctx.isAgg, hu]
          simp only [Op.eqFields, hname, ne_eq, not_false_eq_true, if_true, Sem.run_bind, part, H.isAgg hag, Result.andThen_ok, Bool.false_eq_true, if_false, ga, gb, Sem.run_pure,
            run_equalIn_bool' w d f.type _ _ (H.und hu)]
          cases a <;> cases b <;> rfl
        cases hs : beqB a b with
        | false =>
          rw [hs] at hk
          exact ⟨false, hk, fun Γ Cs Ds w d hn hm hc hd => by rw [step Γ Cs Ds w d hn hm hc hd, hs]; rfl⟩
        | true =>
          rw [hs] at hk
          obtain ⟨q, hq, ih⟩ := partsEq_ok fs r hr cs n ds m k hk
          exact ⟨q, hq, fun Γ Cs Ds w d hn hm hc hd => by rw [step Γ Cs Ds w d hn hm hc hd, hs]; exact ih Γ Cs Ds w d hn hm hc hd⟩
    · cases hl

include H he in
theorem kBinStruct_ok {o : Oper} {op : BinOp} {ty yt : TypeId} {x y : Operand} (ho : o.op = .binOp op ty x y yt) {gx gy : TT → AV} (hgx : opG x = some gx) (hgy : opG y = some gy)
    {fields : Array Field} (hd : C.und ty = some (.struct fields)) {k : K} (h : kBinStruct C e op ty fields.toList gx gy = some k) : KOK P C o k := by
  have hu := H.und hd
  simp only [kBinStruct, Option.bind_eq_bind, Option.bind_eq_some_iff] at h
  obtain ⟨l, hl, h⟩ := h
  split at h
  · rename_i heq
    obtain ⟨hst, hgt⟩ := H.eqs ty heq
    have hu' : P.underlying ty = some (.struct (P.fieldsOf ty)) := by rw [hu]; simp [Program.fieldsOf, hu]
    have hfo : P.fieldsOf ty = fields := by simp [Program.fieldsOf, hu]
    split at h <;> cases h
    all_goals
      intro t h k hk
      obtain ⟨cs, n, hx, hk⟩ := asAgg_ok he hk
      obtain ⟨ds, m, hy, hk⟩ := asAgg_ok he hk
      obtain ⟨r, hk, hr⟩ := partsEq_ok (P := P) H he _ _ hl cs n ds m _ hk
    · refine ⟨_, hk, fun base Γ q w act hgl R ht => ?_⟩
      have h1 := opG_ok hgx ht; rw [hx] at h1
      have h2 := opG_ok hgy ht; rw [hy] at h2
      obtain ⟨Cs, hV, hs, hc, _⟩ := h1.agg_inv
      obtain ⟨Ds, hV', hs', hc', _⟩ := h2.agg_inv
      refine ⟨_, exec_bin ho hV hV' (run_eqGuard_agg w _ ty x y Cs Ds hgt) ?_, .bool _⟩
      have hrun := hr Γ Cs Ds w 9998 hs hs' hc hc'
      rw [run_eql_struct, show (10000 : Nat) = 9999 + 1 from rfl, run_equalIn_struct w 9999 ty Cs Ds hu' hst, hfo, hrun]
      rfl
    · rw [forceB_eq] at hk
      refine ⟨_, hk, fun base Γ q w act hgl R ht => ?_⟩
      have h1 := opG_ok hgx ht; rw [hx] at h1
      have h2 := opG_ok hgy ht; rw [hy] at h2
      obtain ⟨Cs, hV, hs, hc, _⟩ := h1.agg_inv
      obtain ⟨Ds, hV', hs', hc', _⟩ := h2.agg_inv
      refine ⟨_, exec_bin ho hV hV' (run_eqGuard_agg w _ ty x y Cs Ds hgt) ?_, .bool _⟩
      have hrun := hr Γ Cs Ds w 9998 hs hs' hc hc'
      rw [run_neq_struct, show (10000 : Nat) = 9999 + 1 from rfl, run_equalIn_struct w 9999 ty Cs Ds hu' hst, hfo, hrun]
      rfl
  · cases h

include H he in
theorem kBin_ok {o : Oper} {op : BinOp} {ty yt : TypeId} {x y : Operand} (ho : o.op = .binOp op ty x y yt) {k : K} (h : kBin C e op ty x y = some k) : KOK P C o k := by
  simp only [kBin, Option.bind_eq_bind, Option.bind_eq_some_iff] at h
  obtain ⟨gx, hgx, gy, hgy, d, hd, h⟩ := h
  split at h
  · exact kBinInt_ok he ho hgx hgy h
  · exact kBinStr_ok he ho hgx hgy h
  · exact kBinBool_ok H he ho hgx hgy hd h
  · exact kBinFlt_ok he ho hgx hgy h
  · simp only [Option.bind_eq_some_iff] at h
    obtain ⟨s, hs, h⟩ := h
    split at h
    · cases h
    · rename_i hs0
      exact kBinPtr_ok H he ho hgx hgy hd hs hs0 h
  · exact kBinSl_ok H he ho hgx hgy hd h
  · exact kBinIf_ok H he ho hgx hgy hd h
  · exact kBinStruct_ok H he ho hgx hgy hd h
  · cases h

include he in
theorem kMinMax_ok {o : Oper} {mx : Bool} {ts : Array TypeId} {x y : Operand} (ho : o.op = .call { callee := .builtin (if mx then .max else .min), args := #[x, y], argTypes := ts }) {k : K}
    (h : kMinMax e mx x y = some k) : KOK P C o k := by
  simp only [kMinMax, Option.bind_eq_bind, Option.bind_eq_some_iff] at h
  obtain ⟨gx, hgx, gy, hgy, h⟩ := h
  cases h
  intro t h k hk
  obtain ⟨ka, a, b, ha, hb, hk⟩ := int2_ok he hk
  cases mx with
  | true =>
    have hk : Bool.rec (motive := fun _ => Nat) (k (.int ka a)) (k (.int ka b)) (ilt a b) = 0 := hk
    rw [ilt_eq] at hk
    refine ⟨.int ka (if b > a then b else a), ?_, fun base Γ n w act hgl R ht => ⟨_, ?_, .int _ _⟩⟩
    · by_cases hc : b > a
      · rw [if_pos hc]; have : decide (a < b) = true := decide_eq_true hc; rw [this] at hk; exact hk
      · rw [if_neg hc]; have : decide (a < b) = false := decide_eq_false hc; rw [this] at hk; exact hk
    · have h1 := opG_ok hgx ht; rw [ha] at h1
      have h2 := opG_ok hgy ht; rw [hb] at h2
      simp [execOp, ho, resolve, invoke, builtin, Builtin.max_, h1.int_inv, h2.int_inv, Builtin.max2]
  | false =>
    have hk : Bool.rec (motive := fun _ => Nat) (k (.int ka a)) (k (.int ka b)) (ilt b a) = 0 := hk
    rw [ilt_eq] at hk
    refine ⟨.int ka (if b < a then b else a), ?_, fun base Γ n w act hgl R ht => ⟨_, ?_, .int _ _⟩⟩
    · by_cases hc : b < a
      · rw [if_pos hc]; have : decide (b < a) = true := decide_eq_true hc; rw [this] at hk; exact hk
      · rw [if_neg hc]; have : decide (b < a) = false := decide_eq_false hc; rw [this] at hk; exact hk
    · have h1 := opG_ok hgx ht; rw [ha] at h1
      have h2 := opG_ok hgy ht; rw [hb] at h2
      simp [execOp, ho, resolve, invoke, builtin, Builtin.min_, h1.int_inv, h2.int_inv, Builtin.min2]

include he in
theorem bytesL_ok : ∀ (l : List AV) (k : List Nat → Nat), bytesL e l k = 0 → ∃ bs, k bs = 0 ∧ bs.length = l.length ∧ ∀ (i : Nat) (v : AV), l[i]? = some v → ∃ m, v = .int .u8 (Int.ofNat m) ∧ bs[i]? = some m
  | [], k, h => ⟨[], h, rfl, fun i v hi => by simp at hi⟩
  | v :: l, k, h => by
    obtain ⟨kd, n, hv, h⟩ := asInt_ok he (v := v) (k := fun kd n => guardN e (Nat.beq (kn kd) 4) (Int.rec (motive := fun _ => Nat) (fun b => bytesL e l fun q => k (b :: q)) (fun _ => e) n)) h
    obtain ⟨hkd, h⟩ := guardN_ok he h
    have hkd : kd = .u8 := kn_inj (b := .u8) hkd
    subst hkd
    cases n with
    | negSucc m => exact absurd h he
    | ofNat m =>
      obtain ⟨bs, hk, hl, hall⟩ := bytesL_ok l _ h
      refine ⟨m :: bs, hk, by simp [hl], fun i u hi => ?_⟩
      cases i with
      | zero => simp at hi; subst hi; exact ⟨m, hv, rfl⟩
      | succ i => simpa using hall i u (by simpa using hi)

theorem u8L_eq (l : List Nat) : u8L l = l.map fun b => .int .u8 (.ofNat (b % 256)) := by
  induction l with
  | nil => rfl
  | cons b l ih => show _ :: u8L l = _; rw [ih]; rfl

theorem run_pushes {w : World} {f : Value → ByteArray → Sem (ForInStep ByteArray)} (hf : ∀ (q : Nat) (acc : ByteArray), (f (.int .u8 ((q : Nat) : Int)) acc).run P w = .ok (.yield (acc.push (UInt8.ofNat q))) w) :
    ∀ (bs : List Nat) (acc : ByteArray), (forIn (m := Sem) (bs.map fun q : Nat => Value.int .u8 ((q : Nat) : Int)) acc f).run P w = .ok ⟨acc.data ++ (bs.map UInt8.ofNat).toArray⟩ w
  | [], acc => by simp
  | q :: bs, acc => by
    simp only [List.map_cons, List.forIn_cons, Sem.run_bind, hf, Result.andThen_ok, run_pushes hf bs]
    congr 2
    apply Array.ext'
    simp

include H he in
theorem kConvert_ok {o : Oper} {src dst : Nat} {x : Operand} (ho : o.op = .convert src dst x) {k : K} (h : kConvert C e src dst x = some k) : KOK P C o k := by
  simp only [kConvert, Option.bind_eq_bind, Option.bind_eq_some_iff] at h
  obtain ⟨g, hg, s, hs, d, hd, h⟩ := h
  have hus := H.und hs
  have hud := H.und hd
  split at h
  · cases h
    intro t h k hk
    obtain ⟨ka, a, ha, hk⟩ := asInt_ok he hk
    rw [forceI_eq, wrapI_eq] at hk
    refine ⟨_, hk, fun base Γ n w act hgl R ht => ⟨_, ?_, .int _ _⟩⟩
    have h1 := opG_ok hg ht; rw [ha] at h1
    simp [execOp, ho, convert, run_underlying hus, run_underlying hud, h1.int_inv, Conv.intToInt]
  · cases h
    intro t h k hk
    obtain ⟨ka, a, ha, hk⟩ := asInt_ok he hk
    rw [forceN_eq] at hk
    refine ⟨_, hk, fun base Γ n w act hgl R ht => ⟨_, ?_, .flt _ _⟩⟩
    have h1 := opG_ok hg ht; rw [ha] at h1
    simp [execOp, ho, convert, run_underlying hus, run_underlying hud, h1.int_inv, Conv.intToFloat]
  · rename_i el
    simp only [Option.bind_eq_some_iff] at h
    obtain ⟨de, hde, h⟩ := h
    have hue := H.und hde
    split at h
    · cases h
      intro t h k hk
      obtain ⟨bs, hv, hk⟩ := asStr_ok he hk
      rw [forceN_eq, lenN_eq] at hk
      obtain ⟨hle, hk⟩ := guardN_ok he hk
      have hle : bs.length ≤ 65536 := ble_le hle
      refine ⟨_, _, hk, fun base Γ n w act hgl R ht => ?_⟩
      have h1 := opG_ok hg ht; rw [hv] at h1
      have hcut : bs.length ≤ Question.cut (.appendCap bs.length 0 el) (w.tape w.drawn (.appendCap bs.length 0 el)) := by simp [Question.cut]
      generalize hcp : Question.cut (.appendCap bs.length 0 el) (w.tape w.drawn (.appendCap bs.length 0 el)) = cap at hcut
      let cells : Array Value := ((bytesOf bs).data.map fun b => Value.int .u8 b.toNat) ++ Array.replicate (cap - bs.length) (.int .u8 0)
      have hsz : cells.size = cap := by simp [cells, bytesOf]; omega
      refine ⟨.slice (some ⟨w.heap.size, 0, none⟩) bs.length cap, .cells cells el (cap, cap + 1), cap, w.drawn + 1, ?_, fun id hid => ⟨?_, ?_⟩⟩
      · simp only [execOp, ho, Sem.run_bind, convert, run_underlying hus, run_underlying hud, h1.str_inv, Result.andThen_ok, run_underlying hue, Conv.stringToBytes, run_choose, bytesOf_size, Question.forced, Bool.false_eq_true, if_false, hcp,
          newRow, run_newObj, markStringish, run_shape, Sem.run_pure]
        have hsh : ({ heap := w.heap.push (.cells cells el (0, 0)), tape := w.tape, drawn := w.drawn + 1, os := w.os, output := w.output } : World).shape? w.heap.size = some (el, cap) := by
          simp [World.shape?, hsz]
        simp only [show (((bytesOf bs).data.map fun b => Value.int .u8 b.toNat) ++ Array.replicate (cap - bs.length) (.int .u8 0)) = cells from rfl, hsh, run_freeze, Result.andThen_ok]
        congr 1
        simp [World.freeze, modify_push]
      · have := VR.sliceO (Γ := Γ.put id ⟨w.heap.size, 0, cap⟩) id 0 bs.length 0 ⟨w.heap.size, 0, cap⟩ (Gam.put_self _ _ _) (by simpa using hcut)
        simpa using this
      · refine .cells _ _ _ _ _ _ _ _ (fun i hi => ?_) (.inr ⟨rfl, by omega⟩) (fun _ => ⟨by simp; omega, by simpa using hcut⟩)
        refine ⟨.int .u8 ((UInt8.ofNat bs[i]).toNat : Nat), ?_, ?_, rfl⟩
        · simp only [Nat.zero_add]
          rw [Array.getElem?_append_left (by simp [bytesOf]; omega)]
          simp [bytesOf, hi]
        · rw [tget_fillT, if_pos ⟨Nat.zero_le _, by rw [u8L_eq]; simp; omega⟩, u8L_eq]
          simp only [Nat.sub_zero, List.getD_eq_getElem?_getD, List.getElem?_map, List.getElem?_eq_getElem hi, Option.map_some, Option.getD_some]
          rw [show (UInt8.ofNat bs[i]).toNat = bs[i] % 256 by simp [UInt8.toNat_ofNat']]
          exact .int _ _
    · cases h
  · rename_i el
    simp only [Option.bind_eq_some_iff] at h
    obtain ⟨de, hde, h⟩ := h
    have hue := H.und hde
    split at h
    · cases h
      have hexec : ∀ (a : Act) (w : World) (A : Option Addr) (l c : Nat), a.eval x = .slice A l c → (execOp a.eval o).run P w = ((Conv.bytesToString (.slice A l c)).run P w).andThen fun v w' => .ok (.value v) w' := by
        intro a w A l c hx
        simp [execOp, ho, convert, run_underlying hus, run_underlying hud, hx, run_underlying hue]
      intro t h k hk
      rcases asSlice_ok he hk with ⟨hv, hk⟩ | ⟨hv, hk⟩ | ⟨hv, hk⟩ | ⟨b, off, len, op, c, hv, hk⟩
      · refine ⟨_, hk, fun base Γ n w act hgl R ht => ⟨_, ?_, .str _⟩⟩
        have h1 := opG_ok hg ht; rw [hv] at h1
        rw [hexec act w _ _ _ h1.nils_inv]
        rfl
      · refine ⟨_, hk, fun base Γ n w act hgl R ht => ⟨_, ?_, .str _⟩⟩
        have h1 := opG_ok hg ht; rw [hv] at h1
        obtain ⟨A, c, hV⟩ := h1.voidO_inv
        rw [hexec act w _ _ _ hV]
        simp [Conv.bytesToString, loadCells, loadCellsFrom]
        rfl
      · refine ⟨_, hk, fun base Γ n w act hgl R ht => ⟨_, ?_, .str _⟩⟩
        have h1 := opG_ok hg ht; rw [hv] at h1
        obtain ⟨A, hV⟩ := h1.voidE_inv
        rw [hexec act w _ _ _ hV]
        simp [Conv.bytesToString, loadCells, loadCellsFrom]
        rfl
      · obtain ⟨cs, m, z, cl, hb, hk⟩ := blkCells_ok he hk
        obtain ⟨hle, hk⟩ := guardN_ok he hk
        have hle : off + len ≤ m := ble_le hle
        obtain ⟨bs, hk, hbl, hball⟩ := bytesL_ok he _ _ hk
        rw [readL_length] at hbl
        refine ⟨_, hk, fun base Γ n w act hgl R ht => ⟨.string (bytesOf bs), ?_, .str _⟩⟩
        have h1 := opG_ok hg ht; rw [hv] at h1
        obtain ⟨g', hg', hV⟩ := h1.slice_inv
        rw [hexec act w _ _ _ hV]
        obtain ⟨Cs, hCs, hload, hok⟩ := R.cells_at (P := P) hg' hb off len hle
        have hcell : Cs.toList = bs.map fun q : Nat => Value.int .u8 ((q : Nat) : Int) := by
          apply List.ext_getElem?
          intro i
          by_cases hi : i < Cs.size
          · obtain ⟨q, hq, hbi⟩ := hball i (tget cs (off + i)) (readL_get _ _ _ _ (by omega))
            have := (hok i hi).1
            rw [hq] at this
            simp only [List.getElem?_map, hbi, Option.map_some, Array.getElem?_toList, Array.getElem?_eq_getElem hi, this.int_inv]
            rfl
          · rw [List.getElem?_eq_none (by simp; omega), List.getElem?_eq_none (by simp; omega)]
        simp only [Conv.bytesToString, Sem.run_bind, hload w (fun _ _ => rfl), Result.andThen_ok]
        rw [← Array.forIn_toList, hcell]
        rw [run_pushes (fun q acc => by simp)]
        simp [bytesOf]
    · cases h
  · rename_i el _ _
    simp only [Option.bind_eq_some_iff] at h
    obtain ⟨de, hde, h⟩ := h
    have hue := H.und hde
    split at h
    · split at h
      · rename_i hsd
        cases h
        intro t h n k hk
        rcases asSlice_ok he hk with ⟨hv, hk⟩ | ⟨hv, hk⟩ | ⟨hv, hk⟩ | ⟨b, off, len, op, c, hv, hk⟩
        · exact absurd hk he
        · exact absurd hk he
        · exact absurd hk he
        · obtain ⟨cs, m, z, cl, hb, hk⟩ := blkCells_ok he hk
          refine ⟨_, _, _, hk, Nat.le_refl _, fun base Γ w act hgl R ht => ?_⟩
          have h1 := opG_ok hg ht; rw [hv] at h1
          obtain ⟨g', hg', hV⟩ := h1.slice_inv
          obtain ⟨o', ho1, ho2⟩ := R.blk b g' hg'
          rw [hb] at ho2
          cases ho2 with
          | cells _ _ _ _ Cs elem lo hi hc hf hcap =>
            have hsh : w.shape? g'.c = some (elem, Cs.size) := by simp [World.shape?, ho1]
            have hlo : (if lo == hi then (Cs.size, Cs.size + 1) else (min lo Cs.size, max hi (Cs.size + 1))).1 ≥ Cs.size := by
              rcases hf with ⟨rfl, rfl⟩ | ⟨_, hl⟩
              · simp
              · split
                · simp
                · simp; omega
            refine ⟨Γ, w.freeze { block := g'.c, off := Cs.size } 1, .value (act.eval x), act.eval x, Gam.ext_refl _ _, ?_, ?_, h1, .inl rfl⟩
            · have hheap : ∀ q, (w.freeze { block := g'.c, off := Cs.size } 1).heap[q]? = if g'.c = q then some (.cells Cs elem (if lo == hi then (Cs.size, Cs.size + 1) else (min lo Cs.size, max hi (Cs.size + 1)))) else w.heap[q]? := by
                intro q
                simp only [World.freeze, Nat.one_ne_zero, if_false, Array.getElem?_modify]
                split
                · rename_i hq; subst hq; rw [ho1]; rfl
                · rfl
              have hlive : ∀ q, live (hset h b (.cells cs m z false)) q → live h q := by
                intro q hq
                unfold live at *
                rw [hget_hset] at hq
                by_cases hbq : b = q
                · subst hbq; rw [hb]; simp
                · rwa [if_neg hbq] at hq
              refine ⟨R.os, R.tape, R.output, by simpa [World.freeze] using R.size, ?_, by simpa [World.freeze] using R.rng, R.fresh, ?_, fun p q gp gq hp hq => R.inj p q gp gq (hlive p hp) (hlive q hq)⟩
              · intro q hq
                rw [hheap, if_neg (by have := (R.rng b g' hg').1; omega)]
                exact R.old q hq
              · intro p gp hp
                obtain ⟨o'', hp1, hp2⟩ := R.blk p gp hp
                rw [hheap, hget_hset]
                by_cases hbp : b = p
                · subst hbp
                  rw [hg'] at hp; cases hp
                  rw [if_pos rfl, if_pos rfl]
                  exact ⟨_, rfl, .cells _ _ _ _ _ _ _ _ hc (.inr ⟨rfl, hlo⟩) hcap⟩
                · rw [if_neg hbp]
                  by_cases hcc : g'.c = gp.c
                  · by_cases hlp : live h p
                    · exact absurd (R.inj b p g' gp (by unfold live; rw [hb]; simp) hlp hg' hp hcc) hbp
                    · have hld : hget h p = .dead := Classical.not_not.mp hlp
                      rw [if_pos hcc]
                      exact ⟨_, rfl, by rw [hld]; exact .dead _⟩
                  · rw [if_neg hcc]
                    exact ⟨o'', hp1, hp2⟩
            · simp [execOp, ho, convert, run_underlying hus, run_underlying hud, hV, hsd, run_underlying hue, markStringish, hsh]
      · cases h
    · cases h
  · cases h
end
end Go.Ae
