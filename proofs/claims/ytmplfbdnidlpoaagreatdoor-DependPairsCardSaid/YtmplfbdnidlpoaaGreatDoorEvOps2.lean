/- Comparisons and arithmetic. -/
import Derived.Test.YtmplfbdnidlpoaaGreatDoorEvOps1
import Derived.Laws.Strings
import Derived.Laws.StructEq
import Derived.Laws.Concat
namespace Go.Ev
noncomputable section

theorem toBA_toList (s : List Nat) : (toBA s).toList = s.map UInt8.ofNat := by
  rw [Go.ByteArray.toList_eq]; rfl
theorem toBA_size (s : List Nat) : (toBA s).size = s.length := by
  show (List.toArray (s.map UInt8.ofNat)).size = _
  simp
theorem toBA_append (s t : List Nat) : toBA s ++ toBA t = toBA (s ++ t) := by
  apply ByteArray.ext
  rw [ByteArray.data_append]
  simp [toBA]

theorem ofNat_eq {a b : Nat} (ha : a < 256) (hb : b < 256) : UInt8.ofNat a = UInt8.ofNat b ↔ a = b := by
  constructor
  · intro h
    have := congrArg UInt8.toNat h
    simp [UInt8.toNat_ofNat'] at this
    omega
  · intro h; rw [h]
theorem eqBytes_eq : ∀ (s t : List Nat), (∀ x ∈ s, x < 256) → (∀ x ∈ t, x < 256) → (s.map UInt8.ofNat == t.map UInt8.ofNat) = eqBytes s t
  | [], [], _, _ => rfl
  | [], _ :: _, _, _ => rfl
  | _ :: _, [], _, _ => rfl
  | a :: s, b :: t, hs, ht => by
    have ih := eqBytes_eq s t (fun x hx => hs x (List.mem_cons_of_mem _ hx)) (fun x hx => ht x (List.mem_cons_of_mem _ hx))
    have h := ofNat_eq (hs a (List.mem_cons_self ..)) (ht b (List.mem_cons_self ..))
    simp only [List.map_cons, List.cons_beq_cons, eqBytes, bc_eq]
    rw [ih]
    by_cases hab : a = b
    · subst hab; simp
    · have h1 : (UInt8.ofNat a == UInt8.ofNat b) = false := by simpa using fun hh => hab (h.1 hh)
      have h2 : Nat.beq a b = false := by rw [Bool.eq_false_iff]; intro hh; exact hab (beq_iff.1 hh)
      simp [h1, h2]
theorem bytesLt_eq : ∀ (s t : List Nat), (∀ x ∈ s, x < 256) → (∀ x ∈ t, x < 256) → Op.bytesLess (s.map UInt8.ofNat) (t.map UInt8.ofNat) = bytesLt s t
  | [], [], _, _ => rfl
  | [], _ :: _, _, _ => rfl
  | _ :: _, [], _, _ => rfl
  | a :: s, b :: t, hs, ht => by
    have ih := bytesLt_eq s t (fun x hx => hs x (List.mem_cons_of_mem _ hx)) (fun x hx => ht x (List.mem_cons_of_mem _ hx))
    have ha := hs a (List.mem_cons_self ..)
    have hb := ht b (List.mem_cons_self ..)
    have h := ofNat_eq ha hb
    simp only [List.map_cons, Op.bytesLess, bytesLt, bc_eq, ih]
    have hlt : (UInt8.ofNat a < UInt8.ofNat b) ↔ a < b := by
      rw [UInt8.lt_iff_toNat_lt]; simp [UInt8.toNat_ofNat']; omega
    by_cases h1 : a < b
    · have e : Nat.ble (Nat.add a 1) b = true := ble_iff.2 h1
      simp [e, hlt.2 h1]
    · have e : Nat.ble (Nat.add a 1) b = false := by rw [Bool.eq_false_iff]; intro hh; exact h1 (ble_iff.1 hh)
      have e2 : decide (UInt8.ofNat a < UInt8.ofNat b) = false := by simpa using fun hh => h1 (hlt.1 hh)
      rw [e, e2]
      by_cases hab : a = b
      · subst hab; simp
      · have h1 : (UInt8.ofNat a == UInt8.ofNat b) = false := by simpa using fun hh => hab (h.1 hh)
        have h2 : Nat.beq a b = false := by rw [Bool.eq_false_iff]; intro hh; exact hab (beq_iff.1 hh)
        simp [h1, h2]

section
variable {P : Program} {E : Env} {ρ : Nat → Value} {γ : G} {w : World}

theorem part_ok (hE : EnvOk P E) {t : Nat} {ti : TyI} (hti : E.tys.get t = some ti) {as : List AV} {vs : List Value} (hv : VRs ρ γ as vs) {off : Nat} {p : AV}
    (h : asTy ti ((as.drop off).take ti.size) = some p) : ∃ v, (part t ⟨vs⟩ off).run P w = .ok v w ∧ VR ρ γ p v := by
  have ht := hE.tys t ti hti
  have h' := (hv.drop off).take ti.size
  rcases asTy_ok h h' with ⟨ha, hr⟩ | ⟨ha, u, hu, hr⟩
  · refine ⟨_, ?_, hr⟩
    simp only [part, Sem.run_bind, ht.run_isAgg, Result.andThen_ok, ha, if_true, ht.run_sizeOf, Sem.run_pure]
    congr 2
    apply Array.ext'
    simp only [Array.toList_extract]
    rw [List.extract_eq_take_drop]
    simp
  · refine ⟨u, ?_, hr⟩
    have : vs[off]? = some u := by
      have h0 : (List.take ti.size (List.drop off vs))[0]? = some u := by rw [hu]; rfl
      rw [List.getElem?_take] at h0
      split at h0
      · simpa using h0
      · simp at h0
    simp [part, ht.run_isAgg, ha, this]

theorem eqA_ok (hE : EnvOk P E) : ∀ (f t : Nat) (x y : AV) (c : Bool), eqA E f t x y = some c → ∀ (x' y' : Value), VR ρ γ x x' → VR ρ γ y y' →
    ∀ d, f ≤ d → (Op.equalIn d t x' y').run P w = .ok c w
  | 0, t, x, y, c, h, _, _, _, _, _, _ => by simp [eqA] at h
  | f + 1, t, x, y, c, h, x', y', hx, hy, d, hd => by
    obtain ⟨d, rfl⟩ : ∃ e, d = e + 1 := ⟨d - 1, by omega⟩
    simp only [eqA, ob_some] at h
    obtain ⟨ti, hti, h⟩ := h
    have ht := hE.tys t ti hti
    obtain ⟨td, hd1, hd2⟩ := ht.run_underlying
    split at h
    case h_22 => simp at h
    all_goals (rename_i hdd; rw [hdd] at hd1)
    case h_21 =>
      rename_i fs as bs hdd
      simp only [og_some] at h
      obtain ⟨heqs, h⟩ := h
      obtain ⟨h1, h2⟩ := ht.eqs heqs
      cases td <;> simp only [DOk] at hd1
      rename_i cfs
      subst hd1
      have hund : P.underlying t = some (.struct cfs) := by
        obtain ⟨d0, hd0, hok⟩ := ht.desc
        have := hd2 w
        simp [Go.underlying, hd0] at this
        rw [hd0, this]
      cases hx; cases hy
      rename_i xs hxs ys hys
      have hf : P.fieldsOf t = cfs := by simp [Program.fieldsOf, hund]
      rw [run_equalIn_struct w d t ⟨xs⟩ ⟨ys⟩ (by rw [hf]; exact hund) h2, hf]
      clear hf hund hd2 hdd hti ht
      generalize cfs.toList = l at h
      simp only [bc_eq] at h
      clear cfs
      induction l generalizing c with
      | nil => simp [Op.eqFields] at h ⊢; exact h
      | cons fd l ih =>
        simp only [List.map_cons, List.foldr_cons] at h
        simp only [Op.eqFields]
        by_cases hn : fd.name ≠ "_"
        · have hdn : decide (fd.name ≠ "_") = true := by simpa using hn
          simp only [hdn, if_true, ob_some] at h
          obtain ⟨fi, hfi, p, hp, q, hq, c1, hc1, hc⟩ := h
          rw [if_pos hn]
          obtain ⟨p', hp1, hp2⟩ := part_ok (w := w) hE hfi hxs hp
          obtain ⟨q', hq1, hq2⟩ := part_ok (w := w) hE hfi hys hq
          have ihe := eqA_ok hE f fd.type p q c1 hc1 p' q' hp2 hq2 d (by omega)
          simp only [Sem.run_bind, hp1, hq1, ihe, Result.andThen_ok]
          cases c1 with
          | true => simp only [if_true] at hc; simpa using ih c hc
          | false => simp only [Bool.false_eq_true, if_false] at hc; simp at hc; simp [hc]
        · have hdn : decide (fd.name ≠ "_") = false := by simpa using hn
          simp only [hdn, Bool.false_eq_true, if_false] at h
          rw [if_neg hn]
          exact ih c h
    all_goals (cases td <;> simp only [DOk] at hd1)
    all_goals (cases hx; cases hy)
    all_goals simp only [Op.equalIn, Sem.run_bind, hd2, Result.andThen_ok]
    all_goals first
      | (simp at h; subst h; simp; done)
      | skip
    · simp only [og_some, eqKind_eq, eqInt_eq, decide_eq_true_eq] at h
      obtain ⟨rfl, h⟩ := h
      injection h with h; subst h
      simp only [if_true, Sem.run_pure]
      congr 1
    · injection h with h; subst h
      simp only [Sem.run_pure]
      rw [beq_toListBytes, toBA_toList, toBA_toList, eqBytes_eq _ _ (by assumption) (by assumption)]

theorem eqGuard_run (op : BinOp) (t : TypeId) (x y : Operand) (a b : Value) (hn : a = .nilIface → b = .nilIface → (isConst x || isConst y) = true)
    (hg : ∀ cs ds, a = .agg cs → b = .agg ds → P.eqGuardType P.depth t = false) : (eqGuard op t x y a b).run P w = .ok () w := by
  unfold eqGuard
  split
  · simp only [Bool.not_true, Bool.false_eq_true, if_false]
    split
    · have h := hn rfl rfl
      cases x <;> cases y <;> first | rfl | simp [isConst] at h
    · simp [hg _ _ rfl rfl]
    · rfl
  · simp only [Bool.not_true, Bool.false_eq_true, if_false]
    split
    · have h := hn rfl rfl
      cases x <;> cases y <;> first | rfl | simp [isConst] at h
    · simp [hg _ _ rfl rfl]
    · rfl
  · rfl

theorem intBin_ok (op : BinOp) (t : TypeId) (k k' : IntKind) (a b : Int) (hk : isShift op = true ∨ k = k') {v : AV} (h : intBin op k a b = some v) :
    ∃ v', (binOp op t (.int k a) (.int k' b)).run P w = .ok v' w ∧ VR ρ γ v v' := by
  cases op <;> simp only [intBin, og_some, wrapA_eq, leInt_eq, ltInt_eq, eqInt_eq] at h
  case shl =>
    obtain ⟨hb, h⟩ := h
    injection h with h; subst h
    refine ⟨_, ?_, .int _ _⟩
    have hb' : ¬ b < 0 := by simpa using hb
    simp [binOp, Op.shift, hb']
  case shr =>
    obtain ⟨hb, h⟩ := h
    injection h with h; subst h
    refine ⟨_, ?_, .int _ _⟩
    have hb' : ¬ b < 0 := by simpa using hb
    simp [binOp, Op.shift, hb']
  all_goals (simp only [isShift, Bool.false_eq_true, false_or] at hk; subst hk)
  case quo =>
    obtain ⟨hb, h⟩ := h
    injection h with h; subst h
    have hb' : ¬ b = 0 := by simpa using hb
    exact ⟨_, by simp [binOp, Op.intDiv, hb'], .int _ _⟩
  case rem =>
    obtain ⟨hb, h⟩ := h
    injection h with h; subst h
    have hb' : ¬ b = 0 := by simpa using hb
    exact ⟨_, by simp [binOp, Op.intDiv, hb'], .int _ _⟩
  all_goals (injection h with h; subst h)
  case add => exact ⟨_, by simp [binOp, Op.intArith], .int _ _⟩
  case sub => exact ⟨_, by simp [binOp, Op.intArith], .int _ _⟩
  case mul => exact ⟨_, by simp [binOp, Op.intArith], .int _ _⟩
  case and => exact ⟨_, by simp [binOp, Op.intBits], .int _ _⟩
  case or => exact ⟨_, by simp [binOp, Op.intBits], .int _ _⟩
  case xor => exact ⟨_, by simp [binOp, Op.intBits], .int _ _⟩
  case andNot => exact ⟨_, by simp [binOp, Op.intBits], .int _ _⟩
  case eql => exact ⟨.bool (decide (a = b)), by simp [binOp, Op.intCmp]; rfl, .bool _⟩
  case neq => exact ⟨.bool (!decide (a = b)), by simp [binOp, Op.intCmp]; rfl, .bool _⟩
  case lss => exact ⟨_, by simp [binOp, Op.intCmp], .bool _⟩
  case leq => exact ⟨_, by simp [binOp, Op.intCmp], .bool _⟩
  case gtr => exact ⟨_, by simp [binOp, Op.intCmp], .bool _⟩
  case geq => exact ⟨_, by simp [binOp, Op.intCmp], .bool _⟩

theorem strBin_ok (op : BinOp) (t : TypeId) (a b : List Nat) (ha : ∀ x ∈ a, x < 256) (hb : ∀ x ∈ b, x < 256) {v : AV} (h : strBin op a b = some v) :
    ∃ v', (binOp op t (.string (toBA a)) (.string (toBA b))).run P w = .ok v' w ∧ VR ρ γ v v' := by
  have e := eqBytes_eq a b ha hb
  have l := bytesLt_eq a b ha hb
  cases op <;> simp only [strBin, og_some] at h <;> try (simp at h; done)
  case add =>
    obtain ⟨hl, h⟩ := h
    injection h with h; subst h
    have hl := ble_iff.1 hl
    simp only [Nat.add_eq] at hl
    refine ⟨.string (toBA (a ++ b)), ?_, .str _ (fun x hx => (List.mem_append.1 hx).elim (ha x) (hb x))⟩
    have : binOp .add t (.string (toBA a)) (.string (toBA b)) = Op.stringOp .add (toBA a) (toBA b) := by simp [binOp]
    rw [this, run_string_add_sum _ _ _ (by rw [toBA_size, toBA_size]; omega), toBA_append]
  all_goals (injection h with h; subst h)
  all_goals refine ⟨_, ?_, .bool _⟩
  all_goals simp [binOp, Op.stringOp, toBA_toList, e, l]

theorem binA_ok (hE : EnvOk P E) (op : BinOp) (t : TypeId) (xo yo : Operand) {x y v : AV} (h : binA E op t (isConst xo || isConst yo) x y = some v) {x' y' : Value}
    (hx : VR ρ γ x x') (hy : VR ρ γ y y') : ∃ v', (do eqGuard op t xo yo x' y'; binOp op t x' y' : Sem Value).run P w = .ok v' w ∧ VR ρ γ v v' := by
  unfold binA at h
  split at h
  · rename_i k a k' b
    simp only [og_some, Bool.or_eq_true, eqKind_eq, decide_eq_true_eq] at h
    cases hx; cases hy
    obtain ⟨v', h1, h2⟩ := intBin_ok (P := P) (ρ := ρ) (γ := γ) (w := w) op t k k' a b h.1 h.2
    refine ⟨v', ?_, h2⟩
    rw [Sem.run_bind, eqGuard_run _ _ _ _ _ _ (by simp) (by simp)]
    exact h1
  · rename_i a b
    cases hx; cases hy
    obtain ⟨v', h1, h2⟩ := strBin_ok (P := P) (ρ := ρ) (γ := γ) (w := w) op t a b (by assumption) (by assumption) h
    refine ⟨v', ?_, h2⟩
    rw [Sem.run_bind, eqGuard_run _ _ _ _ _ _ (by simp) (by simp)]
    exact h1
  · rename_i hni hns
    simp only [og_some, ob_some] at h
    obtain ⟨hn, c, hc, hop⟩ := h
    have heq := eqA_ok (w := w) hE 20 t x y c hc x' y' hx hy Op.maxDepth (by decide)
    have hxo : ∀ k, x ≠ .opq k := by
      intro k hk; subst hk
      rw [show (20 : Nat) = 19 + 1 from rfl, eqA, ob_some] at hc
      obtain ⟨_, _, hc⟩ := hc
      split at hc <;> simp at hc <;> simp_all
    have hyo : ∀ k, y ≠ .opq k := by
      intro k hk; subst hk
      rw [show (20 : Nat) = 19 + 1 from rfl, eqA, ob_some] at hc
      obtain ⟨_, _, hc⟩ := hc
      split at hc <;> simp at hc <;> simp_all
    have hguard : (eqGuard op t xo yo x' y').run P w = .ok () w := by
      apply eqGuard_run
      · intro h1 h2
        rw [Bool.or_eq_true] at hn
        rcases hn with hn | hn
        · exfalso
          cases hx <;> first | (simp at h1; done) | skip
          case opq k => exact hxo k rfl
          case nilIface =>
            cases hy <;> first | (simp at h2; done) | skip
            case opq k => exact hyo k rfl
            case nilIface => simp [isNilIface] at hn
        · exact hn
      · intro cs ds h1 h2
        rw [show (20 : Nat) = 19 + 1 from rfl, eqA, ob_some] at hc
        obtain ⟨ti, hti, hc⟩ := hc
        have ht := hE.tys t ti hti
        cases hx <;> first | (simp at h1; done) | skip
        case opq k => exact absurd rfl (hxo k)
        case agg =>
          cases hy <;> first | (simp at h2; done) | skip
          case opq k => exact absurd rfl (hyo k)
          case agg =>
            split at hc <;> try (simp at *; done)
            simp only [og_some] at hc
            exact (ht.eqs hc.1).1
    have he : op = .eql ∨ op = .neq := by cases op <;> simp [eqOp] at hop <;> simp
    have hb1 : binOp .eql t x' y' = (do pure (.bool (← Op.equal t x' y'))) := by
      cases hx <;> cases hy <;> first | rfl | exact absurd rfl (hxo _) | exact absurd rfl (hyo _) | exact (hni _ _ _ _ rfl rfl).elim | exact (hns _ _ rfl rfl).elim
    have hb2 : binOp .neq t x' y' = (do pure (.bool (!(← Op.equal t x' y')))) := by
      cases hx <;> cases hy <;> first | rfl | exact absurd rfl (hxo _) | exact absurd rfl (hyo _) | exact (hni _ _ _ _ rfl rfl).elim | exact (hns _ _ rfl rfl).elim
    rcases he with rfl | rfl
    · simp only [eqOp] at hop; injection hop with hop; subst hop
      exact ⟨.bool c, by rw [Sem.run_bind, hguard, Result.andThen_ok, hb1]; simp [Op.equal, heq], .bool _⟩
    · simp only [eqOp] at hop; injection hop with hop; subst hop
      exact ⟨.bool (!c), by rw [Sem.run_bind, hguard, Result.andThen_ok, hb2]; simp [Op.equal, heq], .bool _⟩
end
end
end Go.Ev
