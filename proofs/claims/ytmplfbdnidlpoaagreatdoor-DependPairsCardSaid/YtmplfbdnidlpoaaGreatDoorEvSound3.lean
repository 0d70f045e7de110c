/- Soundness: code, loops, calls, deferred calls. -/
import Derived.Test.YtmplfbdnidlpoaaGreatDoorEvSound2
namespace Go.Ev
noncomputable section
variable {K : KI}

section
variable {P : Program} {E : Env}

theorem opsS_cons {ops : Array Oper} {Q : Exit → Act → List Frame → World → Prop} {i n : Nat} {o : Oper} {a : Act} {cs : List Frame} {w : World} {nx : Next} {w' : World} (ho : ops[i]? = some o)
    (hw : Region.wanted o (yielded ops a.tmps) = true) (hr : (execOp a.eval o).run P w = .ok nx w') (hn : nx ≠ .recover)
    (h : o.upon P a (fun a' w' => wpOpsS P ops Q (List.range' (i + 1) n) a' cs w') (fun e a' w' => Q e a' cs w') (.ok nx w')) : wpOpsS P ops Q (List.range' i (n + 1)) a cs w := by
  simp only [List.range'_succ, wpOpsS, ho, hw, if_true, hr]
  cases nx <;> first | exact absurd rfl hn | exact h

theorem opsS_skip {ops : Array Oper} {Q : Exit → Act → List Frame → World → Prop} {i n : Nat} {o : Oper} {a : Act} {cs : List Frame} {w : World} (ho : ops[i]? = some o)
    (hw : Region.wanted o (yielded ops a.tmps) = false) (h : wpOpsS P ops Q (List.range' (i + 1) n) (a.put o.dst undef) cs w) : wpOpsS P ops Q (List.range' i (n + 1)) a cs w := by
  simp only [List.range'_succ, wpOpsS, ho, hw, Bool.false_eq_true, if_false]
  exact h

theorem stepRops_ok (hE : EnvOk P E) {ih : Task → Option Res} (hih : ∀ t r, ih t = some r → Ok0 P K t r) {all rest : List Oper} {s : St} {um : Option (AV × Bool)} {r : Res}
    (h : stepRops E ih all s um rest = some r) : Ok0 P K (.rops all rest s um) r := by
  intro B hB γ a w hS ops i hall hrest c₀ u cs hu
  cases rest with
  | nil =>
    simp only [stepRops] at h
    injection h with h; subst h
    simp only [List.length_nil, List.range'_zero, wpOpsS]
    exact ⟨.normal, s, um, γ, rfl, hS, trivial, u, rfl, hu⟩
  | cons o os =>
    obtain ⟨hg, hdrop⟩ := drop_get hrest
    subst hall
    have ho : ops[i]? = some o := by simpa using hg
    simp only [stepRops, ob_some] at h
    obtain ⟨b, hb, h⟩ := h
    have hw := wanted_ok hS.tm hb
    rw [List.length_cons]
    have next : ∀ {s' : St} {um' : Option (AV × Bool)} {γ' : G} {a' : Act} {w' : World} {u' : FrameMode}, ih (.rops ops.toList os s' um') = some r → StR B γ' s' a' w' → MdR B.ρ γ' um' u' →
        wpOpsS P ops (RQ B r c₀ cs) (List.range' (i + 1) os.length) a' ({ c₀ with mode := u' } :: cs) w' :=
      fun h1 h2 h3 => hih _ _ h1 B hB _ _ _ h2 ops (i + 1) rfl hdrop c₀ _ cs h3
    cases b with
    | false =>
      simp only [bc_false, ob_some] at h
      obtain ⟨s', hp, h⟩ := h
      exact opsS_skip ho hw (next h (hS.quiet tup0 hp) hu)
    | true =>
      simp only [bc_true] at h
      cases hk : kindOf E o.op <;> rw [hk] at h <;> simp only [ob_some] at h
      · obtain ⟨v, hv, s', hp, h⟩ := h
        obtain ⟨v', h1, h2⟩ := opQ_ok (P := P) hE hS.hp hS.tm hv
        refine opsS_cons ho hw h1 (by simp) ?_
        simp only [Oper.upon]
        exact next h (hS.quiet h2 hp) hu
      · obtain ⟨⟨v, obj⟩, hv, s', hp, h⟩ := h
        obtain ⟨v', obj', N, h1, h2⟩ := opB_ok (P := P) (w := w) hE hS.tm hv
        refine opsS_cons ho hw h1 (by simp) ?_
        simp only [Oper.upon]
        have hext := upd_ext hS.fresh ⟨w.heap.size, 0, N⟩
        have hS' := hS.after (γ' := upd γ s.nx ⟨w.heap.size, 0, N⟩) ⟨hext, h2.val _ hext (upd_same _ _ _), hS.hp.alloc hS.fresh (hS.up hB) (h2.obj _ hext (upd_same _ _ _)), upd_fresh hS.fresh _, Nat.le_succ _, Fr.alloc w obj', Old.upd _ _ _⟩ hp
        exact next h hS' (hu.ext hext)
      · obtain ⟨q, hq, h⟩ := h
        have hor := opC_ok (P := P) hE hS.hp hS.fresh (hS.up hB) hS.tm rfl rfl hq
        cases q with
        | val v hp nx =>
          simp only [stepRop, ob_some] at h
          obtain ⟨s', hp, h⟩ := h
          obtain ⟨v', w', γ', hr, l⟩ := hor
          rcases hr with hr | ⟨hr, rfl⟩
          · refine opsS_cons ho hw hr (by simp) ?_
            simp only [Oper.upon]; exact next h (hS.after l hp) (hu.ext l.ext)
          · refine opsS_cons ho hw hr (by simp) ?_
            simp only [Oper.upon]; exact next h (hS.after l hp) (hu.ext l.ext)
        | recover =>
          simp only [OpRR] at hor
          simp only [stepRop, ob_some] at h
          obtain ⟨s', hp, h⟩ := h
          simp only [List.range'_succ, wpOpsS, ho, hw, if_true, hor]
          cases um with
          | none =>
            simp only [MdR] at hu
            subst hu
            simp only [recoverD]
            exact next h (hS.quiet (.nilIface) hp) rfl
          | some p =>
            obtain ⟨v, c⟩ := p
            obtain ⟨v', rfl, hv⟩ := hu
            cases c with
            | false =>
              simp only [recoverD]
              exact next h (hS.quiet hv hp) ⟨v', rfl, hv⟩
            | true =>
              simp only [recoverD]
              exact next h (hS.quiet (.nilIface) hp) ⟨v', rfl, hv⟩
        | enter f args => simp [stepRop] at h
        | defer f args => simp [stepRop] at h
        | pan v => simp [stepRop] at h

theorem stepRcode_ok {ih : Task → Option Res} (hih : ∀ t r, ih t = some r → Ok0 P K t r) {c : Code} {s : St} {um : Option (AV × Bool)} {r : Res} (h : stepRcode ih s um c = some r) :
    Ok0 P K (.rcode c s um) r := by
  intro B hB γ a w hS c₀ cs hu
  have heta : ({ c₀ with mode := c₀.mode } : Frame) = c₀ := rfl
  cases c <;> simp only [stepRcode] at h <;> try (simp at h; done)
  case skip =>
    injection h with h; subst h
    exact wpS_of_wp (wp_skip ⟨_, _, _, γ, rfl, hS, trivial, c₀.mode, rfl, hu⟩)
  case region id ops draw =>
    cases draw with
    | true => simp at h
    | false =>
      simp only [bc_false] at h
      refine wpS_region ?_
      have := hih _ _ h B hB γ a w hS ops 0 rfl rfl c₀ c₀.mode cs hu
      rw [List.range_eq_range', ← Array.length_toList]
      exact this
  case seq x y =>
    simp only [ob_some] at h
    obtain ⟨r1, h1, h⟩ := h
    refine wpS_seq ?_
    intro b k hb hr
    obtain ⟨e, a', cs', w', hq, harr⟩ := hih _ _ h1 B hB γ a w hS c₀ cs hu b k hb hr
    refine ⟨e, a', cs', w', ?_, harr⟩
    obtain ⟨ae, s', um', γ', rfl, hS', hex, u', rfl, hu'⟩ := hq
    cases ae <;> cases e <;> simp only [ExR] at hex <;> simp only [rseqR] at h
    · exact hih _ _ h B hB γ' a' w' hS' { c₀ with mode := u' } cs hu'
    all_goals (injection h with h; subst h; exact ⟨_, s', um', γ', rfl, hS', hex, u', rfl, hu'⟩)
  case cond x p q =>
    simp only [ob_some, AV.bool?_some] at h
    obtain ⟨v, hv, t, rfl, h⟩ := h
    have hb := opnd_ok hS.tm hv
    generalize hx : a.eval x = x' at hb
    cases hb
    refine wpS_cond hx ?_
    cases t with
    | true => exact hih _ _ h B hB γ a w hS c₀ cs hu
    | false => exact hih _ _ h B hB γ a w hS c₀ cs hu
  case ret =>
    injection h with h; subst h
    exact wpS_of_wp (wp_ret ⟨_, _, _, γ, rfl, hS, trivial, c₀.mode, rfl, hu⟩)

theorem settle_ok {ρ : Nat → Value} {γ : G} {um : Option (AV × Bool)} {u : FrameMode} (h : MdR ρ γ um u) : MdR ρ γ ((settleA um).map fun v => (v, false)) (settle u) := by
  cases um with
  | none => simp only [MdR] at h; subst h; rfl
  | some p =>
    obtain ⟨v, b⟩ := p
    obtain ⟨v', rfl, hv⟩ := h
    cases b with
    | false => exact ⟨v', rfl, hv⟩
    | true => rfl

theorem stepLeave_ok (hE : EnvOk P E) {ih : Task → Option Res} (hih : ∀ t r, ih t = some r → Ok0 P K t r) {fn : Func} {tm : PT AV} {pan : Option AV} {hp : Heap} {nx : Nat} {df : List (AV × List AV)} {r : Res}
    (h : stepLeave E ih fn tm pan hp nx df = some r) : Ok0 P K (.leave fn tm df pan hp nx) r := by
  intro B hB γ a w nt hS u hu
  have hdf := hS.df
  cases df with
  | nil =>
    simp only at hdf
    generalize hds : a.defers = ds at hdf
    cases hdf
    cases pan with
    | none =>
      simp only [stepLeave, oc_none, ob_some] at h
      obtain ⟨vs, hvs, h⟩ := h
      injection h with h; subst h
      simp only [Option.map_none, MdR] at hu
      subst hu
      obtain ⟨v', h1, h2⟩ := results_ok (P := P) hE hS.hp hS.tm hvs
      exact ⟨v', h1, _, hp, nx, γ, rfl, h2, hS.hp, hS.fresh, hS.later⟩
    | some v =>
      simp only [stepLeave, oc_some] at h
      injection h with h; subst h
      obtain ⟨v', rfl, hv⟩ := hu
      exact ⟨v, hp, nx, γ, rfl, ⟨v', rfl, hv⟩, hS.hp, hS.fresh, hS.later⟩
  | cons d df =>
    simp only at hdf
    generalize hds : a.defers = ds at hdf
    cases hdf with
    | @cons _ d' _ ds' hd hdf =>
    simp only [stepLeave, ob_some, AV.func?_some] at h
    obtain ⟨⟨g, cap⟩, hdf1, gn, hgn, body, hbody, s0, hs0, r1, hr1, h⟩ := h
    obtain ⟨g', c, c', as', e1, e2, e3, rfl⟩ := hd
    rw [hdf1] at e1
    injection e1 with e1 e1'
    injection e1 with e1
    subst e1; subst e1'
    obtain ⟨hfn, hcf⟩ := hE.fns _ _ hgn
    have ha := e3.append e2
    have hune : u ≠ .run := by
      intro hh; subst hh
      cases pan <;> simp only [Option.map, MdR] at hu
      · cases hu
      · obtain ⟨_, hh, _⟩ := hu; cases hh
    refine leaves_cons hune (f := g) (args := ⟨as' ++ c'⟩) (by simpa [invoke] using hcf (⟨as'⟩ ++ ⟨c'⟩) w) ?_
    refine callsD_of_wpS hfn hbody fun c₀ cs hc₀ => ?_
    simp only [argsSt, og_some] at hs0
    obtain ⟨hle, hs0⟩ := hs0
    injection hs0 with hs0; subst hs0
    have hS0 : StR (B.at γ nx w) γ { tm := rowOf (d.2 ++ cap), nt := gn.ntmps, df := [], hp := hp, nx := nx } { tmps := (⟨as' ++ c'⟩ : Array Value) ++ Array.replicate (gn.ntmps - (⟨as' ++ c'⟩ : Array Value).size) undef, defers := [] } w :=
      ⟨TmR.args ha (ble_iff.1 hle), .nil, hS.hp, hS.fresh, Later.refl _⟩
    have hum : MdR B.ρ γ (oc none (fun v => some (v, false)) pan) c₀.mode := by
      rw [hc₀]
      cases pan <;> exact hu
    intro b k hb hro
    obtain ⟨e, a1, cs1, w1, hq, harr⟩ := hih _ _ hr1 (B.at γ nx w) (hS.good hB) γ _ w hS0 c₀ cs hum b k hb hro
    refine ⟨e, a1, cs1, w1, ?_, harr⟩
    obtain ⟨ae, s1, um1, γ1, rfl, hS1, hex, u1, rfl, hu1⟩ := hq
    simp only [leaveD, og_some, ob_some] at h
    obtain ⟨he, hdf0, vs, hvs, h⟩ := h
    have hfin : a1.defers = [] ∧ ∃ u', ({ c₀ with mode := u1 } :: cs : List Frame) = { c₀ with mode := u' } :: cs ∧ ∃ v, (results gn a1.tmps).run P w1 = .ok v w1 ∧
        Leaves P fn a.tmps (CallQ B r) ds' (settle u') w1 := by
      have hd0 : s1.df = [] := by simpa using hdf0
      have hd1 := hS1.df
      rw [hd0] at hd1
      generalize hdd : a1.defers = dd at hd1
      cases hd1
      obtain ⟨v', k1, _⟩ := results_ok (P := P) hE hS1.hp hS1.tm hvs
      refine ⟨rfl, u1, rfl, v', k1, ?_⟩
      have hext : Ext γ γ1 := hS1.later.ext
      have hT : TmR B.ρ γ1 tm nt { tmps := a.tmps, defers := ds' } := ⟨hS.tm.size, (hS.tm.ext hext).get⟩
      exact hih _ _ h B hB γ1 { tmps := a.tmps, defers := ds' } w1 nt ⟨hT, hdf.ext hext, hS1.hp, hS1.fresh, hS.later.at hS1.later⟩ (settle u1) (settle_ok hu1)
    cases ae <;> simp at he
    · cases e <;> simp only [ExR] at hex
      exact hfin
    · cases e <;> simp only [ExR] at hex
      exact hfin

theorem stepCall_ok (hE : EnvOk P E) (hS : SumOk P E K) {ih : Task → Option Res} (hih : ∀ t r, ih t = some r → Ok0 P K t r) {f : Nat} {args : List AV} {hp : Heap} {nx : Nat} {r : Res}
    (h : stepCall E ih f args hp nx = some r) : Ok0 P K (.call f args hp nx) r := by
  intro B hB hnx hR args' ha
  subst hnx
  unfold stepCall at h
  cases hs : E.sum f with
  | some g =>
    simp only [hs, oc_some] at h
    exact hS.sums f g hs B hB args hp r h hR args' ha
  | none =>
    simp only [hs, oc_none, ob_some] at h
    obtain ⟨fn, hfn, body, hbody, s, hs0, r1, hr1, h⟩ := h
    obtain ⟨hf1, _⟩ := hE.fns _ _ hfn
    simp only [argsSt, og_some] at hs0
    obtain ⟨hle, hs0⟩ := hs0
    injection hs0 with hs0; subst hs0
    refine calls_of_wp_defers hf1 hbody ?_
    have hS0 : StR B B.γ { tm := rowOf args, nt := fn.ntmps, df := [], hp := hp, nx := B.nx } { tmps := (⟨args'⟩ : Array Value) ++ Array.replicate (fn.ntmps - (⟨args'⟩ : Array Value).size) undef, defers := [] } B.w :=
      ⟨TmR.args ha (ble_iff.1 hle), .nil, hR, hB.fresh, Later.refl _⟩
    refine wp_mono (hih _ _ hr1 B hB _ _ _ hS0) fun e a w hq => ?_
    obtain ⟨ae, s1, γ1, rfl, hS1, hex⟩ := hq
    cases ae <;> simp only [leaveR] at h
    · cases e <;> simp only [ExR] at hex
      exact hih _ _ h B hB γ1 a w s1.nt ⟨hS1.tm, hS1.df, hS1.hp, hS1.fresh, hS1.later⟩ .returning rfl
    · simp at h
    · cases e <;> simp only [ExR] at hex
      exact hih _ _ h B hB γ1 a w s1.nt ⟨hS1.tm, hS1.df, hS1.hp, hS1.fresh, hS1.later⟩ .returning rfl
    · cases e <;> simp only [ExR] at hex
      obtain ⟨v', rfl, hv⟩ := hex
      exact hih _ _ h B hB γ1 a w s1.nt ⟨hS1.tm, hS1.df, hS1.hp, hS1.fresh, hS1.later⟩ _ ⟨v', rfl, hv⟩

/-- a region whose order is open: what is to be shown of it -/
def OkD (P : Program) (E : Env) (K : KI) (ih : Task → Option Res) : Prop :=
  ∀ (ops : Array Oper) (pl : List PI) (s : St) (r : Res), planOf E ops.toList = some pl → ih (.dops ops.toList pl s []) = some r →
    ∀ B, Good K B → ∀ γ a w, StR B γ s a w → wpAny P .any ops (CodeQ B r) ops.size (Array.replicate ops.size false) a w

theorem stepCode_ok (hE : EnvOk P E) {ih : Task → Option Res} (hih : ∀ t r, ih t = some r → Ok0 P K t r) (hD : OkD P E K ih) {c : Code} {s : St} {r : Res} (h : stepCode E ih s c = some r) :
    Ok0 P K (.code c s) r := by
  intro B hB γ a w hS
  cases c <;> simp only [stepCode] at h <;> try (simp at h; done)
  case skip => injection h with h; subst h; exact wp_skip ⟨_, _, γ, rfl, hS, trivial⟩
  case label => injection h with h; subst h; exact wp_label ⟨_, _, γ, rfl, hS, trivial⟩
  case region id ops draw =>
    cases draw with
    | true =>
      simp only [bc_true, ob_some] at h
      obtain ⟨pl, hpl, h⟩ := h
      refine wp_region_any hE.mixed ?_
      refine hD ops pl s r hpl h B hB γ a w.drew ?_
      exact ⟨hS.tm, hS.df, hS.hp.drew, hS.fresh, ⟨hS.later.ext, hS.later.old, hS.later.le, hS.later.fr.trans (Fr.drew w)⟩⟩
    | false =>
      simp only [bc_false] at h
      refine wp_region ?_
      have := hih _ _ h B hB γ a w hS ops 0 rfl rfl
      rw [List.range_eq_range', ← Array.length_toList]
      exact this
  case seq x y =>
    simp only [ob_some] at h
    obtain ⟨r1, h1, h⟩ := h
    refine wp_seq (wp_mono (hih _ _ h1 B hB γ a w hS) fun e a' w' hq => ?_)
    obtain ⟨ae, s', γ', rfl, hS', hex⟩ := hq
    cases ae <;> cases e <;> simp only [ExR] at hex <;> simp only [seqR] at h
    · exact hih _ _ h B hB γ' a' w' hS'
    all_goals (injection h with h; subst h; exact ⟨_, s', γ', rfl, hS', hex⟩)
  case cond x p q =>
    simp only [ob_some, AV.bool?_some] at h
    obtain ⟨v, hv, t, rfl, h⟩ := h
    have hb := opnd_ok hS.tm hv
    generalize hx : a.eval x = x' at hb
    cases hb
    refine wp_cond hx ?_
    cases t with
    | true => exact hih _ _ h B hB γ a w hS
    | false => exact hih _ _ h B hB γ a w hS
  case block id c =>
    simp only [ob_some] at h
    obtain ⟨r1, h1, h⟩ := h
    refine wp_block (wp_mono (hih _ _ h1 B hB γ a w hS) fun e a' w' hq => ?_)
    obtain ⟨ae, s', γ', rfl, hS', hex⟩ := hq
    cases ae <;> cases e <;> simp only [ExR] at hex <;> simp only [blockR] at h
    · injection h with h; subst h; exact ⟨_, s', γ', rfl, hS', hex⟩
    · rename_i i j
      subst hex
      injection h with h; subst h
      simp only [Exit.inBlock, bc_eq]
      by_cases hid : i = id
      · rw [if_pos hid]
        exact ⟨.normal, s', γ', by rw [if_pos (beq_iff.2 hid)], hS', trivial⟩
      · rw [if_neg hid]
        exact ⟨.exit i, s', γ', by rw [if_neg (fun hh => hid (beq_iff.1 hh))], hS', rfl⟩
    all_goals (injection h with h; subst h; exact ⟨_, s', γ', rfl, hS', hex⟩)
  case loop c => exact hih _ _ h B hB γ a w hS
  case exit id => injection h with h; subst h; exact wp_exit ⟨_, _, γ, rfl, hS, rfl⟩
  case ret => injection h with h; subst h; exact wp_ret ⟨_, _, γ, rfl, hS, trivial⟩

theorem exists_least (p : Nat → Prop) (h : ∃ n, p n) : ∃ n, p n ∧ ∀ m, p m → n ≤ m := by
  obtain ⟨n, hn⟩ := h
  induction n using Nat.strongRecOn with
  | _ n ih =>
    by_cases hc : ∃ m, m < n ∧ p m
    · obtain ⟨m, hm, hpm⟩ := hc; exact ih m hm hpm
    · refine ⟨n, hn, fun m hpm => ?_⟩
      rcases Nat.lt_or_ge m n with h | h
      · exact absurd ⟨m, h, hpm⟩ hc
      · exact h

open Classical in
/-- a loop, by the fuel that its run takes -/
theorem loop_ok {N : Nat} (hih : ∀ n, n < N → ∀ t r, (∃ c s, t = .code c s) → run E n t = some r → Ok0 P K t r) {c : Code} {s : St} {r : Res} (h : run E N (.loop c s) = some r) :
    Ok0 P K (.loop c s) r := by
  intro B hB γ a w hS
  let J : Nat → Act → World → Prop := fun n a w => n ≤ N ∧ ∃ s γ, run E n (.loop c s) = some r ∧ StR B γ s a w
  let μ : Act → World → Nat := fun a w => if h : ∃ n, J n a w then Classical.choose (exists_least _ h) else 0
  refine wp_loop (fun a w => ∃ n, J n a w) μ ⟨N, Nat.le_refl _, s, γ, h, hS⟩ ?_
  intro a w hI
  have hμ : μ a w = Classical.choose (exists_least _ hI) := dif_pos hI
  obtain ⟨hn, s, γ, hrun, hS⟩ := (Classical.choose_spec (exists_least _ hI)).1
  rw [← hμ] at hn hrun
  cases hm : μ a w with
  | zero => rw [hm] at hrun; simp [run] at hrun
  | succ n =>
    rw [hm] at hrun hn
    have hrun : ob (run E n (.code c s)) (loopR (run E n) c) = some r := hrun
    simp only [ob_some] at hrun
    obtain ⟨r1, h1, h2⟩ := hrun
    refine wp_mono (hih n (by omega) _ _ ⟨c, s, rfl⟩ h1 B hB γ a w hS) fun e a' w' hq => ?_
    obtain ⟨ae, s', γ', rfl, hS', hex⟩ := hq
    cases ae <;> cases e <;> simp only [ExR] at hex <;> simp only [loopR] at h2
    · have hJ : J n a' w' := ⟨by omega, s', γ', h2, hS'⟩
      refine ⟨⟨n, hJ⟩, ?_⟩
      have hex : ∃ n, J n a' w' := ⟨n, hJ⟩
      have : μ a' w' = Classical.choose (exists_least _ hex) := dif_pos hex
      rw [this]
      have := (Classical.choose_spec (exists_least _ hex)).2 n hJ
      omega
    all_goals (injection h2 with h2; subst h2; exact ⟨_, s', γ', rfl, hS', hex⟩)
end
end
end Go.Ev
