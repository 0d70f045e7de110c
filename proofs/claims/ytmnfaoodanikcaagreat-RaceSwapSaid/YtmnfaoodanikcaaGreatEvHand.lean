/- Quiet operations of which some are known by a table of facts; states that are made less. -/
import Derived.Test.YtmnfaoodanikcaaGreatEvShift
namespace Go.Ev
noncomputable section
variable {K : KI}

/-- only clean objects -/
def purge : Heap → Heap
  | .nil => .nil
  | .node l v r => .node (purge l) (match v with
    | none => none
    | some o => if cleanObj o then some o else none) (purge r)
theorem get_purge : ∀ {t : Heap} {k : Nat} {o : AObj}, (purge t).get k = some o → t.get k = some o
  | .nil, k, o, h => by simp [purge] at h
  | .node l v r, k, o, h => by
    simp only [purge, PT.get_node] at h ⊢
    split
    · rename_i h0
      rw [if_pos h0] at h
      cases v with
      | none => simp at h
      | some x =>
        simp only at h
        split at h
        · exact h
        · simp at h
    · rename_i h0
      rw [if_neg h0] at h
      split
      · rename_i h1; rw [if_pos h1] at h; exact get_purge h
      · rename_i h1; rw [if_neg h1] at h; exact get_purge h

/-- only clean values -/
def purgeTm : PT AV → PT AV
  | .nil => .nil
  | .node l v r => .node (purgeTm l) (match v with
    | none => none
    | some o => if clean o then some o else none) (purgeTm r)
theorem get_purgeTm : ∀ {t : PT AV} {k : Nat} {o : AV}, (purgeTm t).get k = some o → t.get k = some o
  | .nil, k, o, h => by simp [purgeTm] at h
  | .node l v r, k, o, h => by
    simp only [purgeTm, PT.get_node] at h ⊢
    split
    · rename_i h0
      rw [if_pos h0] at h
      cases v with
      | none => simp at h
      | some x =>
        simp only at h
        split at h
        · exact h
        · simp at h
    · rename_i h0
      rw [if_neg h0] at h
      split
      · rename_i h1; rw [if_pos h1] at h; exact get_purgeTm h
      · rename_i h1; rw [if_neg h1] at h; exact get_purgeTm h

theorem purge_clean : ∀ {t : Heap} {k : Nat} {o : AObj}, (purge t).get k = some o → cleanObj o = true
  | .nil, k, o, h => by simp [purge] at h
  | .node l v r, k, o, h => by
    simp only [purge, PT.get_node] at h
    split at h
    · cases v with
      | none => simp at h
      | some x =>
        simp only at h
        split at h
        · rename_i hc; injection h with h; subst h; exact hc
        · simp at h
    · split at h
      · exact purge_clean h
      · exact purge_clean h
theorem purgeTm_clean : ∀ {t : PT AV} {k : Nat} {o : AV}, (purgeTm t).get k = some o → clean o = true
  | .nil, k, o, h => by simp [purgeTm] at h
  | .node l v r, k, o, h => by
    simp only [purgeTm, PT.get_node] at h
    split at h
    · cases v with
      | none => simp at h
      | some x =>
        simp only at h
        split at h
        · rename_i hc; injection h with h; subst h; exact hc
        · simp at h
    · split at h
      · exact purgeTm_clean h
      · exact purgeTm_clean h

def pure1 (s : St) : St := { s with tm := purgeTm s.tm, hp := purge s.hp }

/-- slots of one trie stand in another -/
def subTm : PT AV → PT AV → Bool
  | .nil, _ => true
  | .node l v r, .node l' v' r' => (match v, v' with
      | none, _ => true
      | some a, some b => sameAV a b
      | _, _ => false) && (subTm l l' && subTm r r')
  | .node _ _ _, .nil => false
theorem subTm_ok : ∀ {a b : PT AV}, subTm a b = true → ∀ k o, a.get k = some o → b.get k = some o
  | .nil, _, _, k, o, h => by simp at h
  | .node _ _ _, .nil, h, _, _, _ => by simp [subTm] at h
  | .node l v r, .node l' v' r', h, k, o, hk => by
    simp only [subTm, Bool.and_eq_true] at h
    obtain ⟨h1, h2, h3⟩ := h
    rw [PT.get_node] at hk ⊢
    split
    · rename_i h0
      rw [if_pos h0] at hk
      subst hk
      cases v' with
      | none => simp at h1
      | some b => rw [sameAV_eq h1]
    · rename_i h0
      rw [if_neg h0] at hk
      split
      · rename_i h4; rw [if_pos h4] at hk; exact subTm_ok h2 _ _ hk
      · rename_i h4; rw [if_neg h4] at hk; exact subTm_ok h3 _ _ hk

section
variable {P : Program} {E : Env} {B : Base} {γ : G} {s s' : St} {a : Act} {w : World}

theorem StR.less (h : StR B γ s a w) (h1 : ∀ t v, s'.tm.get t = some v → s.tm.get t = some v) (h2 : s'.nt = s.nt) (h3 : s'.df = s.df) (h4 : ∀ b o, s'.hp.get b = some o → s.hp.get b = some o) (h5 : s'.nx = s.nx) :
    StR B γ s' a w :=
  ⟨⟨by rw [h2]; exact h.tm.size, fun t v ht => h.tm.get t v (h1 t v ht)⟩, by rw [h3]; exact h.df, h.hp.weaken h4, by rw [h5]; exact h.fresh, by rw [h5]; exact h.later⟩

theorem StR.pure1 (h : StR B γ s a w) : StR B γ (Go.Ev.pure1 s) a w := h.less (fun _ _ => get_purgeTm) rfl rfl (fun _ _ => get_purge) rfl

/-- another naming of opaque values -/
def Base.named (B : Base) (ρ : Nat → Value) : Base := { B with ρ := ρ }

/-- a state that comes back, under another naming -/
theorem StR.shift {ρ₀ ρ₁ ρ : Nat → Value} {γ' : G} {a₀ : Act} {w₀ : World} (e : Ext γ γ') (h0 : ρ₀ 0 = ρ 0) (h1 : ρ₁ 0 = ρ 0) (hct : ∀ t v, s.tm.get t = some v → clean v = true) (hst : ∀ t v, s.tm.get t = some v → s'.tm.get t = some v) (hch : ∀ b o, s.hp.get b = some o → cleanObj o = true)
    (hsh : ∀ b o, s.hp.get b = some o → s'.hp.get b = some o) (hnt : s'.nt = s.nt) (hdf : s.df = []) (hdf' : s'.df = []) (k0 : StR (B.named ρ₀) γ s a₀ w₀) (k : StR (B.named ρ₁) γ' s' a w) : StR (B.named ρ) γ s a w := by
  refine ⟨⟨by rw [← hnt]; exact k.tm.size, fun t v ht => ?_⟩, ?_, HR.shift e h0 h1 hch hsh k0.hp k.hp, k0.fresh, ⟨k0.later.ext, k0.later.old, k0.later.le, k.later.fr⟩⟩
  · obtain ⟨v₀, _, b⟩ := k0.tm.get t v ht
    obtain ⟨v', c, d⟩ := k.tm.get t v (hst t v ht)
    exact ⟨v', c, VR.shift e h0 h1 (hct t v ht) b d⟩
  · have := k.df
    rw [hdf'] at this
    generalize hds : a.defers = ds at this
    cases this
    rw [hdf]; exact .nil

/-- another naming, of a state that is clean -/
theorem StR.rename {ρ₁ ρ : Nat → Value} (h1 : ρ₁ 0 = ρ 0) (hct : ∀ t v, s.tm.get t = some v → clean v = true) (hch : ∀ b o, s.hp.get b = some o → cleanObj o = true) (hdf : s.df = [])
    (k : StR (B.named ρ₁) γ s a w) : StR (B.named ρ) γ s a w :=
  StR.shift (ρ₀ := ρ₁) (ρ₁ := ρ₁) (Ext.refl _) h1 h1 hct (fun _ _ h => h) hch (fun _ _ h => h) rfl hdf hdf k k

/-! quiet operations, some by a table -/

def opH (E : Env) (H : Op → PT AV → Option AV) (op : Op) (tm : PT AV) (hp : Heap) : Option AV :=
  match opQ E op tm hp with
  | some v => some v
  | none => H op tm

def runH (E : Env) (H : Op → PT AV → Option AV) (all : List Oper) : List Oper → St → Option St
  | [], s => some s
  | o :: os, s => ob (wantedA all s.tm o) fun w => bc
      (ob (putD s o.dst (.tup [])) fun s' => runH E H all os s')
      (ob (opH E H o.op s.tm s.hp) fun v => ob (putD s o.dst v) fun s' => runH E H all os s') w

/-- the table is right, in this world -/
def HOk (P : Program) (ρ : Nat → Value) (w : World) (H : Op → PT AV → Option AV) : Prop :=
  ∀ (γ : G) (nt : Nat) (tm : PT AV) (a : Act) (o : Oper) (v : AV), TmR ρ γ tm nt a → H o.op tm = some v → ∃ v', (execOp a.eval o).run P w = .ok (.value v') w ∧ VR ρ γ v v'

theorem runH_ok (hE : EnvOk P E) {H : Op → PT AV → Option AV} (hH : HOk P B.ρ w H) {ops : Array Oper} {Q : Exit → Act → World → Prop} {m : Nat} : ∀ (l : List Oper) (i : Nat) (s s' : St) (a : Act),
    runH E H ops.toList l s = some s' → (∀ (j : Nat) o, l[j]? = some o → ops[i + j]? = some o) → StR B γ s a w →
    (∀ a', StR B γ s' a' w → wpOps P ops Q (List.range' (i + l.length) m) a' w) → wpOps P ops Q (List.range' i (l.length + m)) a w
  | [], i, s, s', a, h, _, hS, hk => by
    simp only [runH] at h
    injection h with h; subst h
    simpa using hk a hS
  | o :: os, i, s, s', a, h, hl, hS, hk => by
    have ho : ops[i]? = some o := by simpa using hl 0 o rfl
    have hl2 : ∀ (j : Nat) x, os[j]? = some x → ops[i + 1 + j]? = some x := fun j x hx => by
      have := hl (j + 1) x (by simpa using hx)
      rwa [show i + (j + 1) = i + 1 + j by omega] at this
    have hlen : (o :: os).length + m = (os.length + m) + 1 := by simp; omega
    have hk2 : ∀ a', StR B γ s' a' w → wpOps P ops Q (List.range' (i + 1 + os.length) m) a' w := fun a' hS' => by
      have := hk a' hS'
      rwa [show i + (o :: os).length = i + 1 + os.length by simp; omega] at this
    simp only [runH, ob_some] at h
    obtain ⟨b, hb, h⟩ := h
    have hw := wanted_ok hS.tm hb
    rw [hlen]
    cases b with
    | false =>
      simp only [bc_false, ob_some] at h
      obtain ⟨s1, hp, h⟩ := h
      exact ops_skip ho hw (runH_ok hE hH os (i + 1) s1 s' _ h hl2 (hS.quiet tup0 hp) hk2)
    | true =>
      simp only [bc_true, ob_some] at h
      obtain ⟨v, hv, s1, hp, h⟩ := h
      have hval : ∃ v', (execOp a.eval o).run P w = .ok (.value v') w ∧ VR B.ρ γ v v' := by
        unfold opH at hv
        split at hv
        · rename_i u hu
          injection hv with hv; subst hv
          exact opQ_ok (P := P) hE hS.hp hS.tm hu
        · exact hH γ s.nt s.tm a o v hS.tm hv
      obtain ⟨v', h1, h2⟩ := hval
      refine ops_cons ho hw ?_
      simp only [Oper.wp, h1, Oper.upon]
      exact runH_ok hE hH os (i + 1) s1 s' _ h hl2 (hS.quiet h2 hp) hk2

/-- code in a row, before a last one -/
def nest : List Code → Code → Code
  | [], c => c
  | x :: xs, c => .seq x (nest xs c)

def runSeq (E : Env) (n : Nat) : List Code → St → Option Res
  | [], s => some (.code .normal s)
  | c :: cs, s => ob (run E n (.code c s)) fun
    | .code .normal s' => runSeq E n cs s'
    | _ => none

theorem runSeq_ok (hE : EnvOk P E) (hSum : SumOk P E K) (hB : Good K B) {n : Nat} {c : Code} {Q : Exit → Act → World → Prop} : ∀ (l : List Code) (s s' : St) (γ : G) (a : Act) (w : World),
    runSeq E n l s = some (.code .normal s') → StR B γ s a w → (∀ γ' a' w', StR B γ' s' a' w' → c.wp P Q a' w') → (nest l c).wp P Q a w
  | [], s, s', γ, a, w, h, hS, hk => by
    simp only [runSeq] at h
    injection h with h; injection h with _ h; subst h
    exact hk γ a w hS
  | x :: xs, s, s', γ, a, w, h, hS, hk => by
    simp only [runSeq, ob_some] at h
    obtain ⟨r, hr, h⟩ := h
    refine wp_seq (wp_mono (run_ok hE hSum n _ _ hr B hB γ a w hS) fun e a1 w1 hq => ?_)
    obtain ⟨ae, s1, γ1, rfl, hS1, hex⟩ := hq
    cases ae <;> simp only [] at h <;> try (simp at h; done)
    cases e <;> simp only [ExR] at hex
    exact runSeq_ok hE hSum hB xs s1 s' γ1 a1 w1 h hS1 hk
end
end
end Go.Ev
