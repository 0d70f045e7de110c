/- Quiet operations of which some are known by a table of facts; code in a row. -/
import Derived.Test.YtmplfbdnidlpoaaGreatDoorEvSum
namespace Go.Ev
noncomputable section
variable {K : KI}

section
variable {P : Program} {E : Env} {B : Base} {γ : G} {s s' : St} {a : Act} {w : World}
def opT (E : Env) (H : Op → PT AV → Option AV) (op : Op) (tm : PT AV) (hp : Heap) : Option AV :=
  match opQ E op tm hp with
  | some v => some v
  | none => H op tm

def runH (E : Env) (H : Op → PT AV → Option AV) (all : List Oper) : List Oper → St → Option St
  | [], s => some s
  | o :: os, s => ob (wantedA all s.tm o) fun w => bc
      (ob (putD s o.dst (.tup [])) fun s' => runH E H all os s')
      (ob (opT E H o.op s.tm s.hp) fun v => ob (putD s o.dst v) fun s' => runH E H all os s') w

theorem runH_ok (hE : EnvOk P E) {H : Op → PT AV → Option AV} (hH : HOk P B.ρ w H) {ops : Array Oper} {Q : Exit → Act → World → Prop} {m : Nat} : ∀ (l : List Oper) (i : Nat) (s s' : St) (a : Act),
    runH E H ops.toList l s = some s' → (∀ (j : Nat) o, l[j]? = some o → ops[i + j]? = some o) → StR B γ s a w →
    (∀ a', StR B γ s' a' w → wpOps P ops Q (List.range' (i + l.length) m) a' w) → wpOps P ops Q (List.range' i (l.length + m)) a w
  | [], i, s, s', a, h, _, hS, hk => by
    simp only [runH] at h
    injection h with h; subst h
    simpa using hk a hS
  | o :: os, i, s, s', a, h, hl, hS, hk => by
    have ho : ops[i]? = some o := by simpa using hl 0 o rfl
    have hl2 : ∀ (j : Nat) x, os[j]? = some x → ops[i + 1 + j]? = some x := fun j x hx => by
      have := hl (j + 1) x (by simpa using hx)
      rwa [show i + (j + 1) = i + 1 + j by omega] at this
    have hlen : (o :: os).length + m = (os.length + m) + 1 := by simp; omega
    have hk2 : ∀ a', StR B γ s' a' w → wpOps P ops Q (List.range' (i + 1 + os.length) m) a' w := fun a' hS' => by
      have := hk a' hS'
      rwa [show i + (o :: os).length = i + 1 + os.length by simp; omega] at this
    simp only [runH, ob_some] at h
    obtain ⟨b, hb, h⟩ := h
    have hw := wanted_ok hS.tm hb
    rw [hlen]
    cases b with
    | false =>
      simp only [bc_false, ob_some] at h
      obtain ⟨s1, hp, h⟩ := h
      exact ops_skip ho hw (runH_ok hE hH os (i + 1) s1 s' _ h hl2 (hS.quiet tup0 hp) hk2)
    | true =>
      simp only [bc_true, ob_some] at h
      obtain ⟨v, hv, s1, hp, h⟩ := h
      have hval : ∃ v', (execOp a.eval o).run P w = .ok (.value v') w ∧ VR B.ρ γ v v' := by
        unfold opT at hv
        split at hv
        · rename_i u hu
          injection hv with hv; subst hv
          exact opQ_ok (P := P) hE hS.hp hS.tm hu
        · exact hH γ s.nt s.tm a o v hS.tm hv
      obtain ⟨v', h1, h2⟩ := hval
      refine ops_cons ho hw ?_
      simp only [Oper.wp, h1, Oper.upon]
      exact runH_ok hE hH os (i + 1) s1 s' _ h hl2 (hS.quiet h2 hp) hk2

/-- code in a row, before a last one -/
def nest : List Code → Code → Code
  | [], c => c
  | x :: xs, c => .seq x (nest xs c)

def runSeq (R : Task → Option Res) : List Code → St → Option Res
  | [], s => some (.code .normal s)
  | c :: cs, s => ob (R (.code c s)) fun
    | .code .normal s' => runSeq R cs s'
    | _ => none

theorem runSeq_ok (hE : EnvOk P E) (hSum : SumOk P E K) (hB : Good K B) {n : Nat} {c : Code} {Q : Exit → Act → World → Prop} : ∀ (l : List Code) (s s' : St) (γ : G) (a : Act) (w : World),
    runSeq (run E n) l s = some (.code .normal s') → StR B γ s a w → (∀ γ' a' w', StR B γ' s' a' w' → c.wp P Q a' w') → (nest l c).wp P Q a w
  | [], s, s', γ, a, w, h, hS, hk => by
    simp only [runSeq] at h
    injection h with h; injection h with _ h; subst h
    exact hk γ a w hS
  | x :: xs, s, s', γ, a, w, h, hS, hk => by
    simp only [runSeq, ob_some] at h
    obtain ⟨r, hr, h⟩ := h
    refine wp_seq (wp_mono (run_ok hE hSum n _ _ hr B hB γ a w hS) fun e a1 w1 hq => ?_)
    obtain ⟨ae, s1, γ1, rfl, hS1, hex⟩ := hq
    cases ae <;> simp only [] at h <;> try (simp at h; done)
    cases e <;> simp only [ExR] at hex
    exact runSeq_ok hE hSum hB xs s1 s' γ1 a1 w1 h hS1 hk
end
end
end Go.Ev
