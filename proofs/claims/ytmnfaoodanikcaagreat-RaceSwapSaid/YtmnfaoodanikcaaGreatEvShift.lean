/- A state that comes back: what a loop's round leaves stands to the elder blocks as before. -/
import Derived.Test.YtmnfaoodanikcaaGreatEvSum
namespace Go.Ev
noncomputable section

mutual
/-- no opaque value but the first is named -/
def clean : AV → Bool
  | .opq k => Nat.beq k 0
  | .func _ c => cleans c
  | .iface _ v => clean v
  | .agg c => cleans c
  | .tup c => cleans c
  | _ => true
def cleans : List AV → Bool
  | [] => true
  | a :: as => clean a && cleans as
end

section
variable {ρ ρ₀ ρ' : Nat → Value} {γ γ' : G}
mutual
theorem VR.shift (e : Ext γ γ') (h0 : ρ₀ 0 = ρ 0) (h1 : ρ' 0 = ρ 0) : ∀ {a : AV} {v₀ v : Value}, clean a = true → VR ρ₀ γ a v₀ → VR ρ' γ' a v → VR ρ γ a v
  | .bool _, _, _, _, _, h => by cases h; exact .bool _
  | .int _ _, _, _, _, _, h => by cases h; exact .int _ _
  | .str _, _, _, _, _, h => by cases h with | str _ k => exact .str _ k
  | .nilPtr, _, _, _, _, h => by cases h; exact .nilPtr
  | .ptr _ _, _, _, _, h2, h => by
    cases h2 with
    | ptr _ _ g hg =>
      cases h with
      | ptr _ _ g' hg' =>
        have := e _ _ hg
        rw [hg'] at this; injection this with this; subst this
        exact .ptr _ _ _ hg
  | .nilSlice, _, _, _, _, h => by cases h; exact .nilSlice
  | .slice _ _ _ _, _, _, _, h2, h => by
    cases h2 with
    | slice _ _ _ _ o g hg =>
      cases h with
      | slice _ _ _ _ o' g' hg' k1 k2 =>
        have := e _ _ hg
        rw [hg'] at this; injection this with this; subst this
        exact .slice _ _ _ _ _ _ hg k1 k2
  | .oslice _ _ _ _, _, _, _, h2, h => by
    cases h2 with
    | oslice _ _ _ _ c o g hg =>
      cases h with
      | oslice _ _ _ _ c' o' g' hg' k1 k2 k3 =>
        have := e _ _ hg
        rw [hg'] at this; injection this with this; subst this
        exact .oslice _ _ _ _ _ _ _ hg k1 k2 k3
  | .nilMap, _, _, _, _, h => by cases h; exact .nilMap
  | .map _, _, _, _, h2, h => by
    cases h2 with
    | map _ g hg =>
      cases h with
      | map _ g' hg' =>
        have := e _ _ hg
        rw [hg'] at this; injection this with this; subst this
        exact .map _ _ hg
  | .func _ _, _, _, hc, h2, h => by
    cases h2 with
    | func _ _ c hc2 =>
      cases h with
      | func _ _ c' hc' => exact .func _ _ _ (VRs.shift e h0 h1 (by simpa [clean] using hc) hc2 hc')
  | .nilFunc, _, _, _, _, h => by cases h; exact .nilFunc
  | .iface _ _, _, _, hc, h2, h => by
    cases h2 with
    | iface _ _ c hc2 =>
      cases h with
      | iface _ _ c' hc' => exact .iface _ _ _ (VR.shift e h0 h1 (by simpa [clean] using hc) hc2 hc')
  | .nilIface, _, _, _, _, h => by cases h; exact .nilIface
  | .agg _, _, _, hc, h2, h => by
    cases h2 with
    | agg _ c hc2 =>
      cases h with
      | agg _ c' hc' => exact .agg _ _ (VRs.shift e h0 h1 (by simpa [clean] using hc) hc2 hc')
  | .tup _, _, _, hc, h2, h => by
    cases h2 with
    | tup _ c hc2 =>
      cases h with
      | tup _ c' hc' => exact .tup _ _ (VRs.shift e h0 h1 (by simpa [clean] using hc) hc2 hc')
  | .opq k, _, _, hc, _, h => by
    have hk : k = 0 := beq_iff.1 (by simpa only [clean] using hc)
    subst hk
    cases h
    rw [h1]; exact .opq 0
theorem VRs.shift (e : Ext γ γ') (h0 : ρ₀ 0 = ρ 0) (h1 : ρ' 0 = ρ 0) : ∀ {as : List AV} {vs₀ vs : List Value}, cleans as = true → VRs ρ₀ γ as vs₀ → VRs ρ' γ' as vs → VRs ρ γ as vs
  | [], _, _, _, _, h => by cases h; exact .nil
  | a :: as, _, _, hc, h2, h => by
    simp only [cleans, Bool.and_eq_true] at hc
    cases h2 with
    | cons _ _ _ _ k1 k2 =>
      cases h with
      | cons _ _ _ _ l1 l2 => exact .cons _ _ _ _ (VR.shift e h0 h1 hc.1 k1 l1) (VRs.shift e h0 h1 hc.2 k2 l2)
end
end

/-! sameness of memory, and cleanness of it -/

def samePT : PT AV → PT AV → Bool
  | .nil, .nil => true
  | .node l v r, .node l' v' r' => (match v, v' with
      | none, none => true
      | some a, some b => sameAV a b
      | _, _ => false) && (samePT l l' && samePT r r')
  | _, _ => false
theorem samePT_eq : ∀ {a b : PT AV}, samePT a b = true → a = b
  | .nil, .nil, _ => rfl
  | .nil, .node _ _ _, h => by simp [samePT] at h
  | .node _ _ _, .nil, h => by simp [samePT] at h
  | .node l v r, .node l' v' r', h => by
    simp only [samePT, Bool.and_eq_true] at h
    obtain ⟨h1, h2, h3⟩ := h
    rw [samePT_eq h2, samePT_eq h3]
    cases v <;> cases v' <;> simp at h1
    · rfl
    · rw [sameAV_eq h1]

def sameEs : List (AV × AV × Nat) → List (AV × AV × Nat) → Bool
  | [], [] => true
  | a :: as, b :: bs => sameAV a.1 b.1 && (sameAV a.2.1 b.2.1 && (Nat.beq a.2.2 b.2.2 && sameEs as bs))
  | _, _ => false
theorem sameEs_eq : ∀ {a b : List (AV × AV × Nat)}, sameEs a b = true → a = b
  | [], [], _ => rfl
  | [], _ :: _, h => by simp [sameEs] at h
  | _ :: _, [], h => by simp [sameEs] at h
  | (x, y, z) :: as, (x', y', z') :: bs, h => by
    simp only [sameEs, Bool.and_eq_true] at h
    obtain ⟨h1, h2, h3, h4⟩ := h
    rw [sameAV_eq h1, sameAV_eq h2, beq_iff.1 h3, sameEs_eq h4]

def sameObj : AObj → AObj → Bool
  | .cells t z n, .cells t' z' n' => samePT t t' && (sameAVs z z' && Nat.beq n n')
  | .map es c, .map es' c' => sameEs es es' && Nat.beq c c'
  | _, _ => false
theorem sameObj_eq {a b : AObj} (h : sameObj a b = true) : a = b := by
  cases a <;> cases b <;> simp only [sameObj, Bool.and_eq_true] at h <;> try (simp at h; done)
  · rw [samePT_eq h.1, sameAVs_eq h.2.1, beq_iff.1 h.2.2]
  · rw [sameEs_eq h.1, beq_iff.1 h.2]

def subHeap : Heap → Heap → Bool
  | .nil, _ => true
  | .node l v r, .node l' v' r' => (match v, v' with
      | none, _ => true
      | some a, some b => sameObj a b
      | _, _ => false) && (subHeap l l' && subHeap r r')
  | .node _ _ _, .nil => false
theorem subHeap_ok : ∀ {a b : Heap}, subHeap a b = true → ∀ k o, a.get k = some o → b.get k = some o
  | .nil, _, _, k, o, h => by simp at h
  | .node _ _ _, .nil, h, _, _, _ => by simp [subHeap] at h
  | .node l v r, .node l' v' r', h, k, o, hk => by
    simp only [subHeap, Bool.and_eq_true] at h
    obtain ⟨h1, h2, h3⟩ := h
    rw [PT.get_node] at hk ⊢
    split
    · rename_i h0
      rw [if_pos h0] at hk
      subst hk
      cases v' with
      | none => simp at h1
      | some b => rw [sameObj_eq h1]
    · rename_i h0
      rw [if_neg h0] at hk
      split
      · rename_i h4; rw [if_pos h4] at hk; exact subHeap_ok h2 _ _ hk
      · rename_i h4; rw [if_neg h4] at hk; exact subHeap_ok h3 _ _ hk

def cleanPT : PT AV → Bool
  | .nil => true
  | .node l v r => (match v with
    | none => true
    | some a => clean a) && (cleanPT l && cleanPT r)
theorem cleanPT_ok : ∀ {t : PT AV}, cleanPT t = true → ∀ k a, t.get k = some a → clean a = true
  | .nil, _, k, a, h => by simp at h
  | .node l v r, h, k, a, hk => by
    simp only [cleanPT, Bool.and_eq_true] at h
    rw [PT.get_node] at hk
    split at hk
    · subst hk; exact h.1
    · split at hk
      · exact cleanPT_ok h.2.1 _ _ hk
      · exact cleanPT_ok h.2.2 _ _ hk

def cleanEs : List (AV × AV × Nat) → Bool
  | [] => true
  | a :: as => clean a.1 && (clean a.2.1 && cleanEs as)
theorem cleanEs_ok : ∀ {es : List (AV × AV × Nat)}, cleanEs es = true → ∀ (i : Nat) e, es[i]? = some e → clean e.1 = true ∧ clean e.2.1 = true
  | [], _, i, e, h => by simp at h
  | a :: as, h, i, e, hi => by
    simp only [cleanEs, Bool.and_eq_true] at h
    cases i with
    | zero => simp at hi; subst hi; exact ⟨h.1, h.2.1⟩
    | succ i => exact cleanEs_ok h.2.2 i e (by simpa using hi)

def cleanObj : AObj → Bool
  | .cells t z _ => cleanPT t && cleans z
  | .map es _ => cleanEs es
  | .strIter .. => false
  | .mapIter .. => false

def cleanHeap : Heap → Bool
  | .nil => true
  | .node l v r => (match v with
    | none => true
    | some a => cleanObj a) && (cleanHeap l && cleanHeap r)
theorem cleanHeap_ok : ∀ {t : Heap}, cleanHeap t = true → ∀ k a, t.get k = some a → cleanObj a = true
  | .nil, _, k, a, h => by simp at h
  | .node l v r, h, k, a, hk => by
    simp only [cleanHeap, Bool.and_eq_true] at h
    rw [PT.get_node] at hk
    split at hk
    · subst hk; exact h.1
    · split at hk
      · exact cleanHeap_ok h.2.1 _ _ hk
      · exact cleanHeap_ok h.2.2 _ _ hk

theorem cleans_mem : ∀ {l : List AV}, cleans l = true → ∀ (i : Nat) a, l[i]? = some a → clean a = true
  | [], _, i, a, h => by simp at h
  | x :: xs, h, i, a, hi => by
    simp only [cleans, Bool.and_eq_true] at h
    cases i with
    | zero => simp at hi; subst hi; exact h.1
    | succ i => exact cleans_mem h.2 i a (by simpa using hi)

section
variable {ρ ρ₀ ρ' : Nat → Value} {γ γ' : G}

theorem OR.shift (e : Ext γ γ') (h0 : ρ₀ 0 = ρ 0) (h1 : ρ' 0 = ρ 0) {g : Blk} {o : AObj} {o₀ o' : Obj} (hc : cleanObj o = true) (k0 : OR ρ₀ γ g o o₀) (k : OR ρ' γ' g o o') : OR ρ γ g o o' := by
  cases o <;> simp only [cleanObj] at hc <;> try (simp at hc; done)
  case cells t z n =>
    cases o₀ <;> simp only [OR] at k0
    cases o' <;> simp only [OR] at k ⊢
    refine ⟨k.1, k.2.1, k.2.2.1, fun i v hi => ?_⟩
    obtain ⟨v', a1, a2⟩ := k.2.2.2 i v hi
    obtain ⟨v₀, _, b2⟩ := k0.2.2.2 i v hi
    refine ⟨v', a1, VR.shift e h0 h1 ?_ b2 a2⟩
    simp only [Bool.and_eq_true] at hc
    rw [cellOf_eq] at hi
    split at hi
    · cases hg : t.get i with
      | some u => simp [hg] at hi; subst hi; exact cleanPT_ok hc.1 _ _ hg
      | none => simp [hg] at hi; exact cleans_mem hc.2 _ _ hi
    · simp at hi
  case map es clock =>
    cases o₀ <;> simp only [OR] at k0
    cases o' <;> simp only [OR] at k ⊢
    refine ⟨k.1, k.2.1, fun i a b c hi => ?_⟩
    obtain ⟨x, a1, a2, a3, a4⟩ := k.2.2 i a b c hi
    obtain ⟨y, _, b2, b3, _⟩ := k0.2.2 i a b c hi
    obtain ⟨c1, c2⟩ := cleanEs_ok hc _ _ hi
    exact ⟨x, a1, VR.shift e h0 h1 c1 b2 a2, VR.shift e h0 h1 c2 b3 a3, a4⟩

/-- memory that is as it was -/
theorem HR.shift {own : Nat → Prop} {hp hp' : Heap} {w₀ w : World} (e : Ext γ γ') (h0 : ρ₀ 0 = ρ 0) (h1 : ρ' 0 = ρ 0) (hc : ∀ b o, hp.get b = some o → cleanObj o = true) (hs : ∀ b o, hp.get b = some o → hp'.get b = some o)
    (k0 : HR ρ₀ γ own hp w₀) (k : HR ρ' γ' own hp' w) : HR ρ γ own hp w := by
  refine ⟨fun b o hb => ?_, k0.inj⟩
  obtain ⟨g, o₀, g1, g2, _, g4⟩ := k0.obj b o hb
  obtain ⟨g', o', k1, _, k3, k4⟩ := k.obj b o (hs b o hb)
  have := e _ _ g1
  rw [k1] at this; injection this with this; subst this
  exact ⟨g', o', g1, g2, k3, OR.shift e h0 h1 (hc _ _ hb) g4 k4⟩
end
end
end Go.Ev
