/- Operations that make one block. -/
import Derived.Test.YtmplfbdnidlpoaaGreatDoorEvMem
namespace Go.Ev
noncomputable section

theorem getElem?_range_mod {α : Type} [Inhabited α] (z : Array α) (hz : z.size ≠ 0) (n i : Nat) (h : i < n) : ((Array.range n).map (z[· % z.size]!))[i]? = z[i % z.size]? := by
  have hm : i % z.size < z.size := Nat.mod_lt _ (by omega)
  simp [h, hm]

theorem getElem?_rep {α : Type} (z : List α) : ∀ (n i : Nat), z.length ≠ 0 → (rep n z)[i]? = if i < n * z.length then z[i % z.length]? else none
  | 0, i, _ => by simp [rep]
  | n + 1, i, hz => by
    simp only [rep, List.getElem?_append]
    split
    · rename_i h
      rw [if_pos (by rw [Nat.add_mul]; omega), Nat.mod_eq_of_lt h]
    · rename_i h
      rw [getElem?_rep z n _ hz, Nat.add_mul]
      by_cases h2 : i - z.length < n * z.length
      · rw [if_pos h2, if_pos (by omega)]
        congr 1
        rw [Nat.mod_eq_sub_mod (by omega : i ≥ z.length)]
      · rw [if_neg h2, if_neg (by omega)]

theorem length_rep {α : Type} (z : List α) : ∀ n, (rep n z).length = n * z.length
  | 0 => by simp [rep]
  | n + 1 => by simp [rep, length_rep z n, Nat.add_mul]; omega

section
variable {ρ : Nat → Value} {γ : G} {P : Program} {E : Env} {w : World} {own : Nat → Prop} {hp : Heap}

theorem VRs.rep {as : List AV} {vs : List Value} (h : VRs ρ γ as vs) : ∀ n, VRs ρ γ (rep n as) (rep n vs)
  | 0 => .nil
  | n + 1 => h.append (h.rep n)

theorem range_rep (z : Array Value) (hz : z.size ≠ 0) (n : Nat) : ((Array.range (n * z.size)).map (z[· % z.size]!)) = ⟨Go.Ev.rep n z.toList⟩ := by
  apply Array.ext'
  apply List.ext_getElem?
  intro i
  by_cases h : i < n * z.size
  · rw [Array.getElem?_toList, getElem?_range_mod z hz _ _ h, getElem?_rep _ _ _ (by simpa using hz), if_pos (by simpa using h)]
    simp
  · rw [List.getElem?_eq_none (by simp; omega), List.getElem?_eq_none (by simp [length_rep]; omega)]

/-- the block that is made: what the model has in it -/
structure Made (ρ : Nat → Value) (γ : G) (w : World) (nx : Nat) (v : AV) (obj : AObj) (v' : Value) (obj' : Obj) (N : Nat) : Prop where
  val : ∀ γ', Ext γ γ' → γ' nx = some ⟨w.heap.size, 0, N⟩ → VR ρ γ' v v'
  obj : ∀ γ', Ext γ γ' → γ' nx = some ⟨w.heap.size, 0, N⟩ → OR ρ γ' ⟨w.heap.size, 0, N⟩ obj obj'

theorem row0_ok {nx : Nat} {as : List AV} {vs : List Value} (h : VRs ρ γ as vs) (t : TypeId) :
    Made ρ γ w nx (.ptr nx 0) (.cells (rowOf as) [] as.length) (.pointer (some ⟨w.heap.size, 0, none⟩)) (.cells ⟨vs⟩ t) vs.length := by
  refine ⟨fun γ' _ hg => .ptr nx 0 _ hg, fun γ' e _ => ?_⟩
  have hl := h.length
  simp only [OR]
  refine ⟨by simp, by omega, by simp, fun i v hi => ?_⟩
  rw [cellOf_eq] at hi
  split at hi
  · rw [get_rowOf] at hi
    rename_i hlt
    rw [List.getElem?_eq_getElem hlt] at hi
    simp at hi
    obtain ⟨u, hu, hr⟩ := h.get i v (by rw [List.getElem?_eq_getElem hlt, hi])
    exact ⟨u, by simpa using hu, hr.ext e⟩
  · simp at hi

/-- **An operation that makes a block** -/
theorem opB_ok (hE : EnvOk P E) {o : Oper} {tm : PT AV} {nt : Nat} {a : Act} (hT : TmR ρ γ tm nt a) {nx : Nat} {v : AV} {obj : AObj} (h : opB E o.op tm nx = some (v, obj)) :
    ∃ v' obj' N, (execOp a.eval o).run P w = .ok (.value v') (w.alloc obj') ∧ Made ρ γ w nx v obj v' obj' N := by
  obtain ⟨dst, op, ty, pos, after, guard⟩ := o
  simp only at h
  have wrapV : ∀ {s : Sem Value} {P' : Value → Obj → Nat → Prop}, (∃ v' obj' N, s.run P w = .ok v' (w.alloc obj') ∧ P' v' obj' N) →
      ∃ v' obj' N, (do pure (Next.value (← s)) : Sem Next).run P w = .ok (.value v') (w.alloc obj') ∧ P' v' obj' N := by
    rintro s P' ⟨v', obj', N, h1, h2⟩
    exact ⟨v', obj', N, by simp [h1], h2⟩
  cases op <;> simp only [opB] at h <;> try (simp at h; done)
  case alloc t =>
    simp only [ob_some, row0, og_some] at h
    obtain ⟨ti, hti, z, hz, hone, he⟩ := h
    injection he with he; injection he with he1 he2; subst he1; subst he2
    obtain ⟨zv, h1, h2, _⟩ := (hE.tys _ _ hti).run_zero (ρ := ρ) (γ := γ) hz
    refine wrapV ⟨_, _, _, ?_, row0_ok h2 t⟩
    simp [Instr.alloc, h1, newVar, newRow]
  case box t x =>
    simp only [ob_some, row0, og_some] at h
    obtain ⟨p, hp1, hone, he⟩ := h
    injection he with he; injection he with he1 he2; subst he1; subst he2
    refine wrapV ⟨_, _, _, ?_, row0_ok ((opnd_ok hT hp1).cells hone) t⟩
    simp [Instr.box, newVar, newRow]
  case buildSlice t len parts =>
    simp only [ob_some, opSliceLit, og_some, TyI.slice?_some] at h
    obtain ⟨ps, hps, ti, hti, e, hd, ei, hei, z, hz, hzl, hsz, hone, hle, row, hrow, hkn, he⟩ := h
    injection he with he; injection he with he1 he2; subst he1; subst he2
    obtain ⟨h1, h2⟩ := opndParts_ok hT _ _ hps
    obtain ⟨td, hd1, hd2⟩ := (hE.tys _ _ hti).run_underlying
    rw [hd] at hd1
    cases td <;> simp only [DOk] at hd1
    rename_i el
    subst hd1
    have hei' := hE.tys _ _ hei
    obtain ⟨zv, hz1, hz2, _⟩ := hei'.run_zero (ρ := ρ) (γ := γ) hz
    have hzl := beq_iff.1 hzl
    have hle := ble_iff.1 hle
    have hsz : ei.size ≠ 0 := by intro h0; simp [h0] at hsz
    have hzs : zv.cells.size = ei.size := by have := hz2.length; rw [hzl] at this; simpa using this.symm
    simp only [Nat.mul_eq] at hle hrow
    have hR0 : RowR ρ γ (rowOf (rep len z)) (len * ei.size) ⟨rep len zv.cells.toList⟩ := by
      have := row_of (hz2.rep len)
      rw [length_rep] at this
      rwa [show zv.cells.toList.length = ei.size by simpa using hzs] at this
    obtain ⟨c', hc', hr'⟩ := fillA_ok (fun i => some (Nat.mul i ei.size, ei.size)) (fun i => some (i * ei.size, ei.size)) (len * ei.size) (by intro i p hp; simpa using hp) ps _ row
      (parts.toList.map fun p => (p.1, a.eval p.2)) ⟨rep len zv.cells.toList⟩ hrow (by simp [h1]) (by simpa [Function.comp_def] using h2) (known_ok hkn) hR0
    refine wrapV ⟨.slice (some ⟨w.heap.size, 0, none⟩) len len, .cells c' el, len * ei.size, ?_, ?_, ?_⟩
    · have hparts : (parts.map (fun (i, x) => (i, a.eval x))).toList = parts.toList.map fun p => (p.1, a.eval p.2) := by simp
      have hbig : ¬ (len * ei.size > 2 ^ 24) := by omega
      simp only [Instr.buildSlice, Sem.run_bind, hd2, Result.andThen_ok, hei'.run_sizeOf, if_neg hbig]
      by_cases h0 : len * ei.size = 0
      · have hl0 : len = 0 := (Nat.mul_eq_zero.1 h0).resolve_right hsz
        subst hl0
        simp only [rep] at hc'
        have hr0 : ∀ zz : Array Value, (Array.range 0).map (fun x => zz[x % zz.size]!) = (⟨[]⟩ : Array Value) := by intro zz; apply Array.ext'; simp
        simp only [Nat.zero_mul, if_true, Sem.run_bind, Sem.run_pure, Result.andThen_ok, hparts, hr0, hc']
        simp [newRow]
      · simp only [if_neg h0, Sem.run_bind, hz1, Result.andThen_ok, Sem.run_pure, hparts]
        rw [← hzs, range_rep _ (by omega)]
        rw [← hzs] at hc'
        rw [hc']
        simp [newRow]
    · intro γ' _ hg
      exact .slice nx 0 len len 0 _ hg (Nat.le_refl _) (.inl rfl)
    · intro γ' e hg
      simp only [OR, Nat.mul_eq]
      refine ⟨hr'.1, by omega, by simp, fun i v hi => ?_⟩
      rw [cellOf_eq] at hi
      split at hi
      · rename_i hlt
        cases hgi : row.get i with
        | none => simp [hgi] at hi
        | some u =>
          simp [hgi] at hi; subst hi
          obtain ⟨v', g1, g2⟩ := hr'.2 i u hlt hgi
          exact ⟨v', by simpa using g1, g2.ext e⟩
      · simp at hi
  case makeSlice t l c =>
    simp only [ob_some, opMakeSlice, og_some, TyI.slice?_some, AV.nat?_some] at h
    obtain ⟨_, hl0, _, hc0, n, ⟨k1, rfl⟩, m, ⟨k2, rfl⟩, ti, hti, e, hd, ei, hei, z, hz, hzl, hsz, hone, hnm, hm, hb, he⟩ := h
    injection he with he; injection he with he1 he2; subst he1; subst he2
    have hl1 := nat_int (opnd_ok hT hl0)
    have hc1 := nat_int (opnd_ok hT hc0)
    obtain ⟨td, hd1, hd2⟩ := (hE.tys _ _ hti).run_underlying
    rw [hd] at hd1
    cases td <;> simp only [DOk] at hd1
    rename_i el
    subst hd1
    have hei' := hE.tys _ _ hei
    obtain ⟨zv, hz1, hz2, _⟩ := hei'.run_zero (ρ := ρ) (γ := γ) hz
    obtain ⟨info, hi1, hi2, hi3, _⟩ := hei'.run_typeInfo
    have hzl := beq_iff.1 hzl
    have hnm := ble_iff.1 hnm
    have hm := ble_iff.1 hm
    have hb := ble_iff.1 hb
    have hsz : ei.size ≠ 0 := by intro h0; simp [h0] at hsz
    have hzs : zv.cells.size = ei.size := by have := hz2.length; rw [hzl] at this; simpa using this.symm
    have hbm : (ei.bytes : Int) * (m : Int) ≤ 2 ^ 48 := by
      have : ei.bytes * m ≤ 100000 * 1000000 := Nat.mul_le_mul hb hm
      exact_mod_cast Nat.le_trans this (by decide)
    have wn : IntKind.i64.wrap (n : Int) = n := by rw [i64_wrap]; split <;> omega
    have wm : IntKind.i64.wrap (m : Int) = m := by rw [i64_wrap]; split <;> omega
    refine wrapV ⟨.slice (some ⟨w.heap.size, 0, none⟩) n m, .cells ((Array.range (m * ei.size)).map (zv.cells[· % zv.cells.size]!)) el, m * ei.size, ?_, ?_, ?_⟩
    · simp only [Instr.makeSlice, hl1, hc1, Sem.run_bind, hd2, Result.andThen_ok, asInt, asIntOf, Sem.run_pure, hi3, hi2, wn, wm]
      have hneg : ((((decide ((m : Int) < 0) || decide ((ei.bytes : Int) * (m : Int) > 2 ^ 48)) || decide ((n : Int) < 0)) || decide ((n : Int) > (m : Int))) = true) = False := by
        simp; omega
      simp only [hneg, if_false, run_askRoom, Result.andThen_ok, hei'.run_sizeOf, Int.toNat_natCast, Sem.run_bind]
      by_cases h0 : m * ei.size = 0
      · simp only [h0, if_true, Sem.run_pure, Result.andThen_ok, newRow, Sem.run_bind, run_newObj, World.alloc_eq]
        congr 3
        apply Array.ext'; simp
      · simp [h0, hz1, newRow]
    · intro γ' _ hg
      exact .slice nx 0 n m 0 _ hg hnm (.inl rfl)
    · intro γ' e hg
      simp only [OR, Nat.mul_eq]
      refine ⟨by simp, by omega, by simp, fun i v hi => ?_⟩
      rw [cellOf_eq] at hi
      split at hi
      · rename_i hlt
        simp only [PT.get_nil] at hi
        rw [hzl] at hi
        obtain ⟨u, hu, hr⟩ := hz2.get _ _ hi
        refine ⟨u, ?_, hr.ext e⟩
        rw [show 0 + i = i by omega, getElem?_range_mod _ (by omega) _ _ hlt, hzs]
        simpa using hu
      · simp at hi
  case makeMap t r =>
    cases r with
    | some _ => simp at h
    | none =>
      simp only at h
      injection h with he; injection he with he1 he2; subst he1; subst he2
      refine wrapV ⟨.map (some w.heap.size), .map #[] 0, 0, by simp [Instr.makeMap], ?_, ?_⟩
      · intro γ' _ hg
        exact .map nx _ hg
      · intro γ' _ _
        simp [OR, ER]
  case range t x =>
    simp only [ob_some, og_some, AV.str?_some] at h
    obtain ⟨ti, hti, hs, _, hx, s, rfl, he⟩ := h
    injection he with he; injection he with he1 he2; subst he1; subst he2
    obtain ⟨td, hd1, hd2⟩ := (hE.tys _ _ hti).run_underlying
    have hstr : td = .string := by
      unfold TyI.isString at hs
      split at hs
      · rename_i h8; rw [h8] at hd1
        cases td <;> simp only [DOk] at hd1
        rfl
      · simp at hs
    subst hstr
    have hv := opnd_ok hT hx
    generalize hcv : a.eval x = c' at hv
    cases hv with
    | str _ hlt =>
      refine wrapV ⟨.pointer (some ⟨w.heap.size, 0, none⟩), .stringIter (toBA s) 0, 0, by simp [Instr.range, hd2, hcv], ?_, ?_⟩
      · intro γ' _ hg
        exact .ptr nx 0 _ hg
      · intro γ' _ _
        exact ⟨rfl, rfl, hlt, rfl⟩
end
end
end Go.Ev
