/- Quiet operations, all of them. -/
import Derived.Test.YtmplfbdnidlpoaaGreatDoorEvOps5
import Derived.Laws.BytesString
namespace Go.Ev
noncomputable section

section
variable {ρ : Nat → Value} {γ : G} {P : Program} {E : Env} {w : World} {own : Nat → Prop} {hp : Heap}

theorem seqLen_ok {x : AV} {x' : Value} (hx : VR ρ γ x x') {n : Nat} (h : seqLen x = some n) : (Builtin.lenOf x').run P w = .ok n w := by
  cases x <;> simp only [seqLen] at h <;> try (simp at h; done)
  all_goals (injection h with h; subst h; cases hx; simp [Builtin.lenOf, toBA_size])

theorem u8s_ok (s : List Nat) (hs : ∀ x ∈ s, x < 256) : VRs ρ γ (u8s s) ((toBA s).data.toList.map fun b => .int .u8 b.toNat) := by
  induction s with
  | nil => exact .nil
  | cons a s ih =>
    have ha := hs a (List.mem_cons_self ..)
    have := ih (fun x hx => hs x (List.mem_cons_of_mem _ hx))
    refine .cons _ _ _ _ ?_ this
    have e : ((UInt8.ofNat a).toNat : Int) = (a : Int) := by simp [UInt8.toNat_ofNat']; omega
    show VR ρ γ (.int .u8 (a : Int)) (.int .u8 ((UInt8.ofNat a).toNat : Int))
    rw [e]
    exact .int _ _

theorem first_ok (hR : HR ρ γ own hp w) {x : AV} {x' : Value} (hx : VR ρ γ x x') {size n m : Nat} {cs : List AV} (h : firstA hp size n x = some cs) (hl : seqLen x = some m) (hn : n ≤ m) :
    ∃ vs, (∀ w1 : World, w1.heap = w.heap → (Builtin.firstCells size n x').run P w1 = .ok ⟨vs⟩ w1) ∧ VRs ρ γ cs vs := by
  have hce : ∀ w1 : World, w1.heap = w.heap → ∀ a, w1.cell? a = w.cell? a := by intro w1 h1 a; simp [World.cell?, h1]
  cases x <;> simp only [firstA] at h <;> try (simp at h; done)
  case str s =>
    injection h with h; subst h
    cases hx with
    | str _ hs =>
      refine ⟨_, fun w1 _ => ?_, u8s_ok _ (fun x hx => hs x (List.mem_of_mem_take hx))⟩
      simp only [Builtin.firstCells, Sem.run_pure, toBA_extract, List.drop_zero]
      congr 1
      apply Array.ext'
      simp
  case nilSlice =>
    injection h with h; subst h
    cases hx
    exact ⟨[], fun _ _ => by simp [Builtin.firstCells], .nil⟩
  case slice =>
    cases hx with
    | slice _ _ _ _ o g hg hlc ho =>
      obtain ⟨g', hg', hlen, vs, hvs, hcell⟩ := readAt_cells hR h
      rw [hg] at hg'; injection hg' with hg'; subst hg'
      simp only [seqLen] at hl
      injection hl with hl; subst hl
      refine ⟨vs, fun w1 hw1 => ?_, hvs⟩
      have hlv := hvs.length
      simp only [Builtin.firstCells]
      rw [show n * size = vs.length by rw [← hlv, hlen]; rfl]
      by_cases h0 : n * size = 0
      · have : vs = [] := by rw [← List.length_eq_zero_iff, ← hlv, hlen]; exact h0
        subst this
        simp [loadCells, loadCellsFrom]
      · have ho := ho.resolve_right (by intro hc; subst hc; have : n = 0 := by omega
                                        subst this; simp at h0)
        exact run_loadCells_of (b := g.blk) (o := o) rfl (by rw [ho]; intro j v hj; rw [hce w1 hw1]; exact hcell j v hj)
  case oslice =>
    cases hx with
    | oslice _ _ _ _ c o g hg hlc hN ho =>
      obtain ⟨g', hg', hlen, vs, hvs, hcell⟩ := readAt_cells hR h
      rw [hg] at hg'; injection hg' with hg'; subst hg'
      simp only [seqLen] at hl
      injection hl with hl; subst hl
      refine ⟨vs, fun w1 hw1 => ?_, hvs⟩
      have hlv := hvs.length
      simp only [Builtin.firstCells]
      rw [show n * size = vs.length by rw [← hlv, hlen]; rfl]
      by_cases h0 : n * size = 0
      · have : vs = [] := by rw [← List.length_eq_zero_iff, ← hlv, hlen]; exact h0
        subst this
        simp [loadCells, loadCellsFrom]
      · have ho := ho.resolve_right (by intro hc; subst hc; have : n = 0 := by omega
                                        subst this; simp at h0)
        exact run_loadCells_of (b := g.blk) (o := o) rfl (by rw [ho]; intro j v hj; rw [hce w1 hw1]; exact hcell j v hj)

theorem bytesA_ok : ∀ {cs : List AV} {bs : List Nat} {vs : List Value}, bytesA cs = some bs → VRs ρ γ cs vs → vs = bs.map (fun (b : Nat) => Value.int .u8 (b : Int)) ∧ ∀ b ∈ bs, b < 256
  | [], bs, vs, h, hv => by simp [bytesA] at h; subst h; cases hv; exact ⟨rfl, by simp⟩
  | c :: cs, bs, vs, h, hv => by
    simp only [bytesA] at h
    split at h
    · simp only [og_some, ob_some] at h
      obtain ⟨hb, bs', hbs, he⟩ := h
      injection he with he; subst he
      cases hv with
      | cons _ v _ vs h1 h2 =>
        cases h1
        obtain ⟨rfl, h3⟩ := bytesA_ok hbs h2
        have hb := ble_iff.1 hb
        refine ⟨rfl, fun b hbm => ?_⟩
        rcases List.mem_cons.1 hbm with rfl | hbm
        · omega
        · exact h3 b hbm
    · simp at h

theorem foldl_push : ∀ (bs : List Nat) (s : ByteArray), (bs.map fun (b : Nat) => (b : Int)).foldl (fun r n => r.push (UInt8.ofNat n.toNat)) s = s ++ toBA bs
  | [], s => by apply ByteArray.ext; simp [toBA, ByteArray.data_append]
  | b :: bs, s => by
    simp only [List.map_cons, List.foldl_cons]
    rw [foldl_push bs]
    apply ByteArray.ext
    simp [toBA, ByteArray.data_append, ByteArray.data_push]

theorem bytesToString_ok (hR : HR ρ γ own hp w) {x : AV} {x' : Value} (hx : VR ρ γ x x') {n : Nat} {cs : List AV} {bs : List Nat} (hl : seqLen x = some n)
    (h : firstA hp 1 n x = some cs) (hb : bytesA cs = some bs) (hns : ∀ s, x ≠ .str s) : (Conv.bytesToString x').run P w = .ok (.string (toBA bs)) w ∧ ∀ b ∈ bs, b < 256 := by
  obtain ⟨vs, hr, hvs⟩ := first_ok (P := P) (w := w) hR hx h hl (Nat.le_refl _)
  have hr := hr w rfl
  obtain ⟨rfl, hlt⟩ := bytesA_ok hb hvs
  refine ⟨?_, hlt⟩
  cases x <;> simp only [seqLen] at hl <;> try (simp at hl; done)
  case str s => exact absurd rfl (hns s)
  case nilSlice =>
    injection hl with hl; subst hl
    cases hx
    simp only [firstA] at h
    injection h with h; subst h
    simp [bytesA] at hb
    subst hb
    rfl
  all_goals
    injection hl with hl; subst hl
    cases hx
    simp only [Builtin.firstCells, Nat.mul_one] at hr
    have e : bs.map (fun (b : Nat) => Value.int .u8 (b : Int)) = (bs.map fun (b : Nat) => (b : Int)).map (Value.int .u8) := by simp
    rw [e] at hr
    rw [run_bytesToString w _ _ _ _ hr, foldl_push]
    congr 2

theorem seq_slice {x : AV} {x' : Value} (hx : VR ρ γ x x') {n : Nat} (hn : seqLen x = some n) (hns : ∀ s, x ≠ .str s) : ∃ q l c, x' = .slice q l c := by
  cases x <;> simp only [seqLen] at hn <;> first | (simp at hn; done) | exact absurd rfl (hns _) | (cases hx; exact ⟨_, _, _, rfl⟩)

theorem convQ_ok (hE : EnvOk P E) (hR : HR ρ γ own hp w) {src dst : Nat} {x v : AV} {x' : Value} (hx : VR ρ γ x x') (h : convQ E hp src dst x = some v) :
    ∃ v', (convert src dst x').run P w = .ok v' w ∧ VR ρ γ v v' := by
  simp only [convQ, ob_some] at h
  obtain ⟨si, hsi, di, hdi, h⟩ := h
  obtain ⟨sd, hs1, hs2⟩ := (hE.tys _ _ hsi).run_underlying
  obtain ⟨dd, hd1, hd2⟩ := (hE.tys _ _ hdi).run_underlying
  simp only [convert, Sem.run_bind, hs2, hd2, Result.andThen_ok]
  split at h
  case h_5 => simp at h
  · rename_i hdd
    rw [hdd] at hd1
    cases dd <;> simp only [DOk] at hd1
    subst hd1
    injection h with h; subst h
    cases hx
    rw [wrapA_eq]
    exact ⟨_, by simp [Conv.intToInt], .int _ _⟩
  · rename_i hdd
    rw [hdd] at hd1
    cases dd <;> simp only [DOk] at hd1
    simp only [og_some] at h
    obtain ⟨_, h⟩ := h
    injection h with h; subst h
    cases hx
    refine ⟨.string (toBA (bytesOf (Utf8.encode _))), ?_, .str _ (bytesOf_lt _)⟩
    rw [toBA_bytesOf]
    simp [Conv.intToString]
  · rename_i hdd
    rw [hdd] at hd1
    cases dd <;> simp only [DOk] at hd1
    injection h with h; subst h
    cases hx with
    | str _ hs => exact ⟨_, rfl, .str _ hs⟩
  · rename_i hdd hni hns
    rw [hdd] at hd1
    cases dd <;> simp only [DOk] at hd1
    simp only [ob_some, og_some, TyI.slice?_some] at h
    obtain ⟨e, he, ei, hei, hu8, n, hn, cs, hcs, bs, hbs, h⟩ := h
    injection h with h; subst h
    rw [he] at hs1
    cases sd <;> simp only [DOk] at hs1
    subst hs1
    obtain ⟨ed, he1, he2⟩ := (hE.tys _ _ hei).run_underlying
    have heu : ed = .int .u8 := by
      unfold TyI.isU8 at hu8
      split at hu8
      · rename_i h8; rw [h8] at he1
        cases ed <;> simp only [DOk] at he1
        rw [he1]
      · simp at hu8
    subst heu
    obtain ⟨h1, h2⟩ := bytesToString_ok (P := P) hR hx hn hcs hbs (fun s hh => hns s hh)
    refine ⟨_, ?_, .str _ h2⟩
    obtain ⟨q, l, c, rfl⟩ := seq_slice hx hn (fun s hh => hns s hh)
    simp [he2, h1]

theorem nilOk_ok {x v : AV} {x' : Value} (hx : VR ρ γ x x') (h : nilOk x = some v) : v = x ∧ (∀ k, x ≠ .opq k) ∧ x ≠ .nilPtr ∧ x ≠ .nilIface ∧ x ≠ .nilFunc ∧ (∀ n c, x ≠ .func (.method n) c) := by
  cases x <;> simp [nilOk] at h
  case func fn c => cases fn <;> simp at h; subst h; simp
  all_goals (subst h; simp)

theorem minMax_ok {mx : Bool} {x y v : AV} {x' y' : Value} (hx : VR ρ γ x x') (hy : VR ρ γ y y') (h : minMax mx x y = some v) :
    ∃ v', (if mx = true then Builtin.max2 x' y' else Builtin.min2 x' y').run P w = .ok v' w ∧ VR ρ γ v v' := by
  unfold minMax at h
  split at h
  · injection h with h; subst h
    cases hx; cases hy
    refine ⟨_, ?_, .int _ _⟩
    cases mx <;> simp only [bc_eq, ltInt_eq, decide_eq_true_eq, if_true, Bool.false_eq_true, if_false, Builtin.max2, Builtin.min2, Sem.run_pure] <;> rfl
  · simp at h

theorem foldMin_ok {mx : Bool} : ∀ {xs : List AV} {xs' : List Value} {a v : AV} {a' : Value}, VRs ρ γ xs xs' → VR ρ γ a a' → foldMin mx xs a = some v →
    ∃ v', (xs'.foldlM (if mx = true then Builtin.max2 else Builtin.min2) a').run P w = .ok v' w ∧ VR ρ γ v v'
  | [], xs', a, v, a', hx, ha, h => by
    simp [foldMin] at h; subst h; cases hx
    exact ⟨a', by simp, ha⟩
  | x :: xs, xs', a, v, a', hx, ha, h => by
    cases hx with
    | cons _ x' _ xs' h1 h2 =>
      simp only [foldMin, ob_some] at h
      obtain ⟨b, hb, h⟩ := h
      obtain ⟨b', g1, g2⟩ := minMax_ok (P := P) (w := w) ha h1 hb
      obtain ⟨v', g3, g4⟩ := foldMin_ok h2 g2 h
      refine ⟨v', ?_, g4⟩
      simp only [List.foldlM_cons, Sem.run_bind]
      have : (if mx = true then Builtin.max2 else Builtin.min2) a' x' = (if mx = true then Builtin.max2 a' x' else Builtin.min2 a' x') := by split <;> rfl
      rw [this, g1]
      exact g3

theorem callQ_ok (hE : EnvOk P E) (hR : HR ρ γ own hp w) {c : Call} {tm : PT AV} {nt : Nat} {a : Act} (hT : TmR ρ γ tm nt a) {ty : TypeId} {v : AV} (h : callQ E c tm hp = some v) :
    ∃ v', ((do let d ← resolve a.eval c ty; invoke d.target d.args : Sem Next)).run P w = .ok (.value v') w ∧ VR ρ γ v v' := by
  unfold callQ at h
  split at h
  · rename_i b hb
    simp only [ob_some] at h
    obtain ⟨args, hargs, h⟩ := h
    have hA := opnds_ok hT _ _ hargs
    have hlist : (c.args.map a.eval).toList = c.args.toList.map a.eval := by simp
    unfold builtinQ at h
    split at h
    · rename_i t _ x xs hat
      simp only [ob_some] at h
      obtain ⟨n, hn, he⟩ := h
      injection he with he; subst he
      generalize hxs : c.args.toList.map a.eval = vals at hA hlist
      cases hA with
      | cons _ x' _ xs' h1 h2 =>
        have g0 : c.argTypes[0]? = some t := by rw [← Array.getElem?_toList, hat]; rfl
        have g1 : (c.args.map a.eval)[0]? = some x' := by rw [← Array.getElem?_toList, hlist]; rfl
        refine ⟨_, ?_, .int _ _⟩
        simp only [resolve, hb, Sem.run_bind, Sem.run_pure, Result.andThen_ok, invoke, builtin]
        rw [len_ok (P := P) hE hR h1 hn _ _ _ g0 g1]
        rfl
    · rename_i t _ x xs hat
      simp only [capA, ob_some, TyI.slice?_some] at h
      obtain ⟨ti, hti, e, hd, h⟩ := h
      obtain ⟨sd, hs1, hs2⟩ := (hE.tys _ _ hti).run_underlying
      rw [hd] at hs1
      cases sd <;> simp only [DOk] at hs1
      generalize hxs : c.args.toList.map a.eval = vals at hA hlist
      cases hA with
      | cons _ x' _ xs' h1 h2 =>
        have g0 : c.argTypes[0]? = some t := by rw [← Array.getElem?_toList, hat]; rfl
        have g1 : (c.args.map a.eval)[0]? = some x' := by rw [← Array.getElem?_toList, hlist]; rfl
        split at h
        · injection h with h; subst h
          cases h1
          exact ⟨_, by simp only [resolve, hb, Sem.run_bind, Sem.run_pure, Result.andThen_ok, invoke, builtin, Builtin.cap_, g0, g1, hs2, goInt]; rfl, .int _ _⟩
        · injection h with h; subst h
          cases h1
          exact ⟨_, by simp only [resolve, hb, Sem.run_bind, Sem.run_pure, Result.andThen_ok, invoke, builtin, Builtin.cap_, g0, g1, hs2, goInt]; rfl, .int _ _⟩
        · cases h
    · rename_i x xs
      generalize hxs : c.args.toList.map a.eval = vals at hA hlist
      cases hA with
      | cons _ x' _ xs' h1 h2 =>
        obtain ⟨v', g1, g2⟩ := foldMin_ok (P := P) (w := w) h2 h1 h
        refine ⟨v', ?_, g2⟩
        simp only [resolve, hb, Sem.run_bind, Sem.run_pure, Result.andThen_ok, invoke, builtin, Builtin.min_, hlist]
        simp only [Bool.false_eq_true, if_false] at g1
        rw [g1]; rfl
    · rename_i x xs
      generalize hxs : c.args.toList.map a.eval = vals at hA hlist
      cases hA with
      | cons _ x' _ xs' h1 h2 =>
        obtain ⟨v', g1, g2⟩ := foldMin_ok (P := P) (w := w) h2 h1 h
        refine ⟨v', ?_, g2⟩
        simp only [resolve, hb, Sem.run_bind, Sem.run_pure, Result.andThen_ok, invoke, builtin, Builtin.max_, hlist]
        simp only [if_true] at g1
        rw [g1]; rfl
    · simp at h
  · simp at h

theorem unA_ok {op : UnOp} {x v : AV} {x' : Value} (hx : VR ρ γ x x') (h : unA op x = some v) : ∃ v', (Op.unary op x').run P w = .ok v' w ∧ VR ρ γ v v' := by
  unfold unA at h
  split at h
  · injection h with h; subst h; cases hx
    exact ⟨_, by simp [Op.unary], .bool _⟩
  · injection h with h; subst h; cases hx
    rw [wrapA_eq]
    exact ⟨_, by simp [Op.unary, Op.intArith], .int _ _⟩
  · injection h with h; subst h; cases hx
    exact ⟨_, by simp [Op.unary, Op.intBits], .int _ _⟩
  · simp at h

/-- **A quiet operation**: the model's gives what the evaluator gives, and leaves the world. -/
theorem opQ_ok (hE : EnvOk P E) (hR : HR ρ γ own hp w) {o : Oper} {tm : PT AV} {nt : Nat} {a : Act} (hT : TmR ρ γ tm nt a) {v : AV} (h : opQ E o.op tm hp = some v) :
    ∃ v', (execOp a.eval o).run P w = .ok (.value v') w ∧ VR ρ γ v v' := by
  obtain ⟨dst, op, ty, pos, after, guard⟩ := o
  simp only at h
  have wrapV : ∀ {s : Sem Value} {v : AV}, (∃ v', s.run P w = .ok v' w ∧ VR ρ γ v v') → ∃ v', (do pure (Next.value (← s)) : Sem Next).run P w = .ok (.value v') w ∧ VR ρ γ v v' := by
    rintro s v ⟨v', h1, h2⟩
    exact ⟨v', by simp [h1], h2⟩
  cases op <;> simp only [opQ] at h <;> try (simp at h; done)
  case move x => exact ⟨_, by simp [execOp], opnd_ok hT h⟩
  case assign x => exact ⟨_, by simp [execOp], opnd_ok hT h⟩
  case pick c x y =>
    simp only [pickA, ob_some, AV.bool?_some, bc_eq] at h
    obtain ⟨cv, hc, t, rfl, h⟩ := h
    have hc := opnd_ok hT hc
    generalize hcv : a.eval c = c' at hc
    cases hc
    cases t
    · exact ⟨a.eval y, by simp [execOp, hcv, asBool], opnd_ok hT (by simpa using h)⟩
    · exact ⟨a.eval x, by simp [execOp, hcv, asBool], opnd_ok hT (by simpa using h)⟩
  case build t parts =>
    simp only [ob_some] at h
    obtain ⟨ps, hps, h⟩ := h
    obtain ⟨h1, h2⟩ := opndParts_ok hT _ _ hps
    obtain ⟨v', g1, g2⟩ := build_ok (w := w) hE (vals := parts.toList.map fun p => (p.1, a.eval p.2)) h (by simp [h1]) (by simpa [Function.comp_def] using h2)
    refine wrapV ⟨v', ?_, g2⟩
    have : parts.map (fun (i, x) => (i, a.eval x)) = (parts.toList.map fun p => (p.1, a.eval p.2)).toArray := by
      apply Array.ext'; simp
    rw [this]; exact g1
  case load t x =>
    simp only [ob_some] at h
    obtain ⟨p, hp1, h⟩ := h
    exact wrapV (load_ok hE hR h (opnd_ok hT hp1))
  case nilCheck x =>
    simp only [ob_some] at h
    obtain ⟨p, hp1, h⟩ := h
    have hv := opnd_ok hT hp1
    obtain ⟨rfl, h0, h1, h2, h3, h4⟩ := nilOk_ok hv h
    refine ⟨a.eval x, ?_, hv⟩
    simp only [execOp]
    generalize a.eval x = x' at hv
    cases hv <;> first | rfl | exact absurd rfl (h0 _) | exact absurd rfl h1 | exact absurd rfl h2 | exact absurd rfl h3 | skip
    rename_i fn c c' hc
    cases fn <;> first | rfl | exact absurd rfl (h4 _ _)
  case binOp op t x y yt =>
    simp only [ob_some] at h
    obtain ⟨p, hp1, q, hq1, h⟩ := h
    exact wrapV (binA_ok hE op t x y h (opnd_ok hT hp1) (opnd_ok hT hq1))
  case unOp op t x =>
    simp only [ob_some] at h
    obtain ⟨p, hp1, h⟩ := h
    exact wrapV (unA_ok (opnd_ok hT hp1) h)
  case convert s d x =>
    simp only [ob_some] at h
    obtain ⟨p, hp1, h⟩ := h
    exact wrapV (convQ_ok hE hR (opnd_ok hT hp1) h)
  case makeInterface t x =>
    simp only [ob_some] at h
    obtain ⟨p, hp1, h⟩ := h
    exact wrapV (iface_ok hE (opnd_ok hT hp1) h)
  case makeFunc fn first cap =>
    simp only [funcQ, og_some, ob_some] at h
    obtain ⟨hf, c, hc, he⟩ := h
    injection he with he; subst he
    have hfe : first = #[] := by
      apply Array.ext'; simpa using hf
    subst hfe
    have hA := opnds_ok hT _ _ hc
    refine wrapV ⟨_, ?_, .func fn c _ hA⟩
    simp only [Instr.makeFunc, Sem.run_pure]
    congr 2
    all_goals (apply Array.ext'; simp)
  case slice t x lo hi mx =>
    simp only [sliceQ, ob_some] at h
    obtain ⟨p, hp1, l, hl, u, hu, m, hm, h⟩ := h
    exact wrapV (slice_ok hE hR (opnd_ok hT hp1) (optOpnd_ok hT hl) (optOpnd_ok hT hu) (optOpnd_ok hT hm) h)
  case fieldAddr t x f =>
    simp only [ob_some] at h
    obtain ⟨p, hp1, h⟩ := h
    exact wrapV (fieldAddr_ok hE (opnd_ok hT hp1) h)
  case field t x f =>
    simp only [ob_some] at h
    obtain ⟨p, hp1, h⟩ := h
    exact wrapV (field_ok hE (opnd_ok hT hp1) h)
  case indexAddr t x i =>
    simp only [ob_some] at h
    obtain ⟨p, hp1, q, hq1, h⟩ := h
    exact wrapV (indexAddr_ok hE (opnd_ok hT hp1) (opnd_ok hT hq1) h)
  case index t x i =>
    simp only [ob_some] at h
    obtain ⟨p, hp1, q, hq1, h⟩ := h
    exact wrapV (index_ok hE (opnd_ok hT hp1) (opnd_ok hT hq1) h)
  case lookup t x k ok =>
    simp only [ob_some] at h
    obtain ⟨p, hp1, q, hq1, h⟩ := h
    exact wrapV (lookup_ok hE hR (opnd_ok hT hp1) (opnd_ok hT hq1) h)
  case entry it =>
    simp only [ob_some] at h
    obtain ⟨p, hp1, h⟩ := h
    exact wrapV (entry_ok hR (opnd_ok hT hp1) h)
  case typeAssert x xt t ok =>
    simp only [ob_some] at h
    obtain ⟨p, hp1, h⟩ := h
    exact wrapV (assert_ok hE (opnd_ok hT hp1) h)
  case extract t i =>
    simp only [ob_some, AV.tup?_some, nth_eq] at h
    obtain ⟨p, hp1, vs, rfl, h⟩ := h
    have hv := opnd_ok hT hp1
    generalize hcv : a.eval t = c' at hv
    cases hv with
    | tup _ vs' hvs =>
      obtain ⟨u, hu, hr⟩ := hvs.get _ _ h
      exact ⟨u, by simp [execOp, hcv, Instr.extract, hu], hr⟩
  case call c =>
    obtain ⟨v', g1, g2⟩ := callQ_ok (P := P) hE hR hT (ty := ty) h
    exact ⟨v', by simpa [execOp] using g1, g2⟩
end
end
end Go.Ev
