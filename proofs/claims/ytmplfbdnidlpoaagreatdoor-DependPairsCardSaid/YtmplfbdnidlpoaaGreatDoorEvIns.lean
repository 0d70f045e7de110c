/- slices.Insert where the capacity is not known: both ways, one answer. -/
import Derived.Test.YtmplfbdnidlpoaaGreatDoorEvHandF
namespace Go.Ev
noncomputable section
variable {K : KI}

structure IC where
  pre : List Code
  id8 : Nat
  ops8 : Array Oper
  c31 : Operand
  thn : Code
  rest : Code
def IC.body (c : IC) : Code := nest c.pre (.seq (.seq (.region c.id8 c.ops8 false) (.cond c.c31 c.thn .skip)) c.rest)

structure CapC where
  x29 : Nat
  ts : Nat
  d30 : Nat
  x28 : Nat
  d31 : Nat

/-- the region that asks for the capacity -/
def capOf (ops : Array Oper) : Option CapC :=
  match ops[4]?, ops[5]? with
  | some o4, some o5 => (match o4.op, o4.dst, o4.guard, o5.op, o5.dst, o5.guard with
    | .call c, some d30, none, .binOp .gtr _ (.tmp x28) (.tmp y30) _, some d31, none => (match c.callee, c.argTypes.toList, c.args.toList with
      | .builtin .cap, ts :: _, [.tmp x29] => og (Nat.beq y30 d30 && Nat.beq ops.size 6) (some ⟨x29, ts, d30, x28, d31⟩)
      | _, _, _ => none)
    | _, _, _, _, _, _ => none)
  | _, _ => none

def normal? : Res → Option St
  | .code .normal s => some s
  | _ => none
theorem normal?_some {r : Res} {s : St} (h : normal? r = some s) : r = .code .normal s := by
  unfold normal? at h
  split at h
  · injection h with h; rw [h]
  · simp at h

def none2 : Op → PT AV → Option AV := fun _ _ => none

/-- one way: 'bb': is there want of room? -/
def insB (E : Env) (R : Task → Option Res) (ic : IC) (cc : CapC) (fn : Func) (b off len esz k : Nat) (bb : Bool) (args : List AV) (hp : Heap) (nx : Nat) : Option Res :=
  ob (argsSt fn args hp nx) fun s => ob (runSeq R ic.pre s) fun x => ob (normal? x) fun s1 => ob (runH E none2 ic.ops8.toList (ic.ops8.toList.take 4) s1) fun s2 =>
    ob (s2.tm.get cc.x29) fun v29 => ob (s2.tm.get cc.x28) fun v28 => og (sameAV v29 (.oslice b off len esz)) (og (sameAV v28 (.int .i64 (.ofNat k)))
      (og (Nat.ble (Nat.add cc.d30 1) s2.nt && (Nat.ble (Nat.add cc.d31 1) s2.nt && !Nat.beq cc.x28 cc.d30))
        (ob (R (.code (.cond ic.c31 ic.thn .skip) { s2 with tm := (s2.tm.del cc.d30).put cc.d31 (.bool bb) })) fun y => ob (seqR R ic.rest y) (leaveR R fn))))

section
variable {P : Program} {E : Env} {B : Base} {γ : G} {s s' : St} {a : Act} {w : World}

theorem none2_ok : HOk P B.ρ w none2 := by intro γ nt tm a o v _ h; cases h

theorem StR.unknown (h : StR B γ s a w) {d : Nat} (v : Value) : StR B γ { s with tm := s.tm.del d } (a.put (some d) v) w := by
  refine ⟨⟨by rw [put_size]; exact h.tm.size, fun t u ht => ?_⟩, by rw [put_dfs]; exact h.df, h.hp, h.fresh, h.later⟩
  rw [PT.get_del] at ht
  split at ht
  · cases ht
  · rename_i hd
    obtain ⟨v', h1, h2⟩ := h.tm.get t u ht
    exact ⟨v', by rw [put_other _ _ (fun hh => hd (by injection hh))]; exact h1, h2⟩

theorem StR.known (h : StR B γ s a w) {d : Nat} (hd : d < s.nt) {v : AV} {v' : Value} (hv : VR B.ρ γ v v') : StR B γ { s with tm := s.tm.put d v } (a.put (some d) v') w := by
  refine ⟨⟨by rw [put_size]; exact h.tm.size, fun t u ht => ?_⟩, by rw [put_dfs]; exact h.df, h.hp, h.fresh, h.later⟩
  rw [PT.get_put] at ht
  split at ht
  · rename_i hh; subst hh
    injection ht with ht; subst ht
    exact ⟨v', put_same (by rw [h.tm.size]; exact hd), hv⟩
  · rename_i hdt
    obtain ⟨u', h1, h2⟩ := h.tm.get t u ht
    exact ⟨u', by rw [put_other _ _ (fun hh => hdt (by injection hh))]; exact h1, h2⟩

theorem insB_ok (hE : EnvOk P E) (hSum : SumOk P E K) (hB : Good K B) {n f : Nat} {ic : IC} {cc : CapC} {fn : Func} (hfn : P.funcs[f]? = some fn) (hbody : fn.body = some ic.body) (hcc : capOf ic.ops8 = some cc)
    {si : TyI} (hts : E.tys.get cc.ts = some si) {e0 : Nat} (hsd : si.d = .slice e0)
    {b off len esz k : Nat} {bb : Bool} {args : List AV} {hp0 : Heap} {res : Res} (h : insB E (run E n) ic cc fn b off len esz k bb args hp0 B.nx = some res) (hesz : esz ≠ 0) {g : Blk} (hg : B.γ b = some g) {c : Nat} (hc : g.δ + off + c * esz = g.N)
    (hbb : bb = decide (c < k)) (hR : HR B.ρ B.γ B.own hp0 B.w) {args' : List Value} (ha : VRs B.ρ B.γ args args') : Calls P f ⟨args'⟩ B.w (CallQ B res) := by
  simp only [insB, ob_some, og_some, Bool.and_eq_true] at h
  obtain ⟨s, hs, x, hx, s1, h1, s2, h2, v29, h29, v28, h28, k29, k28, ⟨kd0, kd1, kne⟩, y, hy, z, hz, h⟩ := h
  have h1 := normal?_some h1
  subst h1
  have k29 := sameAV_eq k29
  have k28 := sameAV_eq k28
  subst k29; subst k28
  simp only [argsSt, og_some] at hs
  obtain ⟨hle, hs⟩ := hs
  injection hs with hs; subst hs
  refine calls_of_wp_defers hfn hbody ?_
  have hS0 : StR B B.γ { tm := rowOf args, nt := fn.ntmps, df := [], hp := hp0, nx := B.nx } { tmps := (⟨args'⟩ : Array Value) ++ Array.replicate (fn.ntmps - (⟨args'⟩ : Array Value).size) undef, defers := [] } B.w :=
    ⟨TmR.args ha (ble_iff.1 hle), .nil, hR, hB.fresh, Later.refl _⟩
  refine runSeq_ok hE hSum hB ic.pre _ s1 _ _ _ hx hS0 (fun γ1 a1 w1 hS1 => wp_seq (wp_seq ?_))
  have hih := run_ok hE hSum n
  -- the region
  unfold capOf at hcc
  split at hcc
  · rename_i o4 o5 ho4 ho5
    obtain ⟨dst4, op4, ty4, pos4, aft4, gd4⟩ := o4
    obtain ⟨dst5, op5, ty5, pos5, aft5, gd5⟩ := o5
    simp only at hcc
    split at hcc
    · rename_i cl d30 bt x28 y30 yt d31
      split at hcc
      · rename_i ts tl x29 q1 q2 q3
        simp only [og_some, Bool.and_eq_true] at hcc
        obtain ⟨⟨e1, e2⟩, hcc⟩ := hcc
        injection hcc with hcc; subst hcc
        have e1 := beq_iff.1 e1
        have e2 := beq_iff.1 e2
        subst e1
        refine wp_region ?_
        have hl : ic.ops8.toList.length = 6 := by simpa using e2
        have hl4 : (ic.ops8.toList.take 4).length = 4 := by rw [List.length_take]; omega
        rw [List.range_eq_range', e2, show (6 : Nat) = (ic.ops8.toList.take 4).length + 2 by omega]
        refine runH_ok (P := P) (m := 2) hE none2_ok (ic.ops8.toList.take 4) 0 s1 s2 a1 h2 (fun j o hj => ?_) hS1 (fun a2 hS2 => ?_)
        · rw [List.getElem?_take] at hj
          split at hj
          · simpa using hj
          · cases hj
        rw [hl4]
        -- the capacity
        obtain ⟨u29, m1, m2⟩ := hS2.tm.get _ _ h29
        obtain ⟨u28, m3, m4⟩ := hS2.tm.get _ _ h28
        cases m4
        cases m2
        rename_i c' o' g' hg' hlc hN ho
        have hgg : g' = g := by
          have := hS2.later.ext _ _ hg
          rw [hg'] at this; injection this
        subst hgg
        have hcc' : c' = c := by
          have : c' * esz = c * esz := by omega
          exact Nat.eq_of_mul_eq_mul_right (Nat.pos_of_ne_zero hesz) this
        subst hcc'
        obtain ⟨sd, t1, t2⟩ := (hE.tys _ _ hts).run_underlying
        rw [hsd] at t1
        cases sd <;> simp only [DOk] at t1
        refine ops_cons ho4 (by rfl) ?_
        have hrun4 : (execOp a2.eval ⟨some y30, .call cl, ty4, pos4, aft4, none⟩).run P w1 = .ok (.value (.int .i64 c')) w1 := by
          have g0 : cl.argTypes[0]? = some ts := by rw [← Array.getElem?_toList, q2]; rfl
          have g1 : (cl.args.map a2.eval)[0]? = some (.slice (some ⟨g'.blk, o', none⟩) len c') := by
            rw [← Array.getElem?_toList, Array.toList_map, q3]
            simp only [List.map_cons, List.getElem?_cons_zero, Act.eval]
            simp [m1]
          simp only [execOp, resolve, q1, Sem.run_bind, Sem.run_pure, Result.andThen_ok, invoke, builtin, Builtin.cap_, g0, g1, t2, goInt]
        simp only [Oper.wp, hrun4, Oper.upon]
        have hS3 := hS2.unknown (d := y30) (.int .i64 c')
        have n28 : x28 ≠ y30 := by
          intro hh; rw [hh] at kne; simp at kne
        have m3' : (a2.put (some y30) (.int .i64 c')).tmps[x28]? = some (.int .i64 (.ofNat k)) := by
          rw [put_other _ _ (fun hh => n28 (by injection hh with hh; exact hh.symm))]; exact m3
        have hy30 : y30 < s2.nt := ble_iff.1 kd0
        have m5 : (a2.put (some y30) (.int .i64 c')).tmps[y30]? = some (.int .i64 c') := put_same (by rw [hS2.tm.size]; exact hy30)
        generalize a2.put (some y30) (.int .i64 c') = a3 at hS3 m3' m5
        refine ops_cons ho5 (by rfl) ?_
        have hrun5 : (execOp a3.eval ⟨some d31, .binOp .gtr bt (.tmp x28) (.tmp y30) yt, ty5, pos5, aft5, none⟩).run P w1 = .ok (.value (.bool bb)) w1 := by
          have e28 : a3.eval (.tmp x28) = .int .i64 (.ofNat k) := by simp [Act.eval, m3']
          have e30 : a3.eval (.tmp y30) = .int .i64 c' := by simp [Act.eval, m5]
          simp [execOp, e28, e30, eqGuard, binOp, Op.intCmp, hbb]
        simp only [Oper.wp, hrun5, Oper.upon]
        have hS4 := hS3.known (d := d31) (v := .bool bb) (v' := .bool bb) (ble_iff.1 kd1) (.bool bb)
        show Exit.then _ _ .normal _ _
        simp only [Exit.then]
        refine wp_mono (hih _ _ hy B hB γ1 _ w1 hS4) fun e a w hq => ?_
        obtain ⟨ae, s5, γ5, rfl, hS5, hex⟩ := hq
        -- what follows
        have fin : ∀ (γ6 : G) (s6 : St) (ae6 : AExit) (e6 : Exit) (a6 : Act) (w6 : World), StR B γ6 s6 a6 w6 → ExR B.ρ γ6 ae6 e6 → leaveR (run E n) fn (.code ae6 s6) = some res → bodyPostD P fn (CallQ B res) e6 a6 w6 := by
          intro γ6 s6 ae6 e6 a6 w6 hS6 hex6 h6
          cases ae6 <;> simp only [leaveR] at h6
          · cases e6 <;> simp only [ExR] at hex6
            exact hih _ _ h6 B hB γ6 a6 w6 s6.nt ⟨hS6.tm, hS6.df, hS6.hp, hS6.fresh, hS6.later⟩ .returning rfl
          · simp at h6
          · cases e6 <;> simp only [ExR] at hex6
            exact hih _ _ h6 B hB γ6 a6 w6 s6.nt ⟨hS6.tm, hS6.df, hS6.hp, hS6.fresh, hS6.later⟩ .returning rfl
          · cases e6 <;> simp only [ExR] at hex6
            obtain ⟨v', rfl, hv⟩ := hex6
            exact hih _ _ h6 B hB γ6 a6 w6 s6.nt ⟨hS6.tm, hS6.df, hS6.hp, hS6.fresh, hS6.later⟩ _ ⟨v', rfl, hv⟩
        cases ae with
        | normal =>
          cases e <;> simp only [ExR] at hex
          simp only [seqR] at hz
          simp only [Exit.then]
          refine wp_mono (hih _ _ hz B hB γ5 a w hS5) fun e6 a6 w6 hq6 => ?_
          obtain ⟨ae6, s6, γ6, rfl, hS6, hex6⟩ := hq6
          exact fin _ _ _ _ _ _ hS6 hex6 h
        | exit j =>
          simp only [seqR] at hz
          injection hz with hz; subst hz
          cases e <;> simp only [ExR] at hex
          simp [leaveR] at h
        | ret =>
          simp only [seqR] at hz
          injection hz with hz; subst hz
          cases e <;> simp only [ExR] at hex
          exact fin γ5 s5 .ret .ret a w hS5 trivial h
        | panic v =>
          simp only [seqR] at hz
          injection hz with hz; subst hz
          cases e <;> simp only [ExR] at hex
          exact fin γ5 s5 (.panic v) (.panic _) a w hS5 hex h
      · cases hcc
    · cases hcc
  · cases hcc
end
end
end Go.Ev
