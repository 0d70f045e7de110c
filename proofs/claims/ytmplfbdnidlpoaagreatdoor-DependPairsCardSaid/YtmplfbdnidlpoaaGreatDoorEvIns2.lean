/- slices.Insert: the two ways joined. -/
import Derived.Test.YtmplfbdnidlpoaaGreatDoorEvIns
namespace Go.Ev
noncomputable section
variable {K : KI}

def seqB : AV → Option (Nat × Nat × Nat)
  | .slice b off len _ => some (b, off, len)
  | .oslice b off len _ => some (b, off, len)
  | _ => none

def isIns (ex : List AV) (L esz : Nat) (r : Res) : Option Nat :=
  match r with
  | .ret (.oslice b o l e) hp nx => og (Nat.beq l L && Nat.beq e esz) (ob (readAt hp b o (Nat.mul L esz)) fun cs => og (sameAVs cs ex) (some nx))
  | _ => none

def mini (b off esz bv : Nat) (cs : List AV) (ov : AObj) (k : Nat) : Heap := (PT.put (PT.put .nil b (.cells (putCells cs .nil off) [] (Nat.add off (Nat.mul k esz)))) bv ov)

def insE (E : Env) (R : Task → Option Res) (f : Nat) (ic : IC) (cc : CapC) (fn : Func) (args : List AV) (hp : Heap) (nx : Nat) : Option Res :=
  match args with
  | [.oslice b off len esz, .int .i64 (.ofNat i), v] =>
    ob (seqB v) fun (bv, ov, m) => og (!Nat.beq b bv && (!Nat.beq esz 0 && Nat.beq m 1)) (ob (readAt hp b off (Nat.mul len esz)) fun cs => ob (readAt hp bv ov (Nat.mul m esz)) fun vs => ob (hp.get bv) fun obv =>
      ob (R (.call f [.slice b off len len, .int .i64 (.ofNat i), v] (mini b off esz bv cs obv len) nx)) fun rB =>
      ob (insB E R ic cc fn b off len esz (Nat.add len m) false [.oslice b off len esz, .int .i64 (.ofNat i), v] (mini b off esz bv cs obv (Nat.add len m)) nx) fun rA =>
      ob (isIns (cs.take (Nat.mul i esz) ++ (vs ++ cs.drop (Nat.mul i esz))) (Nat.add len m) esz rA) fun nA => ob (isIns (cs.take (Nat.mul i esz) ++ (vs ++ cs.drop (Nat.mul i esz))) (Nat.add len m) esz rB) fun nB =>
        some (.ret (.oslice (Nat.add nA nB) 0 (Nat.add len m) esz) (((hp.del b).del bv).put (Nat.add nA nB) (.cells (rowOf (cs.take (Nat.mul i esz) ++ (vs ++ cs.drop (Nat.mul i esz)))) [] (Nat.mul (Nat.add len m) esz))) (Nat.add (Nat.add nA nB) 1)))
  | _ => none

section
variable {P : Program} {E : Env} {B : Base}

theorem isIns_some {ex : List AV} {L esz : Nat} {r : Res} {N : Nat} (h : isIns ex L esz r = some N) : ∃ b o hp, r = .ret (.oslice b o L esz) hp N ∧ readAt hp b o (L * esz) = some ex := by
  unfold isIns at h
  split at h
  · rename_i b o l e hp nx
    simp only [og_some, ob_some, Bool.and_eq_true] at h
    obtain ⟨⟨h1, h2⟩, cs, h3, h4, h5⟩ := h
    have h1 := beq_iff.1 h1
    have h2 := beq_iff.1 h2
    have h4 := sameAVs_eq h4
    injection h5 with h5
    subst h1; subst h2; subst h4; subst h5
    exact ⟨b, o, hp, rfl, h3⟩
  · cases h

/-- what either way leaves, as it is joined -/
theorem ins_join (hB : Good K B) {hp : Heap} (hR : HR B.ρ B.γ B.own hp B.w) {b bv : Nat} {g gv : Blk} (hg : B.γ b = some g) (hgv : B.γ bv = some gv) {ob0 obv : AObj} (hob : hp.get b = some ob0) (hobv : hp.get bv = some obv)
    {own' : Nat → Prop} (hown : own' = fun k => k = g.blk ∨ k = gv.blk ∨ B.w.heap.size ≤ k) {ex : List AV} {L esz N M : Nat} {r : Res} (hr : isIns ex L esz r = some N) (hNM : N ≤ M) {e : Ending} {w' : World}
    (h : CallQ { B with own := own' } r e w') :
    CallQ B (.ret (.oslice M 0 L esz) (((hp.del b).del bv).put M (.cells (rowOf ex) [] (L * esz))) (M + 1)) e w' := by
  obtain ⟨b1, o1, hp1, rfl, hread⟩ := isIns_some hr
  cases e with
  | outgrown => exact h.elim
  | panicked ch => obtain ⟨_, _, _, _, hh, _⟩ := h; cases hh
  | returned v' =>
    obtain ⟨v, hp2, nx2, γ', hh, hv, hR', hf', hl⟩ := h
    injection hh with x1 x2 x3
    subst x1; subst x2; subst x3
    cases hv
    rename_i c1 oo g1 hg1 hoo hLc hN1
    have hfN : Fresh γ' M := fun x hx => hf' x (Nat.le_trans hNM hx)
    have hext := upd_ext (nx := M) hfN ⟨g1.blk, g1.δ + o1, g1.N⟩
    have hle : B.nx ≤ M := Nat.le_trans hl.le hNM
    have ownB : ∀ k, own' k → B.own k := by
      intro k hk
      rw [hown] at hk
      rcases hk with rfl | rfl | hk
      · obtain ⟨g', o', q1, q2, _⟩ := hR.obj b _ hob
        rw [hg] at q1; injection q1 with q1; subst q1; exact q2
      · obtain ⟨g', o', q1, q2, _⟩ := hR.obj bv _ hobv
        rw [hgv] at q1; injection q1 with q1; subst q1; exact q2
      · exact hB.up k hk
    -- the block that holds the answer
    have hread' := hread
    simp only [readAt, ob_some] at hread'
    obtain ⟨ob1, hob1, ⟨t1, z1, n1⟩, hc1, hcs1⟩ := hread'
    cases ob1 <;> simp [AObj.cells?] at hc1
    obtain ⟨rfl, rfl, rfl⟩ := hc1
    obtain ⟨g1', o1', q1, q2, q3, q4⟩ := hR'.obj b1 _ hob1
    rw [hg1] at q1; injection q1 with q1; subst q1
    cases o1' <;> simp only [OR] at q4
    rename_i cells el fz
    obtain ⟨hlen1, hcell1⟩ := cellsFrom_spec _ _ _ _ _ _ hcs1
    -- others
    have other : ∀ x o, hp.get x = some o → x ≠ b → x ≠ bv → ∃ gx o', B.γ x = some gx ∧ B.own gx.blk ∧ w'.heap[gx.blk]? = some o' ∧ OR B.ρ B.γ gx o o' ∧ ¬ own' gx.blk := by
      intro x o hx hxb hxv
      obtain ⟨gx, o', p1, p2, p3, p4⟩ := hR.obj x o hx
      have hlt := hR.lt hx p1
      have hno : ¬ own' gx.blk := by
        rw [hown]
        rintro (hh | hh | hh)
        · exact hxb (hR.inj x b _ _ _ _ hx hob p1 hg hh)
        · exact hxv (hR.inj x bv _ _ _ _ hx hobv p1 hgv hh)
        · omega
      exact ⟨gx, o', p1, p2, (hl.fr.block _ hlt hno).trans p3, p4, hno⟩
    have look : ∀ x o, (((hp.del b).del bv).put M (.cells (rowOf ex) [] (L * esz))).get x = some o → (x = M ∧ o = .cells (rowOf ex) [] (L * esz)) ∨ (x ≠ M ∧ x ≠ b ∧ x ≠ bv ∧ hp.get x = some o) := by
      intro x o hx
      rw [PT.get_put] at hx
      split at hx
      · rename_i hM; injection hx with hx; exact .inl ⟨hM.symm, hx.symm⟩
      · rename_i hM
        rw [PT.get_del] at hx
        split at hx
        · cases hx
        · rename_i hv
          rw [PT.get_del] at hx
          split at hx
          · cases hx
          · rename_i hb; exact .inr ⟨fun hh => hM hh.symm, fun hh => hb hh.symm, fun hh => hv hh.symm, hx⟩
    have keep : ∀ x gx, B.γ x = some gx → upd γ' M ⟨g1.blk, g1.δ + o1, g1.N⟩ x = some gx := fun x gx hx => hext _ _ (hl.ext _ _ hx)
    refine ⟨_, _, _, upd γ' M ⟨g1.blk, g1.δ + o1, g1.N⟩, rfl, ?_, ⟨fun x o hx => ?_, fun x x' o o' gx gx' hx hx' k1 k2 k3 => ?_⟩, upd_fresh hfN _, ⟨fun x gx hx => keep x gx hx, fun x hx => ?_, Nat.le_succ_of_le hle, hl.fr.mono fun i _ hi => ownB i hi⟩⟩
    · exact .oslice M 0 L esz c1 oo ⟨g1.blk, g1.δ + o1, g1.N⟩ (upd_same _ _ _) hLc (by simpa using hN1) (by simpa using hoo)
    · rcases look x o hx with ⟨rfl, rfl⟩ | ⟨h1, h2, h3, h4⟩
      · refine ⟨_, _, upd_same _ _ _, ownB _ q2, q3, ?_⟩
        refine ⟨q4.1, ?_, q4.2.2.1, fun i v hv => ?_⟩
        · have : L * esz ≤ c1 * esz := Nat.mul_le_mul_right _ hLc
          show g1.δ + o1 + L * esz ≤ g1.N
          omega
        · rw [cellOf_eq] at hv
          split at hv
          · rw [get_rowOf] at hv
            split at hv
            · rename_i v1 hv1
              injection hv with hv; subst hv
              obtain ⟨v', p1, p2⟩ := q4.2.2.2 _ _ (hcell1 i _ hv1)
              exact ⟨v', by rw [show g1.δ + o1 + i = g1.δ + (o1 + i) by omega]; exact p1, p2.ext hext⟩
            · simp at hv
          · cases hv
      · obtain ⟨gx, o', p1, p2, p3, p4, _⟩ := other x o h4 h2 h3
        exact ⟨gx, o', keep x gx p1, p2, p3, p4.ext (fun y gy hy => keep y gy hy)⟩
    · rcases look x o hx with ⟨rfl, rfl⟩ | ⟨h1, h2, h3, h4⟩ <;> rcases look x' o' hx' with ⟨e1, e2⟩ | ⟨h1', h2', h3', h4'⟩
      · exact e1.symm
      · rw [upd_same] at k1; injection k1 with k1; subst k1
        obtain ⟨gy, _, p1, _, _, _, p6⟩ := other x' o' h4' h2' h3'
        rw [keep x' gy p1] at k2; injection k2 with k2; subst k2
        exact absurd (k3 ▸ q2) p6
      · subst e1
        rw [upd_same] at k2; injection k2 with k2; subst k2
        obtain ⟨gy, _, p1, _, _, _, p6⟩ := other x o h4 h2 h3
        rw [keep x gy p1] at k1; injection k1 with k1; subst k1
        exact absurd (k3 ▸ q2) p6
      · obtain ⟨gy, _, p1, _⟩ := other x o h4 h2 h3
        obtain ⟨gz, _, p1', _⟩ := other x' o' h4' h2' h3'
        rw [keep x gy p1] at k1; injection k1 with k1; subst k1
        rw [keep x' gz p1'] at k2; injection k2 with k2; subst k2
        exact hR.inj x x' _ _ _ _ h4 h4' p1 p1' k3
    · rw [upd_other _ _ (show x ≠ M by have : x < B.nx := hx; omega)]; exact hl.old x hx

theorem insert_ok (hE : EnvOk P E) (hSum : SumOk P E K) (hB : Good K B) {n f : Nat} {ic : IC} {cc : CapC} {fn : Func} (hfn : P.funcs[f]? = some fn) (hbody : fn.body = some ic.body) (hcc : capOf ic.ops8 = some cc)
    {si : TyI} (hts : E.tys.get cc.ts = some si) {e0 : Nat} (hsd : si.d = .slice e0) {args : List AV} {hp : Heap} {r : Res} (h : insE E (run E n) f ic cc fn args hp B.nx = some r) (hR : HR B.ρ B.γ B.own hp B.w)
    {args' : List Value} (ha : VRs B.ρ B.γ args args') : Calls P f ⟨args'⟩ B.w (CallQ B r) := by
  unfold insE at h
  split at h
  · rename_i b off len esz i v
    simp only [ob_some, og_some, Bool.and_eq_true] at h
    obtain ⟨⟨bv, ov, m⟩, hsq, ⟨hne, hez, hm1⟩, cs, hcs, vs, hvs, obv, hobv, rB, hrB, rA, hrA, nA, hnA, nB, hnB, h⟩ := h
    injection h with h; subst h
    have hne : b ≠ bv := fun hh => by rw [hh] at hne; simp at hne
    have hez : esz ≠ 0 := fun hh => by rw [hh] at hez; simp at hez
    have hm1 : m = 1 := beq_iff.1 hm1
    -- the slice
    have ha' := ha
    cases ha'
    rename_i v0 vs0 hv0 hvs0
    cases hv0
    rename_i c o g hg ho hlc hN
    -- its block
    have hcs' := hcs
    simp only [readAt, ob_some] at hcs'
    obtain ⟨ob0, hob0, ⟨t, z, k⟩, hc0, hcs1⟩ := hcs'
    cases ob0 <;> simp [AObj.cells?] at hc0
    obtain ⟨rfl, rfl, rfl⟩ := hc0
    obtain ⟨g', o', p1, p2, p3, p4⟩ := hR.obj b _ hob0
    rw [hg] at p1; injection p1 with p1; subst p1
    cases o' <;> simp only [OR] at p4
    rename_i cells el fz
    obtain ⟨hlen, hcell⟩ := cellsFrom_spec _ _ _ _ _ _ hcs1
    obtain ⟨gv, ov', q1, q2, q3, q4⟩ := hR.obj bv _ hobv
    -- the small memory
    let own' : Nat → Prop := fun k => k = g.blk ∨ k = gv.blk ∨ B.w.heap.size ≤ k
    have ownB : ∀ k, own' k → B.own k := by
      rintro k (rfl | rfl | hk)
      · exact p2
      · exact q2
      · exact hB.up k hk
    have hB' : Good K { B with own := own' } := ⟨hB.fresh, fun k hk => .inr (.inr hk), fun w' hw => hB.inv w' (hw.mono fun i _ hi => ownB i hi)⟩
    have hmini : ∀ j, j ≤ c → HR B.ρ B.γ own' (mini b off esz bv cs obv j) B.w := by
      intro j hj
      have hjc : j * esz ≤ c * esz := Nat.mul_le_mul_right _ hj
      have look : ∀ x y, (mini b off esz bv cs obv j).get x = some y → (x = bv ∧ y = obv) ∨ (x = b ∧ y = .cells (putCells cs .nil off) [] (off + j * esz)) := by
        intro x y hx
        unfold mini at hx
        rw [PT.get_put] at hx
        split at hx
        · rename_i hh; injection hx with hx; exact .inl ⟨hh.symm, hx.symm⟩
        · rw [PT.get_put] at hx
          split at hx
          · rename_i hh; injection hx with hx; exact .inr ⟨hh.symm, hx.symm⟩
          · simp at hx
      refine ⟨fun x y hx => ?_, fun x x' y y' gx gx' hx hx' k1 k2 k3 => ?_⟩
      · rcases look x y hx with ⟨rfl, rfl⟩ | ⟨rfl, rfl⟩
        · exact ⟨gv, ov', q1, .inr (.inl rfl), q3, q4⟩
        · refine ⟨g, _, hg, .inl rfl, p3, p4.1, by omega, p4.2.2.1, fun y v hy => ?_⟩
          rw [cellOf_eq] at hy
          split at hy
          · rw [get_putCells] at hy
            split at hy
            · rename_i u hu
              injection hy with hy; subst hy
              split at hu
              · rename_i hr
                have := hcell _ _ hu
                rw [show off + (y - off) = y by omega] at this
                exact p4.2.2.2 _ _ this
              · simp at hu
            · simp at hy
          · cases hy
      · rcases look x y hx with ⟨rfl, rfl⟩ | ⟨rfl, rfl⟩ <;> rcases look x' y' hx' with ⟨e1, e2⟩ | ⟨e1, e2⟩
        · exact e1.symm
        · subst e1; exact hR.inj _ _ _ _ _ _ hobv hob0 k1 k2 k3
        · subst e1; exact hR.inj _ _ _ _ _ _ hob0 hobv k1 k2 k3
        · exact e1.symm
    by_cases hroom : c < len + m
    · have hcl : c = len := by omega
      subst hcl
      have ha2 : VRs B.ρ B.γ [.slice b off c c, .int .i64 (.ofNat i), v] (.slice (some ⟨g.blk, o, none⟩) c c :: vs0) := .cons _ _ _ _ (.slice b off c c o g hg (Nat.le_refl _) ho) hvs0
      have := run_ok hE hSum n _ _ hrB { B with own := own' } hB' rfl (hmini c (Nat.le_refl _)) _ ha2
      exact this.mono fun e w' hq => ins_join hB hR hg q1 hob0 hobv rfl hnB (Nat.le_add_left _ _) hq
    · have := insB_ok (B := { B with own := own' }) hE hSum hB' hfn hbody hcc hts hsd hrA hez (g := g) hg (c := c) hN (by simp [hroom]) (hmini (len + m) (by omega)) ha
      exact this.mono fun e w' hq => ins_join hB hR hg q1 hob0 hobv rfl hnA (Nat.le_add_right _ _) hq
  · cases h

/-! the shape of the function, found -/
def icTail : Code → Option IC
  | .seq (.seq (.region id8 ops8 false) (.cond c31 thn .skip)) rest => ob (capOf ops8) fun _ => some ⟨[], id8, ops8, c31, thn, rest⟩
  | _ => none
def icOf : Nat → Code → Option IC
  | 0, c => icTail c
  | n + 1, c => match icTail c with
    | some r => some r
    | none => match c with
      | .seq x y => (icOf n y).map fun r => { r with pre := x :: r.pre }
      | _ => none

/-- plainly, else both ways -/
def insSum (E : Env) (R : Task → Option Res) (f : Nat) (ic : IC) (cc : CapC) (fn : Func) (args : List AV) (hp : Heap) (nx : Nat) : Option Res :=
  oc (insE E R f ic cc fn args hp nx) some (R (.call f args hp nx))
theorem insSum_ok (hE : EnvOk P E) (hSum : SumOk P E K) (hB : Good K B) {n f : Nat} {ic : IC} {cc : CapC} {fn : Func} (hfn : P.funcs[f]? = some fn) (hbody : fn.body = some ic.body) (hcc : capOf ic.ops8 = some cc)
    {si : TyI} (hts : E.tys.get cc.ts = some si) {e0 : Nat} (hsd : si.d = .slice e0) {args : List AV} {hp : Heap} {r : Res} (h : insSum E (run E n) f ic cc fn args hp B.nx = some r) (hR : HR B.ρ B.γ B.own hp B.w)
    {args' : List Value} (ha : VRs B.ρ B.γ args args') : Calls P f ⟨args'⟩ B.w (CallQ B r) := by
  unfold insSum at h
  cases hr : run E n (.call f args hp B.nx) with
  | some x =>
    rw [hr] at h
    injection h with h; subst h
    exact run_ok hE hSum n _ _ hr B hB rfl hR args' ha
  | none =>
    rw [hr] at h
    exact insert_ok hE hSum hB hfn hbody hcc hts hsd h hR ha
end
end
end Go.Ev
