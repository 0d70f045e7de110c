/- Plans, reckoned with quick words. -/
import Derived.Test.YtmplfbdnidlpoaaGreatDoorEvFast
namespace Go.Ev
noncomputable section

section
variable {α : Type}
def andF (a b : Bool) : Bool := bc false b a
def orF (a b : Bool) : Bool := bc b true a
theorem andF_eq (a b : Bool) : andF a b = (a && b) := by cases a <;> rfl
theorem orF_eq (a b : Bool) : orF a b = (a || b) := by cases a <;> rfl
def allF (p : α → Bool) (l : List α) : Bool := List.rec (motive := fun _ => Bool) true (fun a _ ih => bc false ih (p a)) l
theorem allF_eq (p : α → Bool) : ∀ (l : List α), allF p l = l.all p
  | [] => rfl
  | a :: l => by
    show bc false (allF p l) (p a) = _
    rw [allF_eq p l, List.all_cons]
    cases p a <;> rfl
def anyF (p : α → Bool) (l : List α) : Bool := List.rec (motive := fun _ => Bool) false (fun a _ ih => bc ih true (p a)) l
theorem anyF_eq (p : α → Bool) : ∀ (l : List α), anyF p l = l.any p
  | [] => rfl
  | a :: l => by
    show bc (anyF p l) true (p a) = _
    rw [anyF_eq p l, List.any_cons]
    cases p a <;> rfl
def tb (m i : Nat) : Bool := Nat.beq (Nat.land (Nat.shiftRight m i) 1) 1
theorem tb_eq (m i : Nat) : tb m i = m.testBit i := by
  have h : Nat.land (Nat.shiftRight m i) 1 = m / 2 ^ i % 2 := by
    show (m >>> i) &&& 1 = _
    rw [Nat.and_one_is_mod, Nat.shiftRight_eq_div_pow]
  unfold tb
  rw [h, Nat.testBit_eq_decide_div_mod_eq, Bool.eq_iff_iff, beq_iff, decide_eq_true_eq]
def elemF (x : Nat) (l : List Nat) : Bool := List.rec (motive := fun _ => Bool) false (fun y _ ih => bc ih true (Nat.beq x y)) l
theorem elemF_eq (x : Nat) : ∀ (l : List Nat), elemF x l = elemOf x l
  | [] => rfl
  | y :: l => by
    show bc (elemF x l) true (Nat.beq x y) = bc (elemOf x l) true (Nat.beq x y)
    rw [elemF_eq x l]
def getF (l : List Nat) (i : Nat) : Nat := List.rec (motive := fun _ => Nat → Nat) (fun _ => 0) (fun a _ ih i => bc (ih (Nat.sub i 1)) a (Nat.beq i 0)) l i
theorem getF_eq : ∀ (l : List Nat) (i : Nat), getF l i = l.getD i 0
  | [], i => by simp [getF]
  | a :: l, i => by
    show bc (getF l (Nat.sub i 1)) a (Nat.beq i 0) = _
    rw [getF_eq l]
    cases i with
    | zero => rfl
    | succ i => show l.getD (i + 1 - 1) 0 = _; simp
end

def sameF (d : Nat) (e : Option Nat) : Bool := oc false (Nat.beq d) e
theorem sameF_eq (d : Nat) (e : Option Nat) : sameF d e = sameDst d e := by cases e <;> rfl
def pairF (all : List Oper) (x y : PI) : Bool :=
  orF (Nat.beq x.i y.i) (oc true (fun d => andF (notF (sameF d y.o.dst)) (orF (notF (elemF d (readsOf all y.o))) (orF (tb y.m x.i) (tb x.m y.i)))) x.o.dst)
theorem pairF_eq (all : List Oper) (x y : PI) : pairF all x y = pairOk all x y := by
  unfold pairF pairOk
  simp only [orF_eq, andF_eq, notF_eq, sameF_eq, elemF_eq, tb_eq]
  cases x.o.dst <;> rfl
def maskF (ms : List Nat) (n m : Nat) (es : List Nat) : Bool :=
  andF (allF (tb m) es) (allF (fun j => orF (notF (tb m j)) (anyF (fun e => orF (Nat.beq e j) (tb (getF ms e) j)) es)) (List.range n))
theorem maskF_eq (ms : List Nat) (n m : Nat) (es : List Nat) : maskF ms n m es = maskOk ms n m es := by
  unfold maskF maskOk
  simp only [orF_eq, andF_eq, notF_eq, allF_eq, anyF_eq, tb_eq, getF_eq]
  rw [show (tb m) = fun j => m.testBit j from funext (tb_eq m)]
def wholeF (all : List Oper) (ms : List Nat) (l : List PI) : Bool :=
  List.rec (motive := fun _ => Bool) true (fun p _ ih => andF (Nat.ble (Nat.add p.m 1) (2 ^ p.i)) (andF (maskF ms all.length p.m (edgesOf p.o)) ih)) l
theorem wholeF_eq (all : List Oper) (ms : List Nat) : ∀ (l : List PI), wholeF all ms l = wholeOk all ms l
  | [] => rfl
  | p :: l => by
    show andF _ (andF _ (wholeF all ms l)) = _
    rw [wholeF_eq all ms l, maskF_eq, andF_eq, andF_eq]
    rfl
def loudF (k : OpK) : Bool := OpK.rec (motive := fun _ => Bool) false false true k
theorem loudF_eq (k : OpK) : loudF k = isLoud k := by cases k <;> rfl
def chkF (all : List Oper) (l : List PI) : Nat → Bool :=
  List.rec (motive := fun _ => Nat → Bool) (fun done => Nat.beq done (2 ^ all.length - 1))
    (fun p ps ih done => andF (notF (tb done p.i)) (andF (within p.m done) (andF (orF (notF (loudF p.k)) (allF (fun q => tb q.m p.i) ps)) (ih (Nat.lor done (2 ^ p.i)))))) l
theorem chkF_eq (all : List Oper) : ∀ (l : List PI) (done : Nat), chkF all l done = planChk all l done
  | [], _ => rfl
  | p :: ps, done => by
    show andF _ (andF _ (andF _ (chkF all ps (Nat.lor done (2 ^ p.i))))) = _
    rw [chkF_eq all ps]
    simp only [andF_eq, orF_eq, notF_eq, allF_eq, tb_eq, loudF_eq]
    rfl
def masksF (l : List Oper) : List Nat → List Nat :=
  List.rec (motive := fun _ => List Nat → List Nat) (fun acc => acc)
    (fun o _ ih acc => ih (acc ++ [(edgesOf o).foldl (fun m j => Nat.lor (Nat.lor m (2 ^ j)) (getF acc j)) 0])) l
theorem masksF_eq : ∀ (l : List Oper) (acc : List Nat), masksF l acc = masksFrom l acc
  | [], _ => rfl
  | o :: os, acc => by
    show masksF os _ = _
    rw [masksF_eq os]
    simp only [getF_eq]
    rfl
/-! no pairs: writers by slots -/
def distF (l : List PI) : Nat → Bool :=
  List.rec (motive := fun _ => Nat → Bool) (fun _ => true) (fun p _ ih seen => oc (ih seen) (fun d => bc (ih (Nat.lor seen (2 ^ d))) false (tb seen d)) p.o.dst) l
theorem distF_ok : ∀ (l : List PI) (seen : Nat), distF l seen = true → (∀ p ∈ l, ∀ d, p.o.dst = some d → seen.testBit d = false) ∧ l.Pairwise (fun p q => ∀ d, p.o.dst = some d → q.o.dst ≠ some d)
  | [], _, _ => ⟨by simp, .nil⟩
  | p :: l, seen, h => by
    have h : oc (distF l seen) (fun d => bc (distF l (Nat.lor seen (2 ^ d))) false (tb seen d)) p.o.dst = true := h
    cases hd : p.o.dst with
    | none =>
      rw [hd] at h
      obtain ⟨h1, h2⟩ := distF_ok l seen h
      refine ⟨fun q hq d hqd => ?_, .cons (fun q _ d hpd => ?_) h2⟩
      · rcases List.mem_cons.1 hq with rfl | hq
        · rw [hd] at hqd; cases hqd
        · exact h1 q hq d hqd
      · rw [hd] at hpd; cases hpd
    | some e =>
      rw [hd] at h
      simp only [oc_some, tb_eq] at h
      cases hb : seen.testBit e with
      | true => rw [hb] at h; cases h
      | false =>
        rw [hb] at h
        obtain ⟨h1, h2⟩ := distF_ok l _ h
        have hor : ∀ d, (Nat.lor seen (2 ^ e)).testBit d = false → seen.testBit d = false ∧ d ≠ e := by
          intro d hdd
          have : (seen ||| 2 ^ e).testBit d = false := hdd
          rw [Nat.testBit_or, Nat.testBit_two_pow, Bool.or_eq_false_iff] at this
          exact ⟨this.1, fun hh => by simp [hh] at this⟩
        refine ⟨fun q hq d hqd => ?_, .cons (fun q hq d hpd hqd => ?_) h2⟩
        · rcases List.mem_cons.1 hq with rfl | hq
          · rw [hd] at hqd; injection hqd with hqd; subst hqd; exact hb
          · exact (hor d (h1 q hq d hqd)).1
        · rw [hd] at hpd; injection hpd with hpd; subst hpd
          exact (hor _ (h1 q hq _ hqd)).2 rfl
def writers (l : List PI) : PT PI := List.rec (motive := fun _ => PT PI) .nil (fun p _ ih => oc ih (fun d => ih.put d p) p.o.dst) l
theorem writers_ok : ∀ (l : List PI) (x : PI) (d : Nat), x ∈ l → x.o.dst = some d → ∃ y, y ∈ l ∧ y.o.dst = some d ∧ (writers l).get d = some y
  | [], _, _, h, _ => by cases h
  | p :: l, x, d, h, hd => by
    show ∃ y, y ∈ p :: l ∧ y.o.dst = some d ∧ (oc (writers l) (fun e => (writers l).put e p) p.o.dst).get d = some y
    cases hp : p.o.dst with
    | none =>
      rcases List.mem_cons.1 h with rfl | h
      · rw [hp] at hd; cases hd
      · obtain ⟨y, h1, h2, h3⟩ := writers_ok l x d h hd
        exact ⟨y, List.mem_cons_of_mem _ h1, h2, h3⟩
    | some e =>
      simp only [oc_some, PT.get_put]
      by_cases he : e = d
      · subst he; rw [if_pos rfl]; exact ⟨p, List.mem_cons_self .., hp, rfl⟩
      · rw [if_neg he]
        rcases List.mem_cons.1 h with rfl | h
        · rw [hp] at hd; injection hd with hd; exact absurd hd he
        · obtain ⟨y, h1, h2, h3⟩ := writers_ok l x d h hd
          exact ⟨y, List.mem_cons_of_mem _ h1, h2, h3⟩
def pairsF (all : List Oper) (l : List PI) : Bool :=
  andF (distF l 0) (allF (fun y => allF (fun t => oc true (fun x => orF (Nat.beq x.i y.i) (orF (tb y.m x.i) (tb x.m y.i))) ((writers l).get t)) (readsOf all y.o)) l)
theorem pairwise_uniq {l : List PI} (h : l.Pairwise (fun p q => ∀ d, p.o.dst = some d → q.o.dst ≠ some d)) {x y : PI} {d : Nat} (hx : x ∈ l) (hy : y ∈ l) (hxd : x.o.dst = some d) (hyd : y.o.dst = some d) : x = y := by
  induction h with
  | nil => cases hx
  | cons h1 _ ih =>
    rcases List.mem_cons.1 hx with rfl | hx' <;> rcases List.mem_cons.1 hy with rfl | hy'
    · rfl
    · exact absurd hyd (h1 _ hy' d hxd)
    · exact absurd hxd (h1 _ hx' d hyd)
    · exact ih hx' hy'
theorem pairsF_ok (all : List Oper) (l : List PI) (h : pairsF all l = true) : l.all (fun x => l.all (pairOk all x)) = true := by
  simp only [pairsF, andF_eq, Bool.and_eq_true, allF_eq, List.all_eq_true] at h
  obtain ⟨h1, h2⟩ := h
  obtain ⟨_, hp⟩ := distF_ok l 0 h1
  simp only [List.all_eq_true]
  intro x hx y hy
  simp only [pairOk, Bool.or_eq_true]
  by_cases hi : Nat.beq x.i y.i = true
  · exact .inl hi
  · right
    cases hd : x.o.dst with
    | none => rfl
    | some d =>
      simp only [Bool.and_eq_true, Bool.or_eq_true, Bool.not_eq_true']
      constructor
      · cases hyd : y.o.dst with
        | none => rfl
        | some e =>
          show Nat.beq d e = false
          rw [Bool.eq_false_iff]
          intro he
          have he := beq_iff.1 he
          subst he
          have := pairwise_uniq hp hx hy hd hyd
          subst this
          exact hi (beq_iff.2 rfl)
      · cases he : elemOf d (readsOf all y.o) with
        | false => exact .inl rfl
        | true =>
          right
          have hm := elemOf_iff.1 he
          obtain ⟨x', hx', hd', hw⟩ := writers_ok l x d hx hd
          have := pairwise_uniq hp hx hx' hd hd'
          subst this
          have := h2 y hy d hm
          rw [hw] at this
          simp only [oc_some, orF_eq, Bool.or_eq_true, tb_eq] at this
          rcases this with hh | hh
          · exact absurd hh hi
          · exact hh

/-! masks that are just what stands ahead -/
def unionF (ms es : List Nat) : Nat := List.rec (motive := fun _ => Nat → Nat) (fun m => m) (fun j _ ih m => ih (Nat.lor (Nat.lor m (2 ^ j)) (getF ms j))) es 0
theorem union_bit (ms : List Nat) (k : Nat) : ∀ (es : List Nat) (m : Nat), (List.rec (motive := fun _ => Nat → Nat) (fun m => m) (fun j _ ih m => ih (Nat.lor (Nat.lor m (2 ^ j)) (getF ms j))) es m : Nat).testBit k = (m.testBit k || es.any fun e => Nat.beq e k || (ms.getD e 0).testBit k)
  | [], m => by simp
  | e :: es, m => by
    show (List.rec (motive := fun _ => Nat → Nat) (fun m => m) (fun j _ ih m => ih (Nat.lor (Nat.lor m (2 ^ j)) (getF ms j))) es (Nat.lor (Nat.lor m (2 ^ e)) (getF ms e)) : Nat).testBit k = _
    rw [union_bit ms k es]
    have : (Nat.lor (Nat.lor m (2 ^ e)) (getF ms e)).testBit k = (m.testBit k || (Nat.beq e k || (ms.getD e 0).testBit k)) := by
      show ((m ||| 2 ^ e) ||| getF ms e).testBit k = _
      rw [Nat.testBit_or, Nat.testBit_or, Nat.testBit_two_pow, getF_eq, Bool.or_assoc]
      congr 2
      rw [Bool.eq_iff_iff, decide_eq_true_eq, beq_iff]
    rw [this, List.any_cons, Bool.or_assoc]
def wholeG (ms : List Nat) (l : List PI) : Bool :=
  List.rec (motive := fun _ => Bool) true (fun p _ ih => andF (Nat.ble (Nat.add p.m 1) (2 ^ p.i)) (andF (Nat.beq p.m (unionF ms (edgesOf p.o))) ih)) l
theorem wholeG_ok (all : List Oper) (ms : List Nat) : ∀ (l : List PI), wholeG ms l = true → wholeOk all ms l = true
  | [], _ => rfl
  | p :: l, h => by
    have h : andF (Nat.ble (Nat.add p.m 1) (2 ^ p.i)) (andF (Nat.beq p.m (unionF ms (edgesOf p.o))) (wholeG ms l)) = true := h
    simp only [andF_eq, Bool.and_eq_true] at h
    obtain ⟨h1, h2, h3⟩ := h
    have h2 := beq_iff.1 h2
    simp only [wholeOk, Bool.and_eq_true]
    refine ⟨h1, ?_, wholeG_ok all ms l h3⟩
    have hb : ∀ k, p.m.testBit k = (edgesOf p.o).any fun e => Nat.beq e k || (ms.getD e 0).testBit k := fun k => by
      rw [h2]
      have := union_bit ms k (edgesOf p.o) 0
      simpa [unionF] using this
    simp only [maskOk, Bool.and_eq_true, List.all_eq_true]
    refine ⟨fun j hj => ?_, fun j _ => ?_⟩
    · rw [hb j, List.any_eq_true]
      exact ⟨j, hj, by rw [Bool.or_eq_true]; exact .inl (beq_iff.2 rfl)⟩
    · rw [← hb j]
      cases p.m.testBit j <;> rfl

def planF (E : Env) (all : List Oper) : Option (List PI) :=
  let ms := masksF all []
  let ps := mkPIs E all ms 0
  let pl := orderOf (Nat.add all.length 1) ps 0
  bc (planOf E all) (og (chkF all pl 0) (some pl)) (andF (pairsF all ps) (wholeG ms ps))
theorem planF_eq (E : Env) (all : List Oper) : planF E all = planOf E all := by
  unfold planF
  simp only [masksF_eq]
  cases h : andF (pairsF all (mkPIs E all (masksFrom all []) 0)) (wholeG (masksFrom all []) (mkPIs E all (masksFrom all []) 0)) with
  | false => rfl
  | true =>
    simp only [andF_eq, Bool.and_eq_true] at h
    unfold planOf
    simp only [bc_true, pairsF_ok _ _ h.1, wholeG_ok all _ _ h.2, chkF_eq]
    rfl
end
end Go.Ev
