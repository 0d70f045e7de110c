/- The fast evaluator: look-ups in maps. -/
import Derived.Test.YtmplfbdnidlpoaaGreatDoorEvFast
namespace Go.Ev
noncomputable section

def findIF (kk : IntKind) (n : Int) (es : List (AV × AV × Nat)) : Option (Option AV) :=
  List.rec (motive := fun _ => Option (Option AV)) (some none) (fun e _ ih => Prod.rec (motive := fun _ => Option (Option AV)) (fun k r => intC k none fun k' m => og (eqKindF kk k') (bc ih (some (some r.1)) (eqF n m))) e) es
theorem findIF_eq (kk : IntKind) (n : Int) : ∀ (es : List (AV × AV × Nat)) (i : Nat), findIF kk n es = ob (findA (.int kk n) es i) fun r => some (oc none (fun p => some p.2) r)
  | [], _ => rfl
  | (k, v, b) :: es, i => by
    show (intC k none fun k' m => og (eqKindF kk k') (bc (findIF kk n es) (some (some v)) (eqF n m))) = ob (ob (keyEq (.int kk n) k) fun c => bc (findA (.int kk n) es (Nat.add i 1)) (some (some (i, v))) c) _
    cases k <;> try rfl
    rename_i k' m
    show og (eqKindF kk k') _ = ob (ob (og (eqKind kk k') (some (eqInt n m))) _) _
    rw [eqKindF_eq, eqF_eq, findIF_eq kk n es (Nat.add i 1)]
    cases eqKind kk k' with
    | false => rfl
    | true =>
      show bc _ _ _ = ob (bc _ _ _) _
      cases eqInt n m <;> rfl

def tup2 (v : AV) (b : Bool) : AV := .tup [v, .bool b]
def lookW (E : Env) (t : Nat) (ok : Bool) : W (Heap → AV → AV → Option AV) :=
  oc (.mk fun hp m k => opLookup E hp t ok m k)
    (fun z => .mk fun hp m k => intC k (opLookup E hp t ok m k) fun kk n => ob (mapOf hp m) fun es => ob (findIF kk n es) fun r => oc (some (withOk ok z false)) (fun v => some (withOk ok v true)) r)
    (ob (E.tys.get t) fun ti => ob ti.map? fun p => og (keyTy E p.1 (.int .i64 0)) (zeroA E p.2))
theorem keyTy_int (E : Env) (t : Nat) (k k' : IntKind) (n n' : Int) : keyTy E t (.int k n) = keyTy E t (.int k' n') := by
  unfold keyTy
  cases E.tys.get t with
  | none => rfl
  | some ti => obtain ⟨d, _, _, _, _, _⟩ := ti; cases d <;> rfl
theorem lookW_eq (E : Env) (t : Nat) (ok : Bool) : lookW E t ok = .mk fun hp m k => opLookup E hp t ok m k := by
  unfold lookW
  cases hz : (ob (E.tys.get t) fun ti => ob ti.map? fun p => og (keyTy E p.1 (.int .i64 0)) (zeroA E p.2)) with
  | none => rfl
  | some z =>
    simp only [oc_some]
    congr 1
    funext hp m k
    cases k <;> try rfl
    rename_i kk n
    simp only [ob_some, og_some] at hz
    obtain ⟨ti, h1, ⟨kt, e⟩, h2, h3, h4⟩ := hz
    show (ob (mapOf hp m) fun es => ob (findIF kk n es) fun r => _) = opLookup E hp t ok m (.int kk n)
    simp only [opLookup, h1, ob, h2]
    rw [keyTy_int E kt kk .i64 n 0, h3]
    show _ = (ob (mapOf hp m) fun es => ob (findA (.int kk n) es 0) fun r => oc (ob (zeroA E e) fun z => some (withOk ok z false)) (fun p => some (withOk ok p.2 true)) r)
    cases mapOf hp m with
    | none => rfl
    | some es =>
      show (ob (findIF kk n es) fun r => _) = ob (findA (.int kk n) es 0) fun r => _
      rw [findIF_eq kk n es 0]
      cases findA (.int kk n) es 0 with
      | none => rfl
      | some r =>
        cases r with
        | none => show some _ = ob (zeroA E e) _; rw [h4]; rfl
        | some p => rfl
end
end Go.Ev
