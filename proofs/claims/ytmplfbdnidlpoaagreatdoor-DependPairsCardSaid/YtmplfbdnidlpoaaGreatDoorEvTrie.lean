/- A tree with natural keys, made for the kernel: the way to a key is found once, then kept. -/
namespace Go.Ev

noncomputable section

/-- then -/
def ob {α β : Type} (x : Option α) (f : α → Option β) : Option β := Option.rec (motive := fun _ => Option β) none f x
/-- if, or none -/
def og {β : Type} (c : Bool) (x : Option β) : Option β := Bool.rec (motive := fun _ => Option β) none x c
/-- the first if it is false, the second if it is true -/
def bc {α : Type} (f t : α) (c : Bool) : α := Bool.rec (motive := fun _ => α) f t c
/-- by cases -/
def oc {α β : Type} (n : β) (f : α → β) (x : Option α) : β := Option.rec (motive := fun _ => β) n f x

theorem bc_eq {α : Type} (f t : α) (c : Bool) : bc f t c = if c = true then t else f := by cases c <;> rfl

/-- a wrapper: what stands in it is reckoned once -/
inductive W (α : Type) where
  | mk (x : α)
/-- sixteen in a row -/
inductive N4 (α : Type) where
  | mk (x0 x1 x2 x3 x4 x5 x6 x7 x8 x9 x10 x11 x12 x13 x14 x15 : α)
/-- a plain tree -/
inductive BT (α : Type) where
  | nil
  | node (l : BT α) (v : Option α) (r : BT α)

section
variable {α β : Type}
def W.bind (w : W α) (f : α → β) : β := W.rec (motive := fun _ => β) f w
theorem W.bind_mk (x : α) (f : α → β) : W.bind (.mk x) f = f x := rfl

namespace N4
def s0 (r : N4 α) : α := N4.rec (motive := fun _ => α) (fun x0 _ _ _ _ _ _ _ _ _ _ _ _ _ _ _ => x0) r
def s1 (r : N4 α) : α := N4.rec (motive := fun _ => α) (fun _ x1 _ _ _ _ _ _ _ _ _ _ _ _ _ _ => x1) r
def s2 (r : N4 α) : α := N4.rec (motive := fun _ => α) (fun _ _ x2 _ _ _ _ _ _ _ _ _ _ _ _ _ => x2) r
def s3 (r : N4 α) : α := N4.rec (motive := fun _ => α) (fun _ _ _ x3 _ _ _ _ _ _ _ _ _ _ _ _ => x3) r
def s4 (r : N4 α) : α := N4.rec (motive := fun _ => α) (fun _ _ _ _ x4 _ _ _ _ _ _ _ _ _ _ _ => x4) r
def s5 (r : N4 α) : α := N4.rec (motive := fun _ => α) (fun _ _ _ _ _ x5 _ _ _ _ _ _ _ _ _ _ => x5) r
def s6 (r : N4 α) : α := N4.rec (motive := fun _ => α) (fun _ _ _ _ _ _ x6 _ _ _ _ _ _ _ _ _ => x6) r
def s7 (r : N4 α) : α := N4.rec (motive := fun _ => α) (fun _ _ _ _ _ _ _ x7 _ _ _ _ _ _ _ _ => x7) r
def s8 (r : N4 α) : α := N4.rec (motive := fun _ => α) (fun _ _ _ _ _ _ _ _ x8 _ _ _ _ _ _ _ => x8) r
def s9 (r : N4 α) : α := N4.rec (motive := fun _ => α) (fun _ _ _ _ _ _ _ _ _ x9 _ _ _ _ _ _ => x9) r
def s10 (r : N4 α) : α := N4.rec (motive := fun _ => α) (fun _ _ _ _ _ _ _ _ _ _ x10 _ _ _ _ _ => x10) r
def s11 (r : N4 α) : α := N4.rec (motive := fun _ => α) (fun _ _ _ _ _ _ _ _ _ _ _ x11 _ _ _ _ => x11) r
def s12 (r : N4 α) : α := N4.rec (motive := fun _ => α) (fun _ _ _ _ _ _ _ _ _ _ _ _ x12 _ _ _ => x12) r
def s13 (r : N4 α) : α := N4.rec (motive := fun _ => α) (fun _ _ _ _ _ _ _ _ _ _ _ _ _ x13 _ _ => x13) r
def s14 (r : N4 α) : α := N4.rec (motive := fun _ => α) (fun _ _ _ _ _ _ _ _ _ _ _ _ _ _ x14 _ => x14) r
def s15 (r : N4 α) : α := N4.rec (motive := fun _ => α) (fun _ _ _ _ _ _ _ _ _ _ _ _ _ _ _ x15 => x15) r
def u0 (f : α → α) (r : N4 α) : N4 α := N4.rec (motive := fun _ => N4 α) (fun x0 x1 x2 x3 x4 x5 x6 x7 x8 x9 x10 x11 x12 x13 x14 x15 => .mk (f x0) x1 x2 x3 x4 x5 x6 x7 x8 x9 x10 x11 x12 x13 x14 x15) r
def u1 (f : α → α) (r : N4 α) : N4 α := N4.rec (motive := fun _ => N4 α) (fun x0 x1 x2 x3 x4 x5 x6 x7 x8 x9 x10 x11 x12 x13 x14 x15 => .mk x0 (f x1) x2 x3 x4 x5 x6 x7 x8 x9 x10 x11 x12 x13 x14 x15) r
def u2 (f : α → α) (r : N4 α) : N4 α := N4.rec (motive := fun _ => N4 α) (fun x0 x1 x2 x3 x4 x5 x6 x7 x8 x9 x10 x11 x12 x13 x14 x15 => .mk x0 x1 (f x2) x3 x4 x5 x6 x7 x8 x9 x10 x11 x12 x13 x14 x15) r
def u3 (f : α → α) (r : N4 α) : N4 α := N4.rec (motive := fun _ => N4 α) (fun x0 x1 x2 x3 x4 x5 x6 x7 x8 x9 x10 x11 x12 x13 x14 x15 => .mk x0 x1 x2 (f x3) x4 x5 x6 x7 x8 x9 x10 x11 x12 x13 x14 x15) r
def u4 (f : α → α) (r : N4 α) : N4 α := N4.rec (motive := fun _ => N4 α) (fun x0 x1 x2 x3 x4 x5 x6 x7 x8 x9 x10 x11 x12 x13 x14 x15 => .mk x0 x1 x2 x3 (f x4) x5 x6 x7 x8 x9 x10 x11 x12 x13 x14 x15) r
def u5 (f : α → α) (r : N4 α) : N4 α := N4.rec (motive := fun _ => N4 α) (fun x0 x1 x2 x3 x4 x5 x6 x7 x8 x9 x10 x11 x12 x13 x14 x15 => .mk x0 x1 x2 x3 x4 (f x5) x6 x7 x8 x9 x10 x11 x12 x13 x14 x15) r
def u6 (f : α → α) (r : N4 α) : N4 α := N4.rec (motive := fun _ => N4 α) (fun x0 x1 x2 x3 x4 x5 x6 x7 x8 x9 x10 x11 x12 x13 x14 x15 => .mk x0 x1 x2 x3 x4 x5 (f x6) x7 x8 x9 x10 x11 x12 x13 x14 x15) r
def u7 (f : α → α) (r : N4 α) : N4 α := N4.rec (motive := fun _ => N4 α) (fun x0 x1 x2 x3 x4 x5 x6 x7 x8 x9 x10 x11 x12 x13 x14 x15 => .mk x0 x1 x2 x3 x4 x5 x6 (f x7) x8 x9 x10 x11 x12 x13 x14 x15) r
def u8 (f : α → α) (r : N4 α) : N4 α := N4.rec (motive := fun _ => N4 α) (fun x0 x1 x2 x3 x4 x5 x6 x7 x8 x9 x10 x11 x12 x13 x14 x15 => .mk x0 x1 x2 x3 x4 x5 x6 x7 (f x8) x9 x10 x11 x12 x13 x14 x15) r
def u9 (f : α → α) (r : N4 α) : N4 α := N4.rec (motive := fun _ => N4 α) (fun x0 x1 x2 x3 x4 x5 x6 x7 x8 x9 x10 x11 x12 x13 x14 x15 => .mk x0 x1 x2 x3 x4 x5 x6 x7 x8 (f x9) x10 x11 x12 x13 x14 x15) r
def u10 (f : α → α) (r : N4 α) : N4 α := N4.rec (motive := fun _ => N4 α) (fun x0 x1 x2 x3 x4 x5 x6 x7 x8 x9 x10 x11 x12 x13 x14 x15 => .mk x0 x1 x2 x3 x4 x5 x6 x7 x8 x9 (f x10) x11 x12 x13 x14 x15) r
def u11 (f : α → α) (r : N4 α) : N4 α := N4.rec (motive := fun _ => N4 α) (fun x0 x1 x2 x3 x4 x5 x6 x7 x8 x9 x10 x11 x12 x13 x14 x15 => .mk x0 x1 x2 x3 x4 x5 x6 x7 x8 x9 x10 (f x11) x12 x13 x14 x15) r
def u12 (f : α → α) (r : N4 α) : N4 α := N4.rec (motive := fun _ => N4 α) (fun x0 x1 x2 x3 x4 x5 x6 x7 x8 x9 x10 x11 x12 x13 x14 x15 => .mk x0 x1 x2 x3 x4 x5 x6 x7 x8 x9 x10 x11 (f x12) x13 x14 x15) r
def u13 (f : α → α) (r : N4 α) : N4 α := N4.rec (motive := fun _ => N4 α) (fun x0 x1 x2 x3 x4 x5 x6 x7 x8 x9 x10 x11 x12 x13 x14 x15 => .mk x0 x1 x2 x3 x4 x5 x6 x7 x8 x9 x10 x11 x12 (f x13) x14 x15) r
def u14 (f : α → α) (r : N4 α) : N4 α := N4.rec (motive := fun _ => N4 α) (fun x0 x1 x2 x3 x4 x5 x6 x7 x8 x9 x10 x11 x12 x13 x14 x15 => .mk x0 x1 x2 x3 x4 x5 x6 x7 x8 x9 x10 x11 x12 x13 (f x14) x15) r
def u15 (f : α → α) (r : N4 α) : N4 α := N4.rec (motive := fun _ => N4 α) (fun x0 x1 x2 x3 x4 x5 x6 x7 x8 x9 x10 x11 x12 x13 x14 x15 => .mk x0 x1 x2 x3 x4 x5 x6 x7 x8 x9 x10 x11 x12 x13 x14 (f x15)) r
def dig {γ : Type} (i : Nat) (x0 x1 x2 x3 x4 x5 x6 x7 x8 x9 x10 x11 x12 x13 x14 x15 : γ) : γ := (bc (bc (bc (bc x0 x1 (Nat.ble 1 i)) (bc x2 x3 (Nat.ble 3 i)) (Nat.ble 2 i)) (bc (bc x4 x5 (Nat.ble 5 i)) (bc x6 x7 (Nat.ble 7 i)) (Nat.ble 6 i)) (Nat.ble 4 i)) (bc (bc (bc x8 x9 (Nat.ble 9 i)) (bc x10 x11 (Nat.ble 11 i)) (Nat.ble 10 i)) (bc (bc x12 x13 (Nat.ble 13 i)) (bc x14 x15 (Nat.ble 15 i)) (Nat.ble 14 i)) (Nat.ble 12 i)) (Nat.ble 8 i))
def dsel (i : Nat) : W (N4 α → α) := dig i (.mk s0) (.mk s1) (.mk s2) (.mk s3) (.mk s4) (.mk s5) (.mk s6) (.mk s7) (.mk s8) (.mk s9) (.mk s10) (.mk s11) (.mk s12) (.mk s13) (.mk s14) (.mk s15)
def dupd (i : Nat) : W ((α → α) → N4 α → N4 α) := dig i (.mk u0) (.mk u1) (.mk u2) (.mk u3) (.mk u4) (.mk u5) (.mk u6) (.mk u7) (.mk u8) (.mk u9) (.mk u10) (.mk u11) (.mk u12) (.mk u13) (.mk u14) (.mk u15)
def all (x : α) : N4 α := .mk x x x x x x x x x x x x x x x x
def sel (i : Nat) (r : N4 α) : α := dig i (s0 r) (s1 r) (s2 r) (s3 r) (s4 r) (s5 r) (s6 r) (s7 r) (s8 r) (s9 r) (s10 r) (s11 r) (s12 r) (s13 r) (s14 r) (s15 r)
def upd (i : Nat) (f : α → α) (r : N4 α) : N4 α := dig i (u0 f r) (u1 f r) (u2 f r) (u3 f r) (u4 f r) (u5 f r) (u6 f r) (u7 f r) (u8 f r) (u9 f r) (u10 f r) (u11 f r) (u12 f r) (u13 f r) (u14 f r) (u15 f r)
theorem dig_map {γ δ : Type} (g : γ → δ) (i : Nat) (x0 x1 x2 x3 x4 x5 x6 x7 x8 x9 x10 x11 x12 x13 x14 x15 : γ) : g (dig i x0 x1 x2 x3 x4 x5 x6 x7 x8 x9 x10 x11 x12 x13 x14 x15) = dig i (g x0) (g x1) (g x2) (g x3) (g x4) (g x5) (g x6) (g x7) (g x8) (g x9) (g x10) (g x11) (g x12) (g x13) (g x14) (g x15) := by
  have h : ∀ (a b : γ) (c : Bool), g (bc a b c) = bc (g a) (g b) c := fun a b c => by cases c <;> rfl
  unfold dig
  simp only [h]
theorem dsel_eq (i : Nat) : (dsel i : W (N4 α → α)) = .mk (sel i) := by
  have : (sel i : N4 α → α) = dig i s0 s1 s2 s3 s4 s5 s6 s7 s8 s9 s10 s11 s12 s13 s14 s15 := by
    funext r; exact (dig_map (fun f : N4 α → α => f r) i _ _ _ _ _ _ _ _ _ _ _ _ _ _ _ _).symm
  rw [this]
  exact (dig_map W.mk i _ _ _ _ _ _ _ _ _ _ _ _ _ _ _ _).symm
theorem dupd_eq (i : Nat) : (dupd i : W ((α → α) → N4 α → N4 α)) = .mk (upd i) := by
  have : (upd i : (α → α) → N4 α → N4 α) = dig i u0 u1 u2 u3 u4 u5 u6 u7 u8 u9 u10 u11 u12 u13 u14 u15 := by
    funext f r; exact (dig_map (fun h : (α → α) → N4 α → N4 α => h f r) i _ _ _ _ _ _ _ _ _ _ _ _ _ _ _ _).symm
  rw [this]
  exact (dig_map W.mk i _ _ _ _ _ _ _ _ _ _ _ _ _ _ _ _).symm
theorem lt16 {i : Nat} (h : i < 16) : i = 0 ∨ i = 1 ∨ i = 2 ∨ i = 3 ∨ i = 4 ∨ i = 5 ∨ i = 6 ∨ i = 7 ∨ i = 8 ∨ i = 9 ∨ i = 10 ∨ i = 11 ∨ i = 12 ∨ i = 13 ∨ i = 14 ∨ i = 15 := by omega
theorem sel_upd {i j : Nat} (hi : i < 16) (hj : j < 16) (f : α → α) (r : N4 α) : sel j (upd i f r) = if i = j then f (sel j r) else sel j r := by
  cases r
  rcases lt16 hi with rfl | rfl | rfl | rfl | rfl | rfl | rfl | rfl | rfl | rfl | rfl | rfl | rfl | rfl | rfl | rfl <;> rcases lt16 hj with rfl | rfl | rfl | rfl | rfl | rfl | rfl | rfl | rfl | rfl | rfl | rfl | rfl | rfl | rfl | rfl <;> rfl
theorem sel_all {i : Nat} (x : α) : sel i (all x) = x := by
  have h : ∀ (c : Bool), bc x x c = x := fun c => by cases c <;> rfl
  unfold sel dig all
  simp only [s0, s1, s2, s3, s4, s5, s6, s7, s8, s9, s10, s11, s12, s13, s14, s15, h]
end N4
end

abbrev T1 (α : Type) := N4 (Option α)
abbrev T2 (α : Type) := N4 (T1 α)
abbrev T3 (α : Type) := N4 (T2 α)
abbrev T4 (α : Type) := N4 (T3 α)

namespace BT
variable {α : Type}
def get (t : BT α) : Nat → Option α :=
  BT.rec (motive := fun _ => Nat → Option α) (fun _ => none)
    (fun _ v _ gl gr k => bc (bc (gr (Nat.sub (Nat.div k 2) 1)) (gl (Nat.div k 2)) (Nat.beq (Nat.mod k 2) 1)) v (Nat.beq k 0)) t
def setF (x : Option α) : Nat → BT α → Nat → BT α :=
  Nat.rec (motive := fun _ => BT α → Nat → BT α) (fun t _ => t)
    (fun _ go t k => BT.rec (motive := fun _ => BT α)
      (bc (bc (node nil none (go nil (Nat.sub (Nat.div k 2) 1))) (node (go nil (Nat.div k 2)) none nil) (Nat.beq (Nat.mod k 2) 1)) (node nil x nil) (Nat.beq k 0))
      (fun l v r _ _ => bc (bc (node l v (go r (Nat.sub (Nat.div k 2) 1))) (node (go l (Nat.div k 2)) v r) (Nat.beq (Nat.mod k 2) 1)) (node l x r) (Nat.beq k 0)) t)
@[simp] theorem get_nil (k : Nat) : (nil : BT α).get k = none := rfl
theorem beq_iff {a b : Nat} : Nat.beq a b = true ↔ a = b := ⟨Nat.eq_of_beq_eq_true, fun h => by subst h; exact Nat.beq_refl a⟩
theorem get_node (l : BT α) (v : Option α) (r : BT α) (k : Nat) :
    (node l v r).get k = if k = 0 then v else if k % 2 = 1 then l.get (k / 2) else r.get (k / 2 - 1) := by
  show bc (bc (r.get (Nat.sub (Nat.div k 2) 1)) (l.get (Nat.div k 2)) (Nat.beq (Nat.mod k 2) 1)) v (Nat.beq k 0) = _
  simp only [bc_eq, beq_iff]
  rfl
theorem setF_nil (x : Option α) (f k : Nat) : setF x (f + 1) nil k =
    if k = 0 then node nil x nil else if k % 2 = 1 then node (setF x f nil (k / 2)) none nil else node nil none (setF x f nil (k / 2 - 1)) := by
  show bc (bc (node nil none (setF x f nil (Nat.sub (Nat.div k 2) 1))) (node (setF x f nil (Nat.div k 2)) none nil) (Nat.beq (Nat.mod k 2) 1)) (node nil x nil) (Nat.beq k 0) = _
  simp only [bc_eq, beq_iff]
  rfl
theorem setF_node (x : Option α) (f k : Nat) (l : BT α) (v : Option α) (r : BT α) : setF x (f + 1) (node l v r) k =
    if k = 0 then node l x r else if k % 2 = 1 then node (setF x f l (k / 2)) v r else node l v (setF x f r (k / 2 - 1)) := by
  show bc (bc (node l v (setF x f r (Nat.sub (Nat.div k 2) 1))) (node (setF x f l (Nat.div k 2)) v r) (Nat.beq (Nat.mod k 2) 1)) (node l x r) (Nat.beq k 0) = _
  simp only [bc_eq, beq_iff]
  rfl
theorem get_setF (x : Option α) : ∀ (f : Nat) (t : BT α) (k j : Nat), k < f → (setF x f t k).get j = if k = j then x else t.get j
  | 0, _, _, _, h => absurd h (Nat.not_lt_zero _)
  | f + 1, t, k, j, h => by
    have ih := get_setF x f
    cases t with
    | nil =>
      rw [setF_nil]
      split
      · rename_i hk; subst hk; rw [get_node]; by_cases hj : j = 0
        · simp [hj]
        · simp [hj, Ne.symm hj]
      · split
        · rename_i hk hk1; rw [get_node, ih _ _ _ (by omega)]; simp only [get_nil]
          by_cases hj : j = 0
          · subst hj; simp [hk]
          · by_cases hj1 : j % 2 = 1
            · simp only [hj, hj1, if_true, if_false]; congr 1; rw [eq_iff_iff]; omega
            · simp only [hj, hj1, if_false]; rw [if_neg (by omega)]
        · rename_i hk hk1; rw [get_node, ih _ _ _ (by omega)]; simp only [get_nil]
          by_cases hj : j = 0
          · subst hj; simp [hk]
          · by_cases hj1 : j % 2 = 1
            · simp only [hj, hj1, if_true, if_false]; rw [if_neg (by omega)]
            · simp only [hj, hj1, if_false]; congr 1; rw [eq_iff_iff]; omega
    | node l v r =>
      rw [setF_node]
      split
      · rename_i hk; subst hk; rw [get_node, get_node]; by_cases hj : j = 0
        · simp [hj]
        · simp [hj, Ne.symm hj]
      · split
        · rename_i hk hk1; rw [get_node, get_node, ih _ _ _ (by omega)]
          by_cases hj : j = 0
          · subst hj; simp [hk]
          · by_cases hj1 : j % 2 = 1
            · simp only [hj, hj1, if_true, if_false]; congr 1; rw [eq_iff_iff]; omega
            · simp only [hj, hj1, if_false]; rw [if_neg (by omega)]
        · rename_i hk hk1; rw [get_node, get_node, ih _ _ _ (by omega)]
          by_cases hj : j = 0
          · subst hj; simp [hk]
          · by_cases hj1 : j % 2 = 1
            · simp only [hj, hj1, if_true, if_false]; rw [if_neg (by omega)]
            · simp only [hj, hj1, if_false]; congr 1; rw [eq_iff_iff]; omega
end BT

/-- values by keys: a few, some more, many, and all others -/
inductive PT (α : Type) where
  | mk (a : T1 α) (b : T2 α) (c : T4 α) (g : BT α)

namespace PT
variable {α : Type}
def e1 : T1 α := .all none
def e2 : T2 α := .all e1
def e3 : T3 α := .all e2
def e4 : T4 α := .all e3
def nil : PT α := .mk e1 e2 e4 .nil

/-- the way to a key: to read -/
def wayG (k : Nat) : W (T1 α → T2 α → T4 α → BT α → Option α) :=
  bc (bc (bc (.mk fun _ _ _ g => g.get k)
    (W.bind (N4.dsel (Nat.mod k 16)) fun f0 => W.bind (N4.dsel (Nat.mod (Nat.div k 16) 16)) fun f1 => W.bind (N4.dsel (Nat.mod (Nat.div (Nat.div k 16) 16) 16)) fun f2 =>
      W.bind (N4.dsel (Nat.mod (Nat.div (Nat.div (Nat.div k 16) 16) 16) 16)) fun f3 => .mk fun _ _ c _ => f3 (f2 (f1 (f0 c))))
    (Nat.ble k 65535))
    (W.bind (N4.dsel (Nat.mod k 16)) fun f0 => W.bind (N4.dsel (Nat.mod (Nat.div k 16) 16)) fun f1 => .mk fun _ b _ _ => f1 (f0 b))
    (Nat.ble k 255))
    (W.bind (N4.dsel (Nat.mod k 16)) fun f0 => .mk fun a _ _ _ => f0 a)
    (Nat.ble k 15)
/-- to write -/
def wayP (k : Nat) : W (Option α → T1 α → T2 α → T4 α → BT α → PT α) :=
  bc (bc (bc (.mk fun x a b c g => .mk a b c (BT.setF x (Nat.add k 1) g k))
    (W.bind (N4.dupd (Nat.mod k 16)) fun f0 => W.bind (N4.dupd (Nat.mod (Nat.div k 16) 16)) fun f1 => W.bind (N4.dupd (Nat.mod (Nat.div (Nat.div k 16) 16) 16)) fun f2 =>
      W.bind (N4.dupd (Nat.mod (Nat.div (Nat.div (Nat.div k 16) 16) 16) 16)) fun f3 => .mk fun x a b c g => .mk a b (f0 (f1 (f2 (f3 fun _ => x))) c) g)
    (Nat.ble k 65535))
    (W.bind (N4.dupd (Nat.mod k 16)) fun f0 => W.bind (N4.dupd (Nat.mod (Nat.div k 16) 16)) fun f1 => .mk fun x a b c g => .mk a (f0 (f1 fun _ => x) b) c g)
    (Nat.ble k 255))
    (W.bind (N4.dupd (Nat.mod k 16)) fun f0 => .mk fun x a b c g => .mk (f0 (fun _ => x) a) b c g)
    (Nat.ble k 15)

def get (t : PT α) (k : Nat) : Option α := W.rec (motive := fun _ => Option α) (fun f => PT.rec (motive := fun _ => Option α) f t) (wayG k)
def setO (x : Option α) (k : Nat) (t : PT α) : PT α := W.rec (motive := fun _ => PT α) (fun f => PT.rec (motive := fun _ => PT α) (f x) t) (wayP k)
def put (t : PT α) (k : Nat) (x : α) : PT α := setO (some x) k t
def del (t : PT α) (k : Nat) : PT α := setO none k t

section
variable {β γ : Type}
/-- a reader and a writer that fit, of keys below a bound -/
def Fit (n : Nat) (g : β → Nat → Option α) (p : β → Nat → Option α → β) : Prop := ∀ r k j x, k < n → j < n → g (p r k x) j = if k = j then x else g r j
def G (g : β → Nat → Option α) (r : N4 β) (k : Nat) : Option α := g (N4.sel (Nat.mod k 16) r) (Nat.div k 16)
def U (p : β → Nat → Option α → β) (r : N4 β) (k : Nat) (x : Option α) : N4 β := N4.upd (Nat.mod k 16) (fun y => p y (Nat.div k 16) x) r
theorem Fit.up {n : Nat} {g : β → Nat → Option α} {p : β → Nat → Option α → β} (h : Fit n g p) : Fit (16 * n) (G g) (U p) := by
  intro r k j x hk hj
  have hk4 : Nat.mod k 16 < 16 := Nat.mod_lt _ (by omega)
  have hj4 : Nat.mod j 16 < 16 := Nat.mod_lt _ (by omega)
  have hkd : Nat.div k 16 < n := by show k / 16 < n; omega
  have hjd : Nat.div j 16 < n := by show j / 16 < n; omega
  unfold G U
  rw [N4.sel_upd hk4 hj4]
  by_cases h1 : Nat.mod k 16 = Nat.mod j 16
  · rw [if_pos h1, h _ _ _ _ hkd hjd]
    by_cases h2 : k = j
    · subst h2; simp
    · rw [if_neg h2, if_neg]
      intro h3
      have h1' : k % 16 = j % 16 := h1
      have h3' : k / 16 = j / 16 := h3
      omega
  · rw [if_neg h1, if_neg]
    intro h2; subst h2; exact h1 rfl
def g0 (x : Option α) (_ : Nat) : Option α := x
def p0 (_ : Option α) (_ : Nat) (x : Option α) : Option α := x
theorem fit0 : Fit 1 (g0 (α := α)) p0 := by
  intro r k j x hk hj
  rw [if_pos (by omega)]; rfl
def g1 : T1 α → Nat → Option α := G g0
def p1 : T1 α → Nat → Option α → T1 α := U p0
def g2 : T2 α → Nat → Option α := G g1
def p2 : T2 α → Nat → Option α → T2 α := U p1
def g4 : T4 α → Nat → Option α := G (G g2)
def p4 : T4 α → Nat → Option α → T4 α := U (U p2)
theorem fit1 : Fit 16 (g1 (α := α)) p1 := fit0.up
theorem fit2 : Fit 256 (g2 (α := α)) p2 := fit1.up
theorem fit4 : Fit 65536 (g4 (α := α)) p4 := fit2.up.up
end

/-- the same, plainly -/
def getS (t : PT α) (k : Nat) : Option α := match t with
  | .mk a b c g => if k < 16 then g1 a k else if k < 256 then g2 b k else if k < 65536 then g4 c k else g.get k
def setS (x : Option α) (k : Nat) (t : PT α) : PT α := match t with
  | .mk a b c g => if k < 16 then .mk (p1 a k x) b c g else if k < 256 then .mk a (p2 b k x) c g else if k < 65536 then .mk a b (p4 c k x) g else .mk a b c (BT.setF x (Nat.add k 1) g k)
theorem ble_cases (k n : Nat) : Nat.ble k n = decide (k < n + 1) := by
  rw [Bool.eq_iff_iff, Nat.ble_eq, decide_eq_true_eq]; omega
theorem get_eq (t : PT α) (k : Nat) : get t k = getS t k := by
  obtain ⟨a, b, c, g⟩ := t
  unfold get getS wayG
  simp only [N4.dsel_eq, W.bind_mk, ble_cases]
  by_cases h1 : k < 16
  · simp only [h1, decide_true, if_true]; rfl
  · by_cases h2 : k < 256
    · simp only [h1, h2, decide_true, decide_false, if_true, if_false]; rfl
    · by_cases h3 : k < 65536
      · simp only [h1, h2, h3, decide_true, decide_false, if_true, if_false]; rfl
      · simp only [h1, h2, h3, decide_false, if_false]; rfl
theorem set_eq (x : Option α) (k : Nat) (t : PT α) : setO x k t = setS x k t := by
  obtain ⟨a, b, c, g⟩ := t
  unfold setO setS wayP
  simp only [N4.dupd_eq, W.bind_mk, ble_cases]
  by_cases h1 : k < 16
  · simp only [h1, decide_true, if_true]; rfl
  · by_cases h2 : k < 256
    · simp only [h1, h2, decide_true, decide_false, if_true, if_false]; rfl
    · by_cases h3 : k < 65536
      · simp only [h1, h2, h3, decide_true, decide_false, if_true, if_false]; rfl
      · simp only [h1, h2, h3, decide_false, if_false]; rfl

theorem get_setO (t : PT α) (k : Nat) (x : Option α) (j : Nat) : (setO x k t).get j = if k = j then x else t.get j := by
  rw [get_eq, get_eq, set_eq]
  obtain ⟨a, b, c, g⟩ := t
  unfold setS getS
  by_cases h1 : k < 16
  · simp only [h1, if_true]
    by_cases k1 : j < 16
    · simp only [k1, if_true]; exact fit1 a k j x h1 k1
    · simp only [k1, if_false]; rw [if_neg (show ¬ k = j by omega)]
  · by_cases h2 : k < 256
    · simp only [h1, h2, if_true, if_false]
      by_cases k1 : j < 16
      · simp only [k1, if_true]; rw [if_neg (show ¬ k = j by omega)]
      · by_cases k2 : j < 256
        · simp only [k1, k2, if_true, if_false]; exact fit2 b k j x h2 k2
        · simp only [k1, k2, if_false]; rw [if_neg (show ¬ k = j by omega)]
    · by_cases h3 : k < 65536
      · simp only [h1, h2, h3, if_true, if_false]
        by_cases k1 : j < 16
        · simp only [k1, if_true]; rw [if_neg (show ¬ k = j by omega)]
        · by_cases k2 : j < 256
          · simp only [k1, k2, if_true, if_false]; rw [if_neg (show ¬ k = j by omega)]
          · by_cases k3 : j < 65536
            · simp only [k1, k2, k3, if_true, if_false]; exact fit4 c k j x h3 k3
            · simp only [k1, k2, k3, if_false]; rw [if_neg (show ¬ k = j by omega)]
      · simp only [h1, h2, h3, if_false]
        by_cases k1 : j < 16
        · simp only [k1, if_true]; rw [if_neg (show ¬ k = j by omega)]
        · by_cases k2 : j < 256
          · simp only [k1, k2, if_true, if_false]; rw [if_neg (show ¬ k = j by omega)]
          · by_cases k3 : j < 65536
            · simp only [k1, k2, k3, if_true, if_false]; rw [if_neg (show ¬ k = j by omega)]
            · simp only [k1, k2, k3, if_false]; exact BT.get_setF _ _ _ _ _ (Nat.lt_succ_self k)

theorem get_put (t : PT α) (k : Nat) (x : α) (j : Nat) : (t.put k x).get j = if k = j then some x else t.get j := get_setO _ _ _ _
theorem get_del (t : PT α) (k j : Nat) : (t.del k).get j = if k = j then none else t.get j := get_setO _ _ _ _
@[simp] theorem get_nil (k : Nat) : (nil : PT α).get k = none := by
  rw [get_eq]
  unfold getS nil
  simp only [g4, g2, g1, G, e4, e3, e2, e1, N4.sel_all]
  split
  · rfl
  · split
    · rfl
    · split <;> rfl
end PT
end
end Go.Ev
