/- Regions with open order, worked out one operation after the other: a library of this claim. No condition. -/
import Derived.Test.YtiipkbkoigcabaaDoorVcg
namespace Go.AW
open Go Go.RowKit
set_option linter.unusedVariables false
set_option linter.unusedSimpArgs false

/-- An operation that gives one value, whatever comes to the state beside it. -/
def quietW (C : Ctx) (st0 : St) (op : AOp) (e : Env) (N : AV → Prop) : Prop :=
  match op with
  | .call f args => match e.ev f with
    | .fn (.func g) a b => ∃ v, (∀ st, st0.le st → ACalls C g (a ++ evs e args ++ b) st fun r st' => r = v ∧ st.le st') ∧ N v
    | _ => False
  | .bad | .frz _ | .alloc _ | .box _ _ | .mk _ _ _ | .store _ _ _ | .app _ _ _ _ | .cvSB _ | .mksl _ _ _ _ | .copy _ _ _ | .cap _ => False
  | .eqv kd neg x y => kd ≠ 5 ∧ opW C (.eqv kd neg x y) e st0 fun v _ => N v
  | op => opW C op e st0 fun v _ => N v

def qK (C : Ctx) (st0 : St) (op : AOp) (d : Option Nat) (N : Env → Prop) : Env → St → Prop := fun e _ => quietW C st0 op e fun v => N (e.put d v)
def qS (d : Option Nat) (N : Env → Prop) : Env → St → Prop := fun e _ => N (e.put d (.tup []))

def vcE (C : Ctx) (st0 : St) (K : Env → Prop) : List AOper → Env → Prop
  | [], e => K e
  | ⟨d, op, none⟩ :: r, e => quietW C st0 op e fun v => vcE C st0 K r (e.put d v)
  | ⟨d, op, some (s, want)⟩ :: r, e => VG (e.get s) want (qK C st0 op d (vcE C st0 K r)) (qS d (vcE C st0 K r)) e st0

theorem bndW_q {e : Env} {o : Option Opd} {d : Int} {Q : Int → Prop} (h : bndW e o d Q) : ∃ i, Q i ∧ ∀ Q' : Int → Prop, Q' i → bndW e o d Q' := by
  unfold bndW at *
  cases o with
  | none => exact ⟨d, h, fun _ h => h⟩
  | some x =>
    simp only at h ⊢
    split at h
    · exact ⟨_, h, fun _ h => h⟩
    · exact h.elim

theorem arithW_q {op : BinOp} {k : IntKind} {a b : Int} {Q : Int → Prop} (h : arithW op k a b Q) : ∃ i, Q i ∧ ∀ Q' : Int → Prop, Q' i → arithW op k a b Q' := by
  unfold arithW at *
  cases op <;> simp only at h ⊢
  case quo => exact ⟨_, h.2, fun _ g => ⟨h.1, g⟩⟩
  case rem => exact ⟨_, h.2, fun _ g => ⟨h.1, g⟩⟩
  all_goals first | exact h.elim | exact ⟨_, h, fun _ g => g⟩

theorem eqW_q {kd : Nat} {x y : Opd} {u v : AV} {Q : Bool → Prop} (hk : kd ≠ 5) (h : eqW kd x y u v Q) : ∃ b, Q b ∧ ∀ Q' : Bool → Prop, Q' b → eqW kd x y u v Q' := by
  unfold eqW at *
  split at h
  all_goals first
    | exact h.elim
    | exact ⟨_, h.2.2, fun _ g => ⟨h.1, h.2.1, g⟩⟩
    | exact absurd h.1 hk
    | exact ⟨_, h.2, fun _ g => ⟨h.1, g⟩⟩

theorem quietW_sound {C : Ctx} {st0 : St} {op : AOp} {e : Env} {N : AV → Prop} (h : quietW C st0 op e N) :
    ∃ v, (∀ st, st0.le st → opW C op e st fun r st' => r = v ∧ st.le st') ∧ N v := by
  cases op <;> simp only [quietW] at h <;> simp only [opW] at h ⊢
  case call f args =>
    split at h
    · rename_i g a b he
      simp only [he]
      exact h
    · exact h.elim
  case load g S a =>
    split at h
    · rename_i id off he
      split at h
      · rename_i cs hs
        obtain ⟨h1, h2, h3⟩ := h
        refine ⟨_, fun st hle => ?_, h3⟩
        rw [hle id _ hs]
        exact ⟨h1, h2, rfl, St.le_refl _⟩
      · exact h.elim
    · exact ⟨_, fun st hle => ⟨h.1, h.2.1, rfl, St.le_refl _⟩, h.2.2⟩
    · exact h.elim
  case arith op x y =>
    split at h
    · obtain ⟨i, h1, h2⟩ := arithW_q h.2
      exact ⟨_, fun st hle => ⟨h.1, h2 _ ⟨rfl, St.le_refl _⟩⟩, h1⟩
    · exact ⟨_, fun st hle => ⟨h.1, h.2.1, rfl, St.le_refl _⟩, h.2.2⟩
    · exact h.elim
  case cmp op x y =>
    split at h
    · exact ⟨_, fun st hle => ⟨h.1, h.2.1, rfl, St.le_refl _⟩, h.2.2⟩
    · exact ⟨_, fun st hle => ⟨h.1, rfl, St.le_refl _⟩, h.2⟩
    · exact h.elim
  case eqv kd neg x y =>
    obtain ⟨b, h1, h2⟩ := eqW_q h.1 h.2
    exact ⟨_, fun st hle => h2 _ ⟨rfl, St.le_refl _⟩, h1⟩
  case shift op x y =>
    split at h
    · obtain ⟨h0, h⟩ := h
      cases op <;> simp only at h ⊢
      case shl => exact ⟨_, fun st hle => ⟨h0, rfl, St.le_refl _⟩, h⟩
      case shr => exact ⟨_, fun st hle => ⟨h0, rfl, St.le_refl _⟩, h⟩
      all_goals exact h.elim
    · exact h.elim
  case build z parts =>
    split at h
    · exact ⟨_, fun st hle => ⟨h.1, rfl, St.le_refl _⟩, h.2⟩
    · exact h.elim
  case slS x lo hi =>
    split at h
    · obtain ⟨i, h1, h2⟩ := bndW_q h
      obtain ⟨j, h3, h4⟩ := bndW_q h1
      exact ⟨_, fun st hle => h2 _ (h4 _ ⟨h3.1, rfl, St.le_refl _⟩), h3.2⟩
    · exact h.elim
  case sl S x lo hi mx =>
    split at h
    · split at h
      · obtain ⟨i, h1, h2⟩ := bndW_q h
        obtain ⟨j, h3, h4⟩ := bndW_q h1
        exact ⟨_, fun st hle => h2 _ (h4 _ ⟨h3.1, h3.2.1, rfl, St.le_refl _⟩), h3.2.2⟩
      · obtain ⟨i, h1, h2⟩ := bndW_q h
        obtain ⟨j, h3, h4⟩ := bndW_q h1
        obtain ⟨k, h5, h6⟩ := bndW_q h3
        obtain ⟨g1, g2, g3, g4, g5, g6⟩ := h5
        exact ⟨_, fun st hle => h2 _ (h4 _ (h6 _ ⟨g1, g2, g3, g4, g5, rfl, St.le_refl _⟩)), g6⟩
    · split at h
      · obtain ⟨i, h1, h2⟩ := bndW_q h
        obtain ⟨j, h3, h4⟩ := bndW_q h1
        exact ⟨_, fun st hle => h2 _ (h4 _ ⟨h3.1, rfl, St.le_refl _⟩), h3.2⟩
      · exact h.elim
    · exact h.elim
  case iaddr S x i =>
    split at h
    · exact ⟨_, fun st hle => ⟨h.1, h.2.1, rfl, St.le_refl _⟩, h.2.2⟩
    · exact ⟨_, fun st hle => ⟨h.1, rfl, St.le_refl _⟩, h.2⟩
    · exact h.elim
  all_goals first
    | exact h.elim
    | exact ⟨_, fun st hle => ⟨rfl, St.le_refl _⟩, h⟩
    | (split at h <;> first
        | exact h.elim
        | exact ⟨_, fun st hle => ⟨rfl, St.le_refl _⟩, h⟩
        | exact ⟨_, fun st hle => ⟨h.1, rfl, St.le_refl _⟩, h.2⟩
        | exact ⟨_, fun st hle => ⟨h.1, h.2.1, rfl, St.le_refl _⟩, h.2.2⟩
        | (split at h <;> first
            | exact h.elim
            | exact ⟨_, fun st hle => ⟨rfl, St.le_refl _⟩, h⟩))

theorem vcE_sound {C : Ctx} {st0 : St} {K : Env → Prop} : ∀ (l : List AOper) (e : Env), vcE C st0 K l e → vcDraw C st0 K l e
  | [], e, h => h
  | ⟨d, op, none⟩ :: r, e, h => by
    simp only [vcE] at h
    obtain ⟨v, h1, h2⟩ := quietW_sound h
    exact ⟨v, h1, vcE_sound r _ h2⟩
  | ⟨d, op, some (s, want)⟩ :: r, e, h => by
    simp only [vcE, VG] at h
    simp only [vcDraw]
    split at h
    · rename_i b hb
      refine ⟨fun hw => ?_, fun hw => vcE_sound r _ (h.2 hw)⟩
      obtain ⟨v, h1, h2⟩ := quietW_sound (h.1 hw)
      exact ⟨v, h1, vcE_sound r _ h2⟩
    · rename_i vs hb
      exact vcE_sound r _ h
    · exact h.elim

/-- A region with open order, in its own order. -/
theorem VDraw {C : Ctx} {l : List AOper} {K : Post} {e : Env} {st : St} (h : vcE C st (fun e' => ∀ st', st.le st' → K .normal e' st') l e) : vc C (.draw l) K e st := vcE_sound l e h

theorem VQ :
    (∀ (C : Ctx) (st0 : St) (K : Env → Prop) (e : Env), vcE C st0 K [] e = K e) ∧
    (∀ (C : Ctx) (st0 : St) (K : Env → Prop) (d : Option Nat) (op : AOp) (r : List AOper) (e : Env), vcE C st0 K (⟨d, op, none⟩ :: r) e = quietW C st0 op e fun v => vcE C st0 K r (e.put d v)) ∧
    (∀ (C : Ctx) (st0 : St) (K : Env → Prop) (d : Option Nat) (op : AOp) (s : Nat) (want : Bool) (r : List AOper) (e : Env), vcE C st0 K (⟨d, op, some (s, want)⟩ :: r) e = VG (e.get s) want (qK C st0 op d (vcE C st0 K r)) (qS d (vcE C st0 K r)) e st0) ∧
    (∀ (C : Ctx) (st0 : St) (op : AOp) (d : Option Nat) (N : Env → Prop) (e : Env) (st : St), qK C st0 op d N e st = quietW C st0 op e fun v => N (e.put d v)) ∧
    (∀ (d : Option Nat) (N : Env → Prop) (e : Env) (st : St), qS d N e st = N (e.put d (.tup []))) :=
  ⟨fun _ _ _ _ => rfl, fun _ _ _ _ _ _ _ => rfl, fun _ _ _ _ _ _ _ _ _ => rfl, fun _ _ _ _ _ _ _ => rfl, fun _ _ _ _ => rfl⟩

theorem VQ2 :
    (∀ (C : Ctx) (st0 : St) (e : Env) (N : AV → Prop) (x : Opd), quietW C st0 (.mv x) e N = opW C (.mv x) e st0 fun v _ => N v) ∧
    (∀ (C : Ctx) (st0 : St) (e : Env) (N : AV → Prop) (c a b : Opd), quietW C st0 (.pick c a b) e N = opW C (.pick c a b) e st0 fun v _ => N v) ∧
    (∀ (C : Ctx) (st0 : St) (e : Env) (N : AV → Prop) (z : List AV) (ps : List (Nat × Nat × Opd)), quietW C st0 (.build z ps) e N = opW C (.build z ps) e st0 fun v _ => N v) ∧
    (∀ (C : Ctx) (st0 : St) (e : Env) (N : AV → Prop) (g : Bool) (S : Nat) (a : Opd), quietW C st0 (.load g S a) e N = opW C (.load g S a) e st0 fun v _ => N v) ∧
    (∀ (C : Ctx) (st0 : St) (e : Env) (N : AV → Prop) (x : Opd), quietW C st0 (.nilck x) e N = opW C (.nilck x) e st0 fun v _ => N v) ∧
    (∀ (C : Ctx) (st0 : St) (e : Env) (N : AV → Prop) (o : BinOp) (x y : Opd), quietW C st0 (.arith o x y) e N = opW C (.arith o x y) e st0 fun v _ => N v) ∧
    (∀ (C : Ctx) (st0 : St) (e : Env) (N : AV → Prop) (o : BinOp) (x y : Opd), quietW C st0 (.cmp o x y) e N = opW C (.cmp o x y) e st0 fun v _ => N v) ∧
    (∀ (C : Ctx) (st0 : St) (e : Env) (N : AV → Prop) (n : Bool) (x y : Opd), quietW C st0 (.cmpB n x y) e N = opW C (.cmpB n x y) e st0 fun v _ => N v) ∧
    (∀ (C : Ctx) (st0 : St) (e : Env) (N : AV → Prop) (o : BinOp) (x y : Opd), quietW C st0 (.shift o x y) e N = opW C (.shift o x y) e st0 fun v _ => N v) ∧
    (∀ (C : Ctx) (st0 : St) (e : Env) (N : AV → Prop) (o : UnOp) (x : Opd), quietW C st0 (.un o x) e N = opW C (.un o x) e st0 fun v _ => N v) ∧
    (∀ (C : Ctx) (st0 : St) (e : Env) (N : AV → Prop) (k : IntKind) (x : Opd), quietW C st0 (.cvI k x) e N = opW C (.cvI k x) e st0 fun v _ => N v) ∧
    (∀ (C : Ctx) (st0 : St) (e : Env) (N : AV → Prop) (x : Opd), quietW C st0 (.cvS x) e N = opW C (.cvS x) e st0 fun v _ => N v) ∧
    (∀ (C : Ctx) (st0 : St) (e : Env) (N : AV → Prop) (x : Opd), quietW C st0 (.cvBS x) e N = opW C (.cvBS x) e st0 fun v _ => N v) ∧
    (∀ (C : Ctx) (st0 : St) (e : Env) (N : AV → Prop) (t : TypeId) (x : Opd), quietW C st0 (.mkif t x) e N = opW C (.mkif t x) e st0 fun v _ => N v) ∧
    (∀ (C : Ctx) (st0 : St) (e : Env) (N : AV → Prop) (f : Nat) (a b : List Opd), quietW C st0 (.mkfn f a b) e N = opW C (.mkfn f a b) e st0 fun v _ => N v) ∧
    (∀ (C : Ctx) (st0 : St) (e : Env) (N : AV → Prop) (x : Opd) (lo hi : Option Opd), quietW C st0 (.slS x lo hi) e N = opW C (.slS x lo hi) e st0 fun v _ => N v) ∧
    (∀ (C : Ctx) (st0 : St) (e : Env) (N : AV → Prop) (S : Nat) (x : Opd) (lo hi mx : Option Opd), quietW C st0 (.sl S x lo hi mx) e N = opW C (.sl S x lo hi mx) e st0 fun v _ => N v) ∧
    (∀ (C : Ctx) (st0 : St) (e : Env) (N : AV → Prop) (o : Nat) (x : Opd), quietW C st0 (.faddr o x) e N = opW C (.faddr o x) e st0 fun v _ => N v) ∧
    (∀ (C : Ctx) (st0 : St) (e : Env) (N : AV → Prop) (g : Bool) (o S : Nat) (x : Opd), quietW C st0 (.fld g o S x) e N = opW C (.fld g o S x) e st0 fun v _ => N v) ∧
    (∀ (C : Ctx) (st0 : St) (e : Env) (N : AV → Prop) (S : Nat) (x i : Opd), quietW C st0 (.iaddr S x i) e N = opW C (.iaddr S x i) e st0 fun v _ => N v) ∧
    (∀ (C : Ctx) (st0 : St) (e : Env) (N : AV → Prop) (x i : Opd), quietW C st0 (.idxS x i) e N = opW C (.idxS x i) e st0 fun v _ => N v) ∧
    (∀ (C : Ctx) (st0 : St) (e : Env) (N : AV → Prop) (x : Opd) (i : Nat), quietW C st0 (.ext x i) e N = opW C (.ext x i) e st0 fun v _ => N v) ∧
    (∀ (C : Ctx) (st0 : St) (e : Env) (N : AV → Prop) (x : Opd), quietW C st0 (.len x) e N = opW C (.len x) e st0 fun v _ => N v) ∧
    (∀ (C : Ctx) (st0 : St) (e : Env) (N : AV → Prop) (x : Opd), quietW C st0 (.lenS x) e N = opW C (.lenS x) e st0 fun v _ => N v) ∧
    (∀ (C : Ctx) (st0 : St) (e : Env) (N : AV → Prop) (x y : Opd), quietW C st0 (.min2 x y) e N = opW C (.min2 x y) e st0 fun v _ => N v) ∧
    (∀ (C : Ctx) (st0 : St) (e : Env) (N : AV → Prop) (x y : Opd), quietW C st0 (.max2 x y) e N = opW C (.max2 x y) e st0 fun v _ => N v) ∧
    (∀ (C : Ctx) (st0 : St) (e : Env) (N : AV → Prop) (kd : Nat) (neg : Bool) (x y : Opd), quietW C st0 (.eqv kd neg x y) e N = (kd ≠ 5 ∧ opW C (.eqv kd neg x y) e st0 fun v _ => N v)) ∧
    (∀ (C : Ctx) (st0 : St) (e : Env) (N : AV → Prop) (f : Opd) (args : List Opd), quietW C st0 (.call f args) e N = match e.ev f with | .fn (.func g) a b => ∃ v, (∀ st, st0.le st → ACalls C g (a ++ evs e args ++ b) st fun r st' => r = v ∧ st.le st') ∧ N v | _ => False) := by
  exact ⟨fun _ _ _ _ _ => rfl, fun _ _ _ _ _ _ _ => rfl, fun _ _ _ _ _ _ => rfl, fun _ _ _ _ _ _ _ => rfl, fun _ _ _ _ _ => rfl, fun _ _ _ _ _ _ _ => rfl, fun _ _ _ _ _ _ _ => rfl, fun _ _ _ _ _ _ _ => rfl, fun _ _ _ _ _ _ _ => rfl, fun _ _ _ _ _ _ => rfl, fun _ _ _ _ _ _ => rfl, fun _ _ _ _ _ => rfl, fun _ _ _ _ _ => rfl, fun _ _ _ _ _ _ => rfl, fun _ _ _ _ _ _ _ => rfl, fun _ _ _ _ _ _ _ => rfl, fun _ _ _ _ _ _ _ _ _ => rfl, fun _ _ _ _ _ _ => rfl, fun _ _ _ _ _ _ _ _ => rfl, fun _ _ _ _ _ _ _ => rfl, fun _ _ _ _ _ _ => rfl, fun _ _ _ _ _ _ => rfl, fun _ _ _ _ _ => rfl, fun _ _ _ _ _ => rfl, fun _ _ _ _ _ _ => rfl, fun _ _ _ _ _ _ => rfl, fun _ _ _ _ _ _ _ _ => rfl, fun _ _ _ _ _ _ => rfl⟩

/-- A call within such a region. -/
theorem quiet_call {C : Ctx} {st0 : St} {g : Nat} {args : List AV} {N : AV → Prop} (v : AV) (h : ∀ st, ACalls C g args st fun r st' => r = v ∧ st.le st') (k : N v) :
    ∃ v, (∀ st, st0.le st → ACalls C g args st fun r st' => r = v ∧ st.le st') ∧ N v := ⟨v, fun st _ => h st, k⟩
end Go.AW
