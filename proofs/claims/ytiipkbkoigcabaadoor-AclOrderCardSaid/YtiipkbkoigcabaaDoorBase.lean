/- What the proofs of this seat share: the program's context, encodings, small facts. No condition. -/
import Derived.Test.YtiipkbkoigcabaaDoorProg
import Derived.Test.YtiipkbkoigcabaaDoorDraw
import Derived.KernelRfl
import Derived.Laws.BitsAllLaws
namespace Go.Proofs.YtiipkbkoigcabaaDoor
open Go Go.AW Go.RowKit Go.Proofs
set_option linter.unusedVariables false
set_option linter.unusedSimpArgs false

noncomputable abbrev cx (w0 : World) : Ctx := ⟨Tryd.prog, w0⟩

/-- A function that leaves the state as it was, but for new names, and returns just this. -/
def PC (w0 : World) (f : Nat) (args : List AV) (res : AV) : Prop := ∀ st, ACalls (cx w0) f args st fun r st' => r = res ∧ st.le st'

theorem VX :
    isCmp .lss = true ∧ isCmp .leq = true ∧ isCmp .gtr = true ∧ isCmp .geq = true ∧ isCmp .eql = true ∧ isCmp .neq = true ∧
    (∀ a b, cmpI .lss a b = decide (a < b)) ∧ (∀ a b, cmpI .leq a b = decide (a ≤ b)) ∧ (∀ a b, cmpI .gtr a b = decide (a > b)) ∧ (∀ a b, cmpI .geq a b = decide (a ≥ b)) ∧ (∀ a b, cmpI .eql a b = (a == b)) ∧ (∀ a b, cmpI .neq a b = (a != b)) ∧
    (∀ a b, cmpS .eql a b = (a == b)) ∧ (∀ a b, cmpS .neq a b = !(a == b)) ∧ (∀ a b, cmpS .lss a b = Op.bytesLess a b) ∧ (∀ a b, cmpS .leq a b = (Op.bytesLess a b || a == b)) ∧ (∀ a b, cmpS .gtr a b = !(Op.bytesLess a b || a == b)) ∧ (∀ a b, cmpS .geq a b = !(Op.bytesLess a b)) ∧
    (∀ p : Prop, (True ∧ p) = p) ∧ (∀ p : Prop, (p ∧ True) = p) ∧ (∀ (α : Type) (a : α), (a = a) = True) ∧
    (∀ (k : IntKind) (a b : Int) (K : Int → Prop), arithW .add k a b K = K (k.wrap (a + b))) ∧ (∀ (k : IntKind) (a b : Int) (K : Int → Prop), arithW .sub k a b K = K (k.wrap (a - b))) ∧ (∀ (k : IntKind) (a b : Int) (K : Int → Prop), arithW .mul k a b K = K (k.wrap (a * b))) ∧ (∀ (k : IntKind) (a b : Int) (K : Int → Prop), arithW .and k a b K = K (bits .and k a b)) ∧ (∀ (k : IntKind) (a b : Int) (K : Int → Prop), arithW .or k a b K = K (bits .or k a b)) ∧ (∀ (k : IntKind) (a b : Int) (K : Int → Prop), arithW .xor k a b K = K (bits .xor k a b)) ∧ (∀ (k : IntKind) (a b : Int) (K : Int → Prop), arithW .quo k a b K = (b ≠ 0 ∧ K (k.wrap (a.tdiv b)))) ∧ (∀ (k : IntKind) (a b : Int) (K : Int → Prop), arithW .rem k a b K = (b ≠ 0 ∧ K (a.tmod b))) := by
  refine ⟨rfl, rfl, rfl, rfl, rfl, rfl, fun _ _ => rfl, fun _ _ => rfl, fun _ _ => rfl, fun _ _ => rfl, fun _ _ => rfl, fun _ _ => rfl, fun _ _ => rfl, fun _ _ => rfl, fun _ _ => rfl, fun _ _ => rfl, fun _ _ => rfl, fun _ _ => rfl,
    fun _ => by simp, fun _ => by simp, fun _ _ => by simp, fun _ _ _ _ => rfl, fun _ _ _ _ => rfl, fun _ _ _ _ => rfl, fun _ _ _ _ => rfl, fun _ _ _ _ => rfl, fun _ _ _ _ => rfl, fun _ _ _ _ => rfl, fun _ _ _ _ => rfl⟩

theorem RC : ∀ (e : Env) (st : St) (t : Nat) (g : Bool) (S : Nat), resA e st (.cell t g S) = match e.get t with
    | .ptr id off => match st id with
      | some (.obj cs) => if off + S ≤ cs.length ∧ (g = false → S = 1) then some (partA g S off cs) else none
      | _ => none
    | _ => none := fun _ _ _ _ _ => rfl
theorem u8and (a b : UInt8) : bits .and .u8 (a.toNat : Int) (b.toNat : Int) = ((a &&& b).toNat : Int) := by
  rw [u8_and_nat _ _ a.toNat_lt b.toNat_lt, UInt8.toNat_and]
theorem u8or (a b : UInt8) : bits .or .u8 (a.toNat : Int) (b.toNat : Int) = ((a ||| b).toNat : Int) := by
  rw [u8_or_nat _ _ a.toNat_lt b.toNat_lt, UInt8.toNat_or]
theorem u8beq (a b : UInt8) : ((a.toNat : Int) == (b.toNat : Int)) = (a == b) := by
  by_cases h : a = b
  · subst h; simp
  · have h' : ¬ (a.toNat : Int) = b.toNat := fun e => h (UInt8.toNat_inj.1 (by omega))
    have e1 : (a == b) = false := by simpa using h
    have e2 : ((a.toNat : Int) == (b.toNat : Int)) = false := by simpa using h'
    rw [e1, e2]
theorem ibeq (a b : Nat) : ((a : Int) == (b : Int)) = decide (a = b) := by
  by_cases h : a = b
  · simp [h]
  · have h' : ¬ (a : Int) = b := by omega
    simp [h, h']
theorem SU : ∀ (s : St) (id : Nat) (r : Res) (i : Nat), St.upd s id r i = if i = id then some r else s i := fun _ _ _ _ => rfl
theorem St.new {s : St} {id t : Nat} {r : Res} (h : s.upd id r t = none) : t ≠ id ∧ s t = none := by
  rw [SU] at h
  split at h
  · cases h
  · exact ⟨‹_›, h⟩
theorem St.le_none {s s' : St} (h : s.le s') {i : Nat} (k : s' i = none) : s i = none := by
  cases e : s i with
  | none => rfl
  | some r => rw [h i r e] at k; cases k
theorem St.le_upd0 {s s' : St} {id : Nat} (r : Res) (h : s.le s') (k : s id = none) : s.le (s'.upd id r) := fun i x hi => by
  rw [SU]
  split
  · rename_i e; subst e; rw [k] at hi; cases hi
  · exact h i x hi
theorem St.le_new {s s' : St} {id : Nat} (r : Res) (h : s.le s') (k : s' id = none) : s.le (s'.upd id r) := St.le_upd0 r h (St.le_none h k)

/-- A slice of one's own that grows: it may be appended to, and all that was there at first still stands. -/
def Acc (S : Nat) (st0 : St) (tk : Tk) (st : St) : Prop := Appd S tk st ∧ st0.le st ∧ ∀ i, tk.is i → st0 i = none
theorem Acc.nil {S : Nat} {st0 st : St} (h : st0.le st) : Acc S st0 .nil st := ⟨trivial, h, fun _ h => h.elim⟩
theorem Acc.zero {S : Nat} {st0 st : St} (h : st0.le st) : Acc S st0 .zero st := ⟨trivial, h, fun _ h => h.elim⟩
theorem Acc.tip {S : Nat} {st0 st : St} {t : Nat} (h : st0.le st) (k : st t = none) : Acc S st0 (.tip t S) (st.upd t .tok) :=
  ⟨⟨rfl, St.upd_same _ _ _⟩, St.le_new _ h k, fun i hi => by cases hi; exact St.le_none h k⟩
theorem Acc.app {S : Nat} {st0 st st' : St} {tk tk' : Tk} (h : Acc S st0 tk st) (h1 : Appd S tk' st') (h2 : LeBut tk st st') (h3 : NewTk tk tk' st) : Acc S st0 tk' st' :=
  ⟨h1, fun i r hi => h2 i r (h.2.1 i r hi) fun hk => (by rw [h.2.2 i hk] at hi; cases hi), fun i hi => (h3 i hi).elim (h.2.2 i) (St.le_none h.2.1)⟩
theorem Acc.le {S : Nat} {st0 st st' : St} {tk : Tk} (h : Acc S st0 tk st) (k : st.le st') : Acc S st0 tk st' :=
  ⟨by
    have := h.1
    cases tk with
    | nil => trivial
    | zero => trivial
    | sh => exact this
    | tip t s => exact ⟨this.1, k _ _ this.2⟩, St.le_trans h.2.1 k, h.2.2⟩
theorem Acc.upd {S : Nat} {st0 st : St} {tk : Tk} {id : Nat} (r : Res) (h : Acc S st0 tk st) (k : st0 id = none) (hn : ¬ tk.is id) : Acc S st0 tk (st.upd id r) :=
  ⟨by
    have := h.1
    cases tk with
    | nil => trivial
    | zero => trivial
    | sh => exact this
    | tip t s =>
      refine ⟨this.1, ?_⟩
      rw [SU, if_neg (show ¬ t = id from fun e => hn e)]
      exact this.2, St.le_upd0 r h.2.1 k, h.2.2⟩
theorem Acc.new {S : Nat} {st0 st : St} {tk : Tk} {id : Nat} (r : Res) (h : Acc S st0 tk st) (k : st id = none) : Acc S st0 tk (st.upd id r) := h.le (St.le_upd _ _ _ k)
/-- A name that came later is not the right's. -/
theorem Acc.ne {S : Nat} {st0 st : St} {tk : Tk} {id : Nat} (h : Acc S st0 tk st) (k : st id = none) : ¬ tk.is id := by
  have := h.1
  cases tk with
  | nil => exact id_elim
  | zero => exact id_elim
  | sh => exact id_elim
  | tip t s => intro e; cases e; rw [this.2] at k; cases k
where id_elim : False → False := fun h => h

theorem VCond.dec {p : Prop} [Decidable p] {X Y : Post → Env → St → Prop} {K : Post} {e : Env} {st : St} (h1 : p → X K e st) (h2 : ¬ p → Y K e st) : VCond (.bool (decide p)) X Y K e st :=
  ⟨fun h => h1 (of_decide_eq_true h), fun h => h2 (of_decide_eq_false h)⟩
theorem VCond.of {b : Bool} {X Y : Post → Env → St → Prop} {K : Post} {e : Env} {st : St} (h1 : b = true → X K e st) (h2 : b = false → Y K e st) : VCond (.bool b) X Y K e st := ⟨h1, h2⟩
theorem VG.of {b want : Bool} {A B : Env → St → Prop} {e : Env} {st : St} (h1 : b = want → A e st) (h2 : (!b) = want → B e st) : VG (.bool b) want A B e st := ⟨h1, h2⟩

theorem wrap_id {i : Int} (h0 : -9223372036854775808 ≤ i) (h1 : i ≤ 9223372036854775807) : IntKind.i64.wrap i = i := by
  simp [IntKind.wrap_i64, wrap64]; omega
theorem wrap_nat {n : Nat} (h1 : (n : Int) + 1 ≤ 9223372036854775807) : IntKind.i64.wrap ((n : Int) + 1) = ((n + 1 : Nat) : Int) := by
  rw [wrap_id (by omega) h1]; rfl

theorem bytesAV_length (s : List UInt8) : (bytesAV s).length = s.length := by simp [bytesAV]
theorem bytesAV_getD (s : List UInt8) (i : Nat) (h : i < s.length) : (bytesAV s).getD i .undef = byteAV s[i] := by simp [bytesAV, List.getD_eq_getElem?_getD, h]
theorem bytesAV_csize (s : List UInt8) : ((bytesAV s).all fun a => a.csize == 1) = true := by simp [bytesAV, byteAV, AV.csize, AV.cells]
theorem byteAV_csize (b : UInt8) : (byteAV b).csize = 1 := rfl
theorem byteAV_cells (b : UInt8) : (byteAV b).cells = [byteAV b] := rfl
end Go.Proofs.YtiipkbkoigcabaaDoor
