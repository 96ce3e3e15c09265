/- A row's arguments as abstract values: what came in is read alone. · A law's row out of the contract of its function. · Verification conditions of regions, as they are walked: a guard's value is known behind the question. · How a verification condition is walked: one law for each form of code. · A law's row, its closed facts as Booleans. -/
import Derived.Test.YtgoonnlgjjgkiaaVb
import Derived.OpenShut
import Derived.WideShapes
import Derived.WalkKit
import Derived.ProofKit
import Derived.ShutString
import Derived.ChangeOld
import Derived.SizedLaws
import Derived.JoinedOf
set_option linter.unusedVariables false
set_option linter.unusedSimpArgs false
set_option linter.unusedSectionVars false
/-! Vc12 -/
set_option linter.unusedVariables false
namespace Go.Vc
open Go.WideShapes Go.ChangeShapes

inductive Ck where | bool | u8 | u16 | u32 | u64 | int | str | sl8
  deriving DecidableEq
def Ck.is : Ck → AV → Prop
  | .bool, av => ∃ b, av = .bool b
  | .u8, av => ∃ x, av = .u8 x
  | .u16, av => ∃ x, av = .u16 x
  | .u32, av => ∃ x, av = .u32 x
  | .u64, av => ∃ x, av = .u64 x
  | .int, av => ∃ x, av = .i x ∧ inI x
  | .str, av => ∃ s : List UInt8, av = .str s ∧ s.length < 9223372036854775808
  | .sl8, av => ∃ l, av = .sl false (.b8 l) ∧ l.length < 9223372036854775808

inductive Sh where | cell (c : Ck) | arr8 (n : Nat) | row (cks : List Ck) | sls | slr (cks : List Ck)

/-- rows of the same length, place for place -/
def Each {α β : Type} (p : α → β → Prop) (l : List α) (m : List β) : Prop := l.length = m.length ∧ ∀ (j : Nat) a b, l[j]? = some a → m[j]? = some b → p a b

theorem Each.nil {α β : Type} {p : α → β → Prop} : Each p [] [] := ⟨rfl, fun j a b h => by simp at h⟩
theorem Each.cons {α β : Type} {p : α → β → Prop} {a b l m} (h : p a b) (hs : Each p l m) : Each p (a :: l) (b :: m) := by
  refine ⟨by simp [hs.1], fun j x y h1 h2 => ?_⟩
  cases j with
  | zero => simp at h1 h2; subst h1; subst h2; exact h
  | succ j => exact hs.2 j x y (by simpa using h1) (by simpa using h2)
theorem Each.append {α β : Type} {p : α → β → Prop} {l m} {l' m'} (h : Each p l m) (hs : Each p l' m') : Each p (l ++ l') (m ++ m') := by
  refine ⟨by simp [hs.1, h.1], fun j x y h1 h2 => ?_⟩
  by_cases hj : j < l.length
  · rw [List.getElem?_append_left hj] at h1; rw [List.getElem?_append_left (by rw [← h.1]; exact hj)] at h2; exact h.2 j x y h1 h2
  · rw [List.getElem?_append_right (by omega)] at h1; rw [List.getElem?_append_right (by rw [← h.1]; omega)] at h2; rw [← h.1] at h2; exact hs.2 _ x y h1 h2

def Sh.is : Sh → AV → Prop
  | .cell c, av => c.is av
  | .arr8 n, av => ∃ l : List UInt8, av = .agg (.b8 l) ∧ l.length = n
  | .row cks, av => ∃ l, av = .agg (.gen l) ∧ Each Ck.is cks l
  | .sls, av => ∃ l : List (List UInt8), av = .sl false (.bss l) ∧ l.length < 9223372036854775808 ∧ ∀ x ∈ l, x.length < 9223372036854775808
  | .slr cks, av => ∃ l : List (List AV), av = .sl false (.recs cks.length l) ∧ l.length < 9223372036854775808 ∧ ∀ r ∈ l, Each Ck.is cks r

section
variable (P : Program)
def ckOf (t : TypeId) : Option Ck := match P.underlying t with
  | some .bool => some .bool
  | some (.int .u8) => some .u8 | some (.int .u16) => some .u16 | some (.int .u32) => some .u32 | some (.int .u64) => some .u64 | some (.int .i64) => some .int
  | some .string => some .str
  | some (.slice e) => match P.underlying e with
    | some (.int .u8) => if P.cellsOf e = 1 then some .sl8 else none
    | _ => none
  | _ => none
mutual
def flatT : Nat → TypeId → Option (List Ck)
  | 0, _ => none
  | n + 1, t => match P.underlying t with
    | some (.struct fs) => match flatFs n 0 fs.toList with
      | some cks => if P.cellsOf t = cks.length then some cks else none
      | none => none
    | some (.array m e) => match flatT n e with
      | some cks => if P.cellsOf e = cks.length ∧ P.cellsOf t = m * cks.length then some (List.replicate m cks).flatten else none
      | none => none
    | _ => (ckOf P t).map ([·])
def flatFs : Nat → Nat → List Field → Option (List Ck)
  | 0, _, _ => none
  | _ + 1, _, [] => some []
  | n + 1, o, f :: fs => match flatT n f.type with
    | some cks => if f.offset = o ∧ P.cellsOf f.type = cks.length then (flatFs n (o + cks.length) fs).map (cks ++ ·) else none
    | none => none
end
def shOf (t : TypeId) : Option Sh := match P.underlying t with
  | some (.struct _) => (flatT P 20 t).map .row
  | some (.array n e) => if ckOf P e = some .u8 ∧ P.cellsOf e = 1 ∧ P.cellsOf t = n then some (.arr8 n) else none
  | some (.slice e) => match P.underlying e with
    | some (.slice _) => if ckOf P e = some .sl8 ∧ P.cellsOf e = 1 then some .sls else none
    | some (.struct _) => match flatT P 20 e with
      | some cks => if P.cellsOf e = cks.length ∧ 0 < cks.length then some (.slr cks) else none
      | none => none
    | _ => (ckOf P t).map .cell
  | _ => (ckOf P t).map .cell
end

section
variable {P : Program} {H : Type} {enc : TypeId × Value → H} {w : World} {B base : Nat} {spare : Nat → Bool} {held : Bool} {O : Nat → Prop}

/-- a cell of a kind, read alone -/
def CellIs (B : Nat) (O : Nat → Prop) (w : World) (c : Ck) (v : Value) : Prop := ∃ av, c.is av ∧ RV B O w bt0 av v ∧ v.oneCell' = true

theorem cell?_lt {w : World} {a : Addr} {v : Value} (h : w.cell? a = some v) : a.block < w.heap.size := by
  unfold World.cell? at h
  cases hb : w.heap[a.block]? with
  | none => rw [hb] at h; simp at h
  | some o => exact (Array.getElem?_eq_some_iff.1 hb).1

theorem u8_nat {n : Int} (h : (Lit.int .u8 n).wf = true) : ∃ x : UInt8, n = (x.toNat : Int) := by
  have := bounds_u8 h
  obtain ⟨m, rfl⟩ := Int.eq_ofNat_of_zero_le this.1
  refine ⟨UInt8.ofNat m, ?_⟩
  rw [UInt8.toNat_ofNat', Nat.mod_eq_of_lt (by simp at this ⊢; omega)]
theorem u16_nat {n : Int} (h : (Lit.int .u16 n).wf = true) : ∃ x : UInt16, n = (x.toNat : Int) := by
  have := bounds_u16 h
  obtain ⟨m, rfl⟩ := Int.eq_ofNat_of_zero_le this.1
  refine ⟨UInt16.ofNat m, ?_⟩
  rw [UInt16.toNat_ofNat', Nat.mod_eq_of_lt (by simp at this ⊢; omega)]
theorem u32_nat {n : Int} (h : (Lit.int .u32 n).wf = true) : ∃ x : UInt32, n = (x.toNat : Int) := by
  have := bounds_u32 h
  obtain ⟨m, rfl⟩ := Int.eq_ofNat_of_zero_le this.1
  refine ⟨UInt32.ofNat m, ?_⟩
  rw [UInt32.toNat_ofNat', Nat.mod_eq_of_lt (by simp at this ⊢; omega)]
theorem u64_nat {n : Int} (h : (Lit.int .u64 n).wf = true) : ∃ x : UInt64, n = (x.toNat : Int) := by
  have := bounds_u64 h
  obtain ⟨m, rfl⟩ := Int.eq_ofNat_of_zero_le this.1
  refine ⟨UInt64.ofNat m, ?_⟩
  rw [UInt64.toNat_ofNat', Nat.mod_eq_of_lt (by simp at this ⊢; omega)]

theorem sl8_rv (hO : ∀ b, ¬ O b) {t e : TypeId} {fuel : Nat} {v : Value} {x} (ht : P.underlying t = some (.slice e)) (he : P.underlying e = some (.int .u8)) (hc : P.cellsOf e = 1)
    (h : DataW.trod enc P w base spare held fuel t [v] = some x) : CellIs B O w .sl8 v := by
  rcases open_ints ht he hc h with ⟨h0, _⟩ | ⟨a, len, cap, zs, h0, _, hl, hm, hz, _, hcell, hwf⟩
  · simp at h0; subst h0
    exact ⟨.sl false (.b8 []), ⟨[], rfl, by simp⟩, .sl0 rfl rfl (fun e => by first | rfl | cases e), rfl⟩
  · simp at h0; subst h0
    have hlz : len ≤ zs.length := by rw [hz]; split <;> omega
    have hmx : maxLen < 9223372036854775808 := by decide
    by_cases h00 : len = 0
    · subst h00
      exact ⟨.sl false (.b8 []), ⟨[], rfl, by simp⟩, .sl0 rfl rfl (fun e => by first | rfl | cases e), rfl⟩
    · let l : List UInt8 := (zs.take len).map fun n => UInt8.ofNat n.toNat
      have hll : l.length = len := by simp [l]; omega
      have hval : ∀ j, j < len → ((l.getD j 0).toNat : Int) = zs.getD j 0 := by
        intro j hj
        have hm' : zs.getD j 0 ∈ zs := by simp [List.getD, show j < zs.length by omega]
        obtain ⟨y, hy⟩ := u8_nat (hwf _ hm')
        have e : l.getD j 0 = UInt8.ofNat (zs.getD j 0).toNat := by
          simp [l, List.getD, List.getElem?_take, hj, show j < zs.length by omega]
        rw [e, hy]; simp
      refine ⟨.sl false (.b8 l), ⟨l, rfl, by omega⟩, ?_, rfl⟩
      have h00' := hcell 0 (by omega)
      have hb0 : (a.add 0).block = a.block := block_add a 0
      have hrow : ∀ j, j < len → ((zs.take len).map fun n => Value.int .u8 n)[j]? = some (Value.int .u8 (zs.getD j 0)) := by
        intro j hj
        simp [List.getElem?_take, hj, List.getD, show j < zs.length by omega]
      have := RV.sl (B := B) (O := O) (w := w) (β := bt0) (fr := false) (c := .b8 l) (a := a) (cap := cap) (us := (zs.take len).map fun n => Value.int .u8 n)
        (by simp [Cells.len, hll]; omega) ?_ (hO _) (by rw [← hb0]; exact cell?_lt h00') (by simp) ?_ (by simp [Cells.count, hll]; exact hl) ?_
      · simpa [Cells.count, hll] using this
      · intro j u hj
        have hj' : j < len := by have := (List.getElem?_eq_some_iff.1 hj).1; simp at this; omega
        rw [hrow j hj'] at hj; cases hj
        exact hcell j (by omega)
      · intro u hu
        obtain ⟨n, _, rfl⟩ := List.mem_map.1 hu; rfl
      · intro j hj
        have hj' : j < len := by simpa [Cells.len, hll] using hj
        have e : ((zs.take len).map fun n => Value.int .u8 n).getD j undef = .int .u8 ((l.getD j 0).toNat : Int) := by
          rw [List.getD_eq_getElem?_getD, hrow j hj', hval j hj']; rfl
        rw [e]
        exact .u8

theorem ck_rv (hO : ∀ b, ¬ O b) {t : TypeId} {c : Ck} (hck : ckOf P t = some c) {fuel : Nat} {cs : List Value} {x} (h : DataW.trod enc P w base spare held fuel t cs = some x) : ∃ v, cs = [v] ∧ CellIs B O w c v := by
  unfold ckOf at hck
  split at hck
  all_goals (try (cases hck; done))
  · rename_i ht; cases hck; obtain ⟨b, rfl, _⟩ := DataW.trod_bool ht h; exact ⟨_, rfl, _, ⟨b, rfl⟩, .bool, rfl⟩
  · rename_i ht; cases hck; obtain ⟨n, rfl, _, hw⟩ := DataW.trod_int ht h; obtain ⟨x, rfl⟩ := u8_nat hw; exact ⟨_, rfl, _, ⟨x, rfl⟩, .u8, rfl⟩
  · rename_i ht; cases hck; obtain ⟨n, rfl, _, hw⟩ := DataW.trod_int ht h; obtain ⟨x, rfl⟩ := u16_nat hw; exact ⟨_, rfl, _, ⟨x, rfl⟩, .u16, rfl⟩
  · rename_i ht; cases hck; obtain ⟨n, rfl, _, hw⟩ := DataW.trod_int ht h; obtain ⟨x, rfl⟩ := u32_nat hw; exact ⟨_, rfl, _, ⟨x, rfl⟩, .u32, rfl⟩
  · rename_i ht; cases hck; obtain ⟨n, rfl, _, hw⟩ := DataW.trod_int ht h; obtain ⟨x, rfl⟩ := u64_nat hw; exact ⟨_, rfl, _, ⟨x, rfl⟩, .u64, rfl⟩
  · rename_i ht; cases hck; obtain ⟨n, rfl, _, hw⟩ := DataW.trod_int ht h; have := bounds_i64 hw; exact ⟨_, rfl, _, ⟨n, rfl, by unfold inI; omega⟩, .i, rfl⟩
  · rename_i ht; cases hck; obtain ⟨s, rfl, _, hw⟩ := DataW.trod_string ht h
    have hmx : maxLen < 9223372036854775808 := by decide
    have e : s.data.toList.length = s.size := rfl
    exact ⟨_, rfl, _, ⟨s.data.toList, rfl, by omega⟩, .str, rfl⟩
  · rename_i e ht
    split at hck
    · rename_i he
      split at hck
      · rename_i hc; cases hck
        rcases DataW.trod_slice ht h with ⟨rfl, _⟩ | ⟨a, len, cap, elems, rest, n, _, rfl, _⟩
        · exact ⟨_, rfl, sl8_rv hO ht he hc h⟩
        · exact ⟨_, rfl, sl8_rv hO ht he hc h⟩
      · cases hck
    · cases hck

theorem drop_take_split {α : Type} (l : List α) (o n : Nat) : l.drop o = (l.drop o).take n ++ l.drop (o + n) := by
  conv => lhs; rw [← List.take_append_drop n (l.drop o)]
  rw [List.drop_drop]

mutual
theorem flat_rv (hO : ∀ b, ¬ O b) : ∀ (n : Nat) (t : TypeId) (cks : List Ck), flatT P n t = some cks → ∀ {fuel : Nat} {cs : List Value} {x}, DataW.trod enc P w base spare held fuel t cs = some x → Each (CellIs B O w) cks cs
  | 0, t, cks, hf, _, _, _, _ => by simp [flatT] at hf
  | n + 1, t, cks, hf, fuel, cs, x, h => by
    unfold flatT at hf
    split at hf
    · rename_i fs ht
      split at hf
      · rename_i cks' hfs
        split at hf
        · rename_i hc; cases hf
          obtain ⟨xs, m, _, _, hl, _, hel⟩ := DataW.trod_struct ht h
          have := flatFs_rv hO n 0 fs.toList cks hfs (cs := cs) (by omega) (fun i f hf => by
            have := hel i f (by simpa using hf)
            have hi : i < xs.length := by
              rename_i hxs _; have := (List.getElem?_eq_some_iff.1 hf).1; simp at this; omega
            exact ⟨m, xs[i], by rw [this]; simp [hi]⟩)
          simpa using this
        · cases hf
      · cases hf
    · rename_i m e ht
      split at hf
      · rename_i cks' hfe
        split at hf
        · rename_i hc; cases hf
          obtain ⟨xs, k, _, _, hl, hxl, hel⟩ := DataW.trod_array ht h
          have key : ∀ j, j ≤ m → Each (CellIs B O w) (List.replicate j cks').flatten (cs.take (j * cks'.length)) := by
            intro j
            induction j with
            | zero => intro _; simpa using Each.nil
            | succ j ih =>
              intro hj
              have h1 := ih (by omega)
              have hx := hel j (by omega)
              rw [List.getElem?_eq_getElem (by omega)] at hx
              have h2 := flat_rv hO n e cks' hfe hx
              rw [hc.1] at h2
              have e1 : cs.take ((j + 1) * cks'.length) = cs.take (j * cks'.length) ++ (cs.drop (j * cks'.length)).take cks'.length := by
                rw [Nat.succ_mul, List.take_add]
              rw [e1, List.replicate_succ', List.flatten_append]
              simpa using h1.append h2
          have := key m (Nat.le_refl _)
          rwa [List.take_of_length_le (by omega)] at this
        · cases hf
      · cases hf
    · obtain ⟨c, hc, rfl⟩ := Option.map_eq_some_iff.1 hf
      obtain ⟨v, rfl, hv⟩ := ck_rv hO hc h
      exact Each.cons hv Each.nil
theorem flatFs_rv (hO : ∀ b, ¬ O b) : ∀ (n o : Nat) (fs : List Field) (cks : List Ck), flatFs P n o fs = some cks → ∀ {cs : List Value}, cs.length = o + cks.length →
    (∀ (i : Nat) (f : Field), fs[i]? = some f → ∃ (m : Nat) (y : _), DataW.trod enc P w base spare held m f.type ((cs.drop f.offset).take (P.cellsOf f.type)) = some y) → Each (CellIs B O w) cks (cs.drop o)
  | 0, o, fs, cks, hf, cs, _, _ => by simp [flatFs] at hf
  | n + 1, o, [], cks, hf, cs, hl, _ => by
    simp [flatFs] at hf; subst hf
    rw [List.drop_of_length_le (by simp at hl; omega)]; exact Each.nil
  | n + 1, o, f :: fs, cks, hf, cs, hl, hel => by
    simp only [flatFs] at hf
    split at hf
    · rename_i c1 hf1
      split at hf
      · rename_i hc
        obtain ⟨c2, hf2, rfl⟩ := Option.map_eq_some_iff.1 hf
        obtain ⟨m, y, hy⟩ := hel 0 f rfl
        have h1 := flat_rv hO n f.type c1 hf1 hy
        rw [hc.1, hc.2] at h1
        have h2 := flatFs_rv hO n (o + c1.length) fs c2 hf2 (cs := cs) (by simp at hl; omega) (fun i g hg => hel (i + 1) g (by simpa using hg))
        rw [drop_take_split cs o c1.length]
        exact h1.append h2
      · cases hf
    · cases hf
end

theorem exists_list {α : Type} (n : Nat) (p : Nat → α → Prop) (h : ∀ i, i < n → ∃ a, p i a) : ∃ l : List α, l.length = n ∧ ∀ i a, l[i]? = some a → p i a := by
  induction n with
  | zero => exact ⟨[], rfl, fun i a h => by simp at h⟩
  | succ n ih =>
    obtain ⟨l, hl, hp⟩ := ih fun i hi => h i (by omega)
    obtain ⟨a, ha⟩ := h n (by omega)
    refine ⟨l ++ [a], by simp [hl], fun i b hb => ?_⟩
    by_cases hi : i < l.length
    · rw [List.getElem?_append_left hi] at hb; exact hp i b hb
    · have : i = n := by have := (List.getElem?_eq_some_iff.1 hb).1; simp at this; omega
      subst this
      rw [List.getElem?_append_right (by omega)] at hb
      simp [hl] at hb; subst hb; exact ha

/-- the cells' abstract values -/
theorem Each.avs {cks : List Ck} {cs : List Value} (h : Each (CellIs B O w) cks cs) : ∃ l : List AV, Each Ck.is cks l ∧ (∀ j, j < l.length → RV B O w bt0 (l.getD j .any) (cs.getD j undef)) ∧ ∀ u ∈ cs, u.oneCell' = true := by
  obtain ⟨l, hl, hp⟩ := exists_list (α := AV) cks.length (fun j av => ∀ c v, cks[j]? = some c → cs[j]? = some v → c.is av ∧ RV B O w bt0 av v) (fun i hi => by
    have h1 : cks[i]? = some cks[i] := by simp [hi]
    have h2 : cs[i]? = some (cs[i]'(by rw [← h.1]; exact hi)) := by simp
    obtain ⟨av, a1, a2, _⟩ := h.2 i _ _ h1 h2
    refine ⟨av, fun c v hc hv => ?_⟩
    rw [h1] at hc; rw [h2] at hv; cases hc; cases hv; exact ⟨a1, a2⟩)
  refine ⟨l, ⟨hl.symm, fun j c a hc ha => ?_⟩, fun j hj => ?_, fun u hu => ?_⟩
  · have hj : j < cs.length := by rw [← h.1]; exact (List.getElem?_eq_some_iff.1 hc).1
    exact (hp j a ha c cs[j] hc (by simp [hj])).1
  · have h1 : cks[j]? = some (cks[j]'(by omega)) := by simp
    have h2 : cs[j]? = some (cs[j]'(by rw [← h.1]; omega)) := by simp
    have h3 : l[j]? = some l[j] := by simp [hj]
    have := (hp j _ h3 _ _ h1 h2).2
    simpa [List.getD_eq_getElem?_getD, h3, h2] using this
  · obtain ⟨j, hj⟩ := List.getElem?_of_mem hu
    have hjl : j < cks.length := by rw [h.1]; exact (List.getElem?_eq_some_iff.1 hj).1
    obtain ⟨av, _, _, h3⟩ := h.2 j _ _ (List.getElem?_eq_getElem hjl) hj
    exact h3

theorem add_add' (a : Addr) (i j : Nat) : (a.add i).add j = a.add (i + j) := by
  unfold Addr.add
  by_cases hi : i = 0 <;> by_cases hj : j = 0 <;> simp [hi, hj, Nat.add_assoc]

theorem cell_val {c : Ck} {t : TypeId} (hck : ckOf P t = some c) {r : Reach} {b0 : Nat} {v : Value} (hval : Value.okWide P w r b0 t v) : v.cells.toList = [v] := by
  unfold ckOf at hck
  split at hck
  all_goals (try (cases hck; done))
  · rename_i ht; obtain ⟨_, rfl⟩ := okWide_bool ht hval; rfl
  · rename_i ht; obtain ⟨_, rfl⟩ := okWide_int ht hval; rfl
  · rename_i ht; obtain ⟨_, rfl⟩ := okWide_int ht hval; rfl
  · rename_i ht; obtain ⟨_, rfl⟩ := okWide_int ht hval; rfl
  · rename_i ht; obtain ⟨_, rfl⟩ := okWide_int ht hval; rfl
  · rename_i ht; obtain ⟨_, rfl⟩ := okWide_int ht hval; rfl
  · rename_i ht; obtain ⟨_, rfl⟩ := okWide_string ht hval; rfl
  · rename_i ht; obtain ⟨_, _, _, rfl⟩ := okWide_slice ht hval; rfl

/-- a slice's cells, element by element -/
theorem sls_rv (hO : ∀ b, ¬ O b) {t e : TypeId} {fuel : Nat} {v : Value} {x} (ht : P.underlying t = some (.slice e)) (he : ckOf P e = some .sl8) (hc : P.cellsOf e = 1)
    (h : DataW.trod enc P w base spare held fuel t [v] = some x) : ∃ av, Sh.sls.is av ∧ RV B O w bt0 av v := by
  rcases DataW.trod_slice ht h with ⟨h0, _⟩ | ⟨a, len, cap, elems, rest, n, _, h0, _, hb, hl, hm, hel, hget, _⟩
  · simp at h0; subst h0
    exact ⟨.sl false (.bss []), ⟨[], rfl, by simp⟩, .sl0 rfl rfl (fun e => by first | rfl | cases e)⟩
  · simp at h0; subst h0
    have hmx : maxLen < 9223372036854775808 := by decide
    by_cases h00 : len = 0
    · subst h00
      exact ⟨.sl false (.bss []), ⟨[], rfl, by simp⟩, .sl0 rfl rfl (fun e => by first | rfl | cases e)⟩
    have each : ∀ i, i < len → ∃ u, w.cell? (a.add i) = some u ∧ ∃ l : List UInt8, l.length < 9223372036854775808 ∧ RV B O w bt0 (.sl false (.b8 l)) u ∧ u.oneCell' = true := by
      intro i hi
      have := hget i hi
      rw [List.getElem?_eq_getElem (by omega), hc, Nat.mul_one, Option.bind_eq_some_iff] at this
      obtain ⟨cs', hcs, hy⟩ := this
      obtain ⟨v, rfl, av, ⟨l, rfl, hl⟩, h1, h2⟩ := ck_rv (B := B) (O := O) hO he hy
      exact ⟨v, cell_of_cells?_one hcs, l, hl, h1, h2⟩
    obtain ⟨us, hus, hu⟩ := exists_list (α := Value × List UInt8) len (fun i u => w.cell? (a.add i) = some u.1 ∧ u.2.length < 9223372036854775808 ∧ RV B O w bt0 (.sl false (.b8 u.2)) u.1 ∧ u.1.oneCell' = true) (fun i hi => by
      obtain ⟨u, h1, l, h2, h3, h4⟩ := each i hi; exact ⟨(u, l), h1, h2, h3, h4⟩)
    refine ⟨.sl false (.bss (us.map (·.2))), ⟨us.map (·.2), rfl, by simp; omega, fun x hx => ?_⟩, ?_⟩
    · obtain ⟨u, hu', rfl⟩ := List.mem_map.1 hx
      obtain ⟨i, hi⟩ := List.getElem?_of_mem hu'
      exact (hu i u hi).2.1
    · obtain ⟨u0, hu0, _⟩ := each 0 (by omega)
      have := RV.sl (B := B) (O := O) (w := w) (β := bt0) (fr := false) (c := .bss (us.map (·.2))) (a := a) (cap := cap) (us := us.map (·.1)) (by simp [Cells.len]) ?_ (hO _) (by rw [← block_add a 0]; exact cell?_lt hu0) (by simp) ?_ (by simp [Cells.count]; omega) ?_
      · simpa [Cells.count, hus] using this
      · intro j u hj
        rw [List.getElem?_map] at hj
        obtain ⟨y, hy, rfl⟩ := Option.map_eq_some_iff.1 hj
        exact (hu j _ hy).1
      · intro u hu'
        obtain ⟨y, hy, rfl⟩ := List.mem_map.1 hu'
        obtain ⟨i, hi⟩ := List.getElem?_of_mem hy
        exact (hu i y hi).2.2.2
      · intro j hj
        have hj' : j < us.length := by simpa [Cells.len] using hj
        have h1 := (hu j us[j] (by simp [hj'])).2.2.1
        have e1 : (us.map (·.1)).getD j undef = us[j].1 := by simp [List.getD_eq_getElem?_getD, hj']
        have e2 : (us.map (·.2)).getD j [] = us[j].2 := by simp [List.getD_eq_getElem?_getD, hj']
        rw [e1]; simp only [Cells.get, e2]; exact h1

theorem slr_rv (hO : ∀ b, ¬ O b) {t e : TypeId} {fuel : Nat} {v : Value} {x} {cks : List Ck} (ht : P.underlying t = some (.slice e)) {m : Nat} (he : flatT P m e = some cks) (hc : P.cellsOf e = cks.length) (h0c : 0 < cks.length)
    (h : DataW.trod enc P w base spare held fuel t [v] = some x) : ∃ av, (Sh.slr cks).is av ∧ RV B O w bt0 av v := by
  rcases DataW.trod_slice ht h with ⟨h0, _⟩ | ⟨a, len, cap, elems, rest, n, _, h0, _, hb, hl, hm, hel, hget, _⟩
  · simp at h0; subst h0
    exact ⟨.sl false (.recs cks.length []), ⟨[], rfl, by simp⟩, .sl0 rfl rfl (fun e => by first | rfl | cases e)⟩
  · simp at h0; subst h0
    have hmx : maxLen < 9223372036854775808 := by decide
    by_cases h00 : len = 0
    · subst h00
      exact ⟨.sl false (.recs cks.length []), ⟨[], rfl, by simp⟩, .sl0 rfl rfl (fun e => by first | rfl | cases e)⟩
    have each : ∀ i, i < len → ∃ u : List Value × List AV, u.1.length = cks.length ∧ (∀ j, j < cks.length → w.cell? (a.add (i * cks.length + j)) = u.1[j]?) ∧ Each Ck.is cks u.2 ∧
        (∀ j, j < u.2.length → RV B O w bt0 (u.2.getD j .any) (u.1.getD j undef)) ∧ ∀ y ∈ u.1, y.oneCell' = true := by
      intro i hi
      have := hget i hi
      rw [List.getElem?_eq_getElem (by omega), hc, Option.bind_eq_some_iff] at this
      obtain ⟨cs', hcs, hy⟩ := this
      have h1 := flat_rv (B := B) (O := O) hO m e cks he hy
      obtain ⟨l, g1, g2, g3⟩ := h1.avs
      refine ⟨(cs', l), h1.1.symm, fun j hj => ?_, g1, g2, g3⟩
      rw [← add_add']; exact (World.cells?_some hcs).2.2 j hj
    obtain ⟨us, hus, hu⟩ := exists_list len _ each
    have hrow : ∀ j, j < cks.length * len → ∃ u, us[j / cks.length]? = some u ∧ w.cell? (a.add j) = u.1[j % cks.length]? ∧ u.1.length = cks.length := by
      intro j hj
      have hd : j / cks.length < len := by rw [Nat.div_lt_iff_lt_mul h0c, Nat.mul_comm]; exact hj
      have hm' : j % cks.length < cks.length := Nat.mod_lt _ h0c
      have hg : us[j / cks.length]? = some (us[j / cks.length]'(by omega)) := by simp
      refine ⟨_, hg, ?_, (hu _ _ hg).1⟩
      have := (hu _ _ hg).2.1 (j % cks.length) hm'
      rwa [show j / cks.length * cks.length + j % cks.length = j by rw [Nat.mul_comm]; exact Nat.div_add_mod j cks.length] at this
    obtain ⟨vs, hvs, hv⟩ := exists_list (α := Value) (cks.length * len) (fun j v => w.cell? (a.add j) = some v ∧ ∃ u, us[j / cks.length]? = some u ∧ u.1[j % cks.length]? = some v) (fun j hj => by
      obtain ⟨u, h1, h2, h3⟩ := hrow j hj
      have hm' : j % cks.length < u.1.length := by rw [h3]; exact Nat.mod_lt _ h0c
      have hg : u.1[j % cks.length]? = some (u.1[j % cks.length]'hm') := by simp
      rw [hg] at h2
      exact ⟨_, h2, u, h1, hg⟩)
    refine ⟨.sl false (.recs cks.length (us.map (·.2))), ⟨us.map (·.2), rfl, by simp; omega, fun x hx => ?_⟩, ?_⟩
    · obtain ⟨u, hu', rfl⟩ := List.mem_map.1 hx
      obtain ⟨i, hi⟩ := List.getElem?_of_mem hu'
      exact (hu i u hi).2.2.1
    · have hpos : 0 < cks.length * len := Nat.mul_pos h0c (by omega)
      have hv0 := (hv 0 (vs[0]'(by omega)) (by simp)).1
      have := RV.sl (B := B) (O := O) (w := w) (β := bt0) (fr := false) (c := .recs cks.length (us.map (·.2))) (a := a) (cap := cap) (us := vs) (by simp [Cells.len, hvs, hus]) (fun j u hj => (hv j u hj).1) (hO _) (by rw [← block_add a 0]; exact cell?_lt hv0) (by simp) ?_ (by simp [Cells.count]; omega) ?_
      · simpa [Cells.count, hus] using this
      · intro u hu'
        obtain ⟨i, hi⟩ := List.getElem?_of_mem hu'
        obtain ⟨_, y, h1, h2⟩ := hv i u hi
        exact (hu _ _ h1).2.2.2.2 u (List.mem_of_getElem? h2)
      · intro j hj
        have hj' : j < vs.length := by simpa [Cells.len, hvs, hus] using hj
        obtain ⟨_, y, h1, h2⟩ := hv j vs[j] (by simp [hj'])
        have hyl : j % cks.length < y.2.length := by rw [← (hu _ _ h1).2.2.1.1]; exact Nat.mod_lt _ h0c
        have h3 := (hu _ _ h1).2.2.2.1 (j % cks.length) hyl
        have e1 : vs.getD j undef = vs[j] := by simp [List.getD_eq_getElem?_getD, hj']
        have e2 : y.1.getD (j % cks.length) undef = vs[j] := by simp [List.getD_eq_getElem?_getD, h2]
        have e3 : (us.map (·.2)).getD (j / cks.length) [] = y.2 := by simp [List.getD_eq_getElem?_getD, h1]
        rw [e1]; simp only [Cells.get, e3]; rw [e2] at h3; exact h3

theorem sh_rv (hO : ∀ b, ¬ O b) {t : TypeId} {sh : Sh} (hsh : shOf P t = some sh) {r : Reach} {b0 : Nat} {v : Value} {d : DataW H} {ps : List MemPlace} (hval : Value.okWide P w r b0 t v) (h : DataW.Trod enc P w base spare held t v d ps) :
    ∃ av, sh.is av ∧ RV B O w bt0 av v := by
  obtain ⟨fuel, h⟩ := h
  have cell : (ckOf P t).map Sh.cell = some sh → ∃ av, sh.is av ∧ RV B O w bt0 av v := by
    intro hm
    obtain ⟨c, hc, rfl⟩ := Option.map_eq_some_iff.1 hm
    rw [cell_val hc hval] at h
    obtain ⟨v', e, av, h1, h2, _⟩ := ck_rv (B := B) (O := O) hO hc h
    simp at e; subst e
    exact ⟨av, h1, h2⟩
  have hval' := hval
  unfold shOf at hsh
  split at hsh
  · rename_i fs ht
    obtain ⟨cks, hf, rfl⟩ := Option.map_eq_some_iff.1 hsh
    obtain ⟨cs, rfl, _⟩ := okWide_struct ht hval
    have h' : DataW.trod enc P w base spare held fuel t cs.toList = some (d, ps) := h
    obtain ⟨l, g1, g2, g3⟩ := (flat_rv (B := B) (O := O) hO 20 t cks hf h').avs
    have hl : cs.toList.length = l.length := by rw [← (flat_rv (B := B) (O := O) hO 20 t cks hf h').1, g1.1]
    refine ⟨.agg (.gen l), ⟨l, rfl, g1⟩, ?_⟩
    have := RV.agg (B := B) (O := O) (w := w) (β := bt0) (c := .gen l) (us := cs.toList) (by simpa [Cells.len] using hl) g3 (fun j hj => by simpa [Cells.get] using g2 j hj)
    simpa using this
  · rename_i n e ht
    split at hsh
    · rename_i hc; cases hsh
      obtain ⟨he, hce, hct⟩ := hc
      have : ∃ cs, v = .agg cs ∧ cs.size = P.cellsOf t := by
        simp only [Value.okWide, ht] at hval; obtain ⟨cs, h1, h2, _⟩ := hval; exact ⟨cs, h1, h2⟩
      obtain ⟨cs, rfl, hsz⟩ := this
      have h' : DataW.trod enc P w base spare held fuel t cs.toList = some (d, ps) := h
      obtain ⟨xs, k, _, _, hl, hxl, hel⟩ := DataW.trod_array ht h'
      have each : ∀ i, i < n → ∃ x : UInt8, cs.toList[i]? = some (.int .u8 (x.toNat : Int)) := by
        intro i hi
        have hx := hel i hi
        rw [List.getElem?_eq_getElem (by omega), hce, Nat.mul_one] at hx
        obtain ⟨v', hm, av, ⟨x, rfl⟩, hr, _⟩ := ck_rv (B := B) (O := O) hO he hx
        cases hr
        refine ⟨x, ?_⟩
        have := congrArg (·[0]?) hm
        simpa [List.getElem?_take] using this
      obtain ⟨l, hll, hp⟩ := exists_list n _ each
      refine ⟨.agg (.b8 l), ⟨l, rfl, hll⟩, ?_⟩
      have := RV.agg (B := B) (O := O) (w := w) (β := bt0) (c := .b8 l) (us := cs.toList) (by simp [Cells.len, hll, hsz, hct]) (fun u hu => by
          obtain ⟨i, hi⟩ := List.getElem?_of_mem hu
          have hil : i < n := by have := (List.getElem?_eq_some_iff.1 hi).1; simp [hsz, hct] at this; omega
          obtain ⟨x, hx⟩ := each i hil
          rw [hi] at hx; cases hx; rfl) (fun j hj => by
          have hj' : j < l.length := by simpa [Cells.len] using hj
          have h1 := hp j l[j] (by simp [hj'])
          have e1 : cs.toList.getD j undef = .int .u8 (l[j].toNat : Int) := by rw [List.getD_eq_getElem?_getD, h1]; rfl
          have e2 : l.getD j 0 = l[j] := by simp [List.getD_eq_getElem?_getD, hj']
          rw [e1]; simp only [Cells.get, e2]; exact .u8)
      simpa using this
    · cases hsh
  · rename_i e ht
    obtain ⟨a, len, cap, rfl⟩ := okWide_slice ht hval
    split at hsh
    · split at hsh
      · rename_i hc; cases hsh; exact sls_rv hO ht hc.1 hc.2 h
      · cases hsh
    · split at hsh
      · rename_i cks hf
        split at hsh
        · rename_i hc; cases hsh; exact slr_rv hO ht hf hc.1 hc.2 h
        · cases hsh
      · cases hsh
    · exact cell hsh
  · exact cell hsh
end
end Go.Vc

/-! Vc13 -/
set_option linter.unusedVariables false
namespace Go.Vc
open Go.WideShapes Go.ChangeShapes Go.RowKit

section
variable {P : Program} {H : Type} {enc : TypeId × Value → H} {w : World} {B base : Nat} {spare : Nat → Bool} {held : Bool} {O : Nat → Prop}

theorem args_open (hO : ∀ b, ¬ O b) {r : Reach} {b0 : Nat} : ∀ (ts : List TypeId) (vs : List Value) (ds : List (DataW H)) (p : List MemPlace), DataW.TrodAll enc P w base spare held ts vs ds p →
    (∀ (j : Nat) t v, ts[j]? = some t → vs[j]? = some v → Value.okWide P w r b0 t v) → ∀ shs, ts.map (shOf P) = shs.map some →
    ∃ avs, Each Sh.is shs avs ∧ vs.length = avs.length ∧ ∀ j, j < avs.length → RV B O w bt0 (avs.getD j .any) (vs.getD j undef)
  | [], [], [], _, _, _, shs, hs => by
    have : shs = [] := by cases shs with | nil => rfl | cons _ _ => simp at hs
    subst this
    exact ⟨[], Each.nil, rfl, fun j hj => by simp at hj⟩
  | t :: ts, v :: vs, d :: ds, _, ⟨p, q, h, hr, _⟩, hv, shs, hs => by
    cases shs with
    | nil => simp at hs
    | cons sh shs =>
      simp only [List.map_cons, List.cons.injEq] at hs
      obtain ⟨av, h1, h2⟩ := sh_rv (B := B) (O := O) hO hs.1 (hv 0 t v rfl rfl) h
      obtain ⟨avs, g1, g2, g3⟩ := args_open hO ts vs ds q hr (fun j t v h1 h2 => hv (j + 1) t v (by simpa using h1) (by simpa using h2)) shs hs.2
      refine ⟨av :: avs, Each.cons h1 g1, by simp [g2], fun j hj => ?_⟩
      cases j with
      | zero => exact h2
      | succ j => exact g3 j (by simpa using hj)
  | [], _ :: _, _, _, h, _, _, _ => by simp [DataW.TrodAll] at h
  | [], [], _ :: _, _, h, _, _, _ => by simp [DataW.TrodAll] at h
  | _ :: _, [], _, _, h, _, _, _ => by simp [DataW.TrodAll] at h
  | _ :: _, _ :: _, [], _, h, _, _, _ => by simp [DataW.TrodAll] at h

theorem args_shut (hl : laidOutB P = true) {W W' : World} (hb : Below W.heap.size W W') : ∀ (ts : List TypeId) (vs : List Value) (ds : List (DataW H)) (p : List MemPlace), DataW.TrodAll enc P W 0 (fun _ => true) true ts vs ds p →
    ts.all (fun t => P.readableRec t && decide (t < P.types.size)) = true → DataW.TrodAll enc P W' 0 (fun b => decide (b < W.heap.size)) true ts vs ds p
  | [], [], [], _, h, _ => h
  | t :: ts, v :: vs, d :: ds, _, ⟨p, q, h, hr, e⟩, ha => by
    simp only [List.all_cons, Bool.and_eq_true, decide_eq_true_eq] at ha
    exact ⟨p, q, Below.trod hl ha.1.1 ha.1.2 h hb (by obtain ⟨m, hm⟩ := h; exact DataW.trod_lt m _ _ _ hm), args_shut hl hb ts vs ds q hr ha.2, e⟩
  | [], _ :: _, _, _, h, _ => by simp [DataW.TrodAll] at h
  | [], [], _ :: _, _, h, _ => by simp [DataW.TrodAll] at h
  | _ :: _, [], _, _, h, _ => by simp [DataW.TrodAll] at h
  | _ :: _, _ :: _, [], _, h, _ => by simp [DataW.TrodAll] at h
end

/-- what a law's function does, as its row asks for it -/
theorem law_calls {P : Program} {f : Nat} {fn : Func} {s : ChangeSpec} {rt : TypeId} {shs : List Sh} {H : Type} {enc : TypeId × Value → H} (hl : laidOutB P = true) (hvars : s.vars = []) (hrt : P.underlying rt = some .bool) (hres : fn.resultTypes = #[rt])
    (hsh : fn.params.toList.map (shOf P) = shs.map some) (hread : fn.params.toList.all (fun t => P.readableRec t && decide (t < P.types.size)) = true)
    (hspec : ∀ ds : List (DataW H), ds.length = fn.params.size → s.fn H ds = { results := [.lit (.bool true)], args := ds })
    (hlaw : ∀ avs, Each Sh.is shs avs → CallSat P f avs [] ⟨True, .bool true, [], []⟩)
    {W : World} {base : Nat} {args : Array Value} {ds gs : List (DataW H)} {before : List MemPlace}
    (hval : ∀ (j : Nat) t v, fn.params[j]? = some t → args[j]? = some v → Value.okWide P W .any base t v)
    (hW : DataW.Whole enc P fn.params.toList s.vars false W args.toList ds gs before) :
    Calls P f args W fun e W' => ∃ v, e = .returned v ∧ s.post enc P fn false true false false W args v W' := by
  have hW' := hW
  obtain ⟨p, q, hA, hV, rfl, _, _⟩ := hW
  have hgs : gs = [] ∧ q = [] := by
    have hV' := hV
    rw [hvars] at hV'
    exact trodVars_none hV'
  obtain ⟨rfl, rfl⟩ := hgs
  have hO : ∀ b, ¬ Owned (meOf []) bt0 b := by rintro b ⟨k, c, sz, h1, h2⟩; simp [meOf, mget] at h1
  have hO2 : ∀ b, ¬ Own ⟨W.heap.size, Owned (meOf []) bt0, W, fun _ => False⟩ (meOf []) bt0 b := fun b h => h.elim (hO b) id
  obtain ⟨avs, h1, h2, h3⟩ := args_open (B := W.heap.size) hO2 _ _ _ _ hA (fun j t v h1 h2 => hval j t v (by simpa using h1) (by simpa using h2)) shs hsh
  have hmr : MR ⟨W.heap.size, Owned (meOf []) bt0, W, fun _ => False⟩ (meOf []) bt0 W := by
    refine ⟨fun k _ => rfl, fun k c h => ?_, fun k k' c c' b sz sz' h => ?_, fun k c b sz h => ?_, ⟨rfl, rfl, rfl, rfl, Nat.le_refl _, fun _ _ _ => rfl, fun _ h => h.elim⟩⟩ <;> simp [meOf, mget] at h
  have hc := hlaw avs h1 (fun _ => False) bt0 args.toList W h2 hmr h3
  refine Calls.mono (show Calls P f args W _ from hc) ?_
  rintro e W' ⟨v, β', rfl, hv, hm, _⟩
  obtain rfl : v = .bool true := by cases hv; rfl
  have bel : Below W.heap.size W W' := ⟨hm.fr.os, hm.fr.tape, hm.fr.output, hm.fr.size, fun k hk => hm.fr.keep k hk (hO k)⟩
  have hlen : ds.length = fn.params.size := by
    have : ∀ (ts : List TypeId) (vs : List Value) (ds : List (DataW H)) (p : List MemPlace), DataW.TrodAll enc P W 0 (fun _ => true) true ts vs ds p → ds.length = ts.length := by
      intro ts
      induction ts with
      | nil => intro vs ds p h; cases vs <;> cases ds <;> simp_all [DataW.TrodAll]
      | cons t ts ih =>
        intro vs ds p h
        cases vs <;> cases ds <;> try (simp [DataW.TrodAll] at h; done)
        obtain ⟨_, _, _, h, _⟩ := h
        simp [ih _ _ _ h]
    simpa using this _ _ _ _ hA
  refine ⟨_, rfl, ds, [], p ++ [], [], p, [], hW', ?_, ?_, ?_, bel.frame _, fun h => by cases h⟩
  · rw [List.append_nil, hspec ds hlen, hres]
    exact trodAll_mk1 (shut_bool hrt _)
  · rw [List.append_nil, hspec ds hlen]
    exact args_shut hl bel _ _ _ _ hA hread
  · rw [List.append_nil, hspec ds hlen, hvars]
    exact rfl
end Go.Vc

/-! Vc14a -/
set_option linter.unusedVariables false
namespace Go.Vc

def vcG (Γ : Ctr) : List MO → St → (St → Prop) → Prop
  | [], s, K => K s
  | o :: os, s, K =>
    match o.g with
    | none => (core Γ (o.d.getD 0) o.op s.tm (mget s.me)).pre ∧ vcG Γ os ⟨setT s.tm o.d (core Γ (o.d.getD 0) o.op s.tm (mget s.me)).v, msets s.me (core Γ (o.d.getD 0) o.op s.tm (mget s.me)).mw⟩ K
    | some (g, want) => match tget s.tm g with
      | .bool b => if b = want then (core Γ (o.d.getD 0) o.op ((g, .bool want) :: s.tm) (mget s.me)).pre ∧
          vcG Γ os ⟨setT ((g, .bool want) :: s.tm) o.d (core Γ (o.d.getD 0) o.op ((g, .bool want) :: s.tm) (mget s.me)).v, msets s.me (core Γ (o.d.getD 0) o.op ((g, .bool want) :: s.tm) (mget s.me)).mw⟩ K
        else vcG Γ os ⟨setT ((g, .bool !want) :: s.tm) o.d .und, s.me⟩ K
      | .und => vcG Γ os ⟨setT s.tm o.d .und, s.me⟩ K
      | _ => False

def vcGD (Γ : Ctr) : List MO → List (List Nat × List Nat) → St → (St → Prop) → Prop
  | [], _, s, K => K s
  | o :: os, fs, s, K =>
    match o.g with
    | none => (core Γ (o.d.getD 0) o.op s.tm (mget s.me)).pre ∧ disj fs o.sus (core Γ (o.d.getD 0) o.op s.tm (mget s.me)).mw (core Γ (o.d.getD 0) o.op s.tm (mget s.me)).mr ∧
      vcGD Γ os (fs ++ [((core Γ (o.d.getD 0) o.op s.tm (mget s.me)).mr, (core Γ (o.d.getD 0) o.op s.tm (mget s.me)).mw.map (·.1))]) ⟨setT s.tm o.d (core Γ (o.d.getD 0) o.op s.tm (mget s.me)).v, msets s.me (core Γ (o.d.getD 0) o.op s.tm (mget s.me)).mw⟩ K
    | some (g, want) => match tget s.tm g with
      | .bool b => if b = want then (core Γ (o.d.getD 0) o.op ((g, .bool want) :: s.tm) (mget s.me)).pre ∧ disj fs o.sus (core Γ (o.d.getD 0) o.op ((g, .bool want) :: s.tm) (mget s.me)).mw (core Γ (o.d.getD 0) o.op ((g, .bool want) :: s.tm) (mget s.me)).mr ∧
          vcGD Γ os (fs ++ [((core Γ (o.d.getD 0) o.op ((g, .bool want) :: s.tm) (mget s.me)).mr, (core Γ (o.d.getD 0) o.op ((g, .bool want) :: s.tm) (mget s.me)).mw.map (·.1))])
            ⟨setT ((g, .bool want) :: s.tm) o.d (core Γ (o.d.getD 0) o.op ((g, .bool want) :: s.tm) (mget s.me)).v, msets s.me (core Γ (o.d.getD 0) o.op ((g, .bool want) :: s.tm) (mget s.me)).mw⟩ K
        else vcGD Γ os (fs ++ [([], [])]) ⟨setT ((g, .bool !want) :: s.tm) o.d .und, s.me⟩ K
      | .und => vcGD Γ os (fs ++ [([], [])]) ⟨setT s.tm o.d .und, s.me⟩ K
      | _ => False

theorem ev_ext {tm tm' : Tm} (h : tget tm = tget tm') : ev tm = ev tm' := by
  funext x; cases x <;> simp only [ev, h]
theorem core_ext {Γ : Ctr} {d : Nat} {op : MOp} {tm tm' : Tm} {m : Nat → Option (Option Cells)} (h : tget tm = tget tm') : core Γ d op tm m = core Γ d op tm' m := by
  have h' := ev_ext h
  cases op
  case store sz a x => cases sz <;> simp only [core, h']
  all_goals simp only [core, bnds, h']
theorem tget_setX {tm tm' : Tm} (h : tget tm = tget tm') (d : Option Nat) (v : AV) : tget (setT tm d v) = tget (setT tm' d v) := by
  cases d with
  | none => exact h
  | some d => funext t; simp only [setT, tget, h]
theorem tget_same {tm : Tm} {g : Nat} {v : AV} (h : tget tm g = v) : tget ((g, v) :: tm) = tget tm := by
  funext t; simp only [tget]; split
  · rename_i e; rw [← e, h]
  · rfl

theorem all_true {α : Type} (l : List α) : (l.all fun _ => true) = true := by simp
theorem beq_t (b : Bool) : (b == true) = b := by cases b <;> rfl
theorem beq_f (b : Bool) : (b == false) = !b := by cases b <;> rfl
theorem ite_i {c : Prop} [Decidable c] {a b : Prop} (h1 : c → a) (h2 : ¬ c → b) : if c then a else b := by
  by_cases h : c
  · rw [if_pos h]; exact h1 h
  · rw [if_neg h]; exact h2 h
def Ext (K : St → Prop) : Prop := ∀ s1 s2 : St, tget s1.tm = tget s2.tm → s1.me = s2.me → K s1 → K s2

theorem vcG_vc {Γ : Ctr} {K : St → Prop} (hK : Ext K) : ∀ (os : List MO) (s s' : St), tget s.tm = tget s'.tm → s.me = s'.me → vcG Γ os s K → vcOps Γ os s' K
  | [], s, s', h1, h2, h => hK s s' h1 h2 h
  | o :: os, s, s', h1, h2, h => by
    simp only [vcG] at h
    simp only [vcOps]
    cases hg : o.g with
    | none =>
      rw [hg] at h
      simp only at h ⊢
      rw [← core_ext h1, ← h2]
      exact ⟨h.1, by refine vcG_vc hK os _ _ ?_ ?_ h.2 <;> first | exact tget_setX h1 _ _ | rfl⟩
    | some gw =>
      obtain ⟨g, want⟩ := gw
      rw [hg] at h
      simp only at h ⊢
      rw [← h1]
      cases hv : tget s.tm g <;> rw [hv] at h <;> simp only at h ⊢
      case bool b =>
        constructor
        · rintro rfl
          have e := tget_same hv
          have h' := h
          rw [if_pos rfl] at h'
          rw [core_ext e, core_ext h1, h2] at h'
          exact ⟨h'.1, by refine vcG_vc hK os _ _ ?_ ?_ h'.2 <;> first | exact tget_setX (e.trans h1) _ _ | rfl⟩
        · intro hb
          rw [if_neg hb] at h
          have hb' : b = !want := by cases b <;> cases want <;> simp_all
          subst hb'
          have e := tget_same hv
          refine vcG_vc hK os _ _ ?_ ?_ h <;> first | exact tget_setX (e.trans h1) _ _ | exact h2
      case und => (refine vcG_vc hK os _ _ ?_ ?_ h <;> first | exact tget_setX h1 _ _ | exact h2)

theorem vcGD_vc {Γ : Ctr} {K : St → Prop} (hK : Ext K) : ∀ (os : List MO) (fs : List (List Nat × List Nat)) (s s' : St), tget s.tm = tget s'.tm → s.me = s'.me → vcGD Γ os fs s K → vcOpsD Γ os fs s' K
  | [], fs, s, s', h1, h2, h => hK s s' h1 h2 h
  | o :: os, fs, s, s', h1, h2, h => by
    simp only [vcGD] at h
    simp only [vcOpsD]
    cases hg : o.g with
    | none =>
      rw [hg] at h
      simp only at h ⊢
      rw [← core_ext h1, ← h2]
      exact ⟨h.1, h.2.1, by refine vcGD_vc hK os _ _ _ ?_ ?_ h.2.2 <;> first | exact tget_setX h1 _ _ | rfl⟩
    | some gw =>
      obtain ⟨g, want⟩ := gw
      rw [hg] at h
      simp only at h ⊢
      rw [← h1]
      cases hv : tget s.tm g <;> rw [hv] at h <;> simp only at h ⊢
      case bool b =>
        constructor
        · rintro rfl
          have e := tget_same hv
          have h' := h
          rw [if_pos rfl] at h'
          rw [core_ext e, core_ext h1, h2] at h'
          exact ⟨h'.1, h'.2.1, by refine vcGD_vc hK os _ _ _ ?_ ?_ h'.2.2 <;> first | exact tget_setX (e.trans h1) _ _ | rfl⟩
        · intro hb
          rw [if_neg hb] at h
          have hb' : b = !want := by cases b <;> cases want <;> simp_all
          subst hb'
          have e := tget_same hv
          refine vcGD_vc hK os _ _ _ ?_ ?_ h <;> first | exact tget_setX (e.trans h1) _ _ | exact h2
      case und => (refine vcGD_vc hK os _ _ _ ?_ ?_ h <;> first | exact tget_setX h1 _ _ | exact h2)

theorem ext_keep {live : List Nat} {K : St → Prop} : Ext fun s => K ⟨keep live s.tm, s.me⟩ := by
  intro s1 s2 h1 h2 h
  have e : keep live s1.tm = keep live s2.tm := by simp only [keep, h1]
  rw [← e, ← h2]; exact h
end Go.Vc

/-! Vc14 -/
set_option linter.unusedVariables false
namespace Go.Vc
section
variable {Γ : Ctr} {pf : Prop} {Q : Ex → St → Prop} {K : St → Prop} {s : St} {a b : MC}

theorem vi_seq (h : vc Γ pf a (Ex.then_ (fun s' => vc Γ pf b Q s') Q) s) : vc Γ pf (.seq a b) Q s := h
theorem vi_skip (h : Q .normal s) : vc Γ pf .skip Q s := h
theorem vi_ret (h : Q .ret s) : vc Γ pf .ret Q s := h
theorem vi_exit {id : Nat} (h : Q (.exit id) s) : vc Γ pf (.exit id) Q s := h
theorem vi_block {id : Nat} (h : vc Γ pf b (Ex.blk id Q) s) : vc Γ pf (.block id b) Q s := h
theorem vi_cond {c : Opd} (h : ∀ X Y : Prop, (vc Γ pf a Q s → X) → (vc Γ pf b Q s → Y) → match ev s.tm c with | .bool t => (t = true → X) ∧ (t = false → Y) | _ => False) : vc Γ pf (.cond c a b) Q s :=
  h _ _ id id
theorem vi_reg {id : Nat} {ops : List MO} {live : List Nat} (h : ∀ K : St → Prop, (∀ tm me, Q .normal ⟨tm, me⟩ → K ⟨tm, me⟩) → vcG Γ ops s fun s' => K ⟨keep live s'.tm, s'.me⟩) : vc Γ pf (.region id ops false live) Q s :=
  vcG_vc ext_keep ops s s rfl rfl (h (fun s' => Q .normal s') fun _ _ h => h)
theorem vi_regD {id : Nat} {ops : List MO} {live : List Nat} (h : ∀ K : St → Prop, (∀ tm me, Q .normal ⟨tm, me⟩ → K ⟨tm, me⟩) → vcGD Γ ops [] s fun s' => K ⟨keep live s'.tm, s'.me⟩) : vc Γ pf (.region id ops true live) Q s :=
  vcGD_vc ext_keep ops [] s s rfl rfl (h (fun s' => Q .normal s') fun _ _ h => h)
theorem vi_loop {ι : Type} (G : ι → Prop) (S : ι → St) (μ : ι → Nat) (i0 : ι) (ρ0 : Rho) (h0 : G i0) (hle : LE pf ρ0 s (S i0))
    (step : ∀ i, G i → vc Γ pf b (Ex.then_ (fun s' => ∃ j ρ, G j ∧ μ j < μ i ∧ LE pf ρ s' (S j)) Q) (S i)) : vc Γ pf (.loop b) Q s := ⟨ι, G, S, μ, i0, ρ0, h0, hle, step⟩
theorem vi_cut (S : St) (ρ : Rho) (hle : LE pf ρ s S) (h : vc Γ pf a Q S) : vc Γ pf (.cut a) Q s := ⟨S, ρ, hle, h⟩
/-- a state that says less -/
theorem vi_then {R : Ex → St → Prop} (h : K s) : Ex.then_ K R .normal s := h
theorem vi_thenE {R : Ex → St → Prop} {id : Nat} (h : R (.exit id) s) : Ex.then_ K R (.exit id) s := h
theorem vi_thenR {R : Ex → St → Prop} (h : R .ret s) : Ex.then_ K R .ret s := h
theorem vi_blkN {id : Nat} (h : Q .normal s) : Ex.blk id Q .normal s := h
theorem vi_blkR {id : Nat} (h : Q .ret s) : Ex.blk id Q .ret s := h
theorem vi_blkE {id : Nat} (h : Q .normal s) : Ex.blk id Q (.exit id) s := by simp only [Ex.blk, if_true]; exact h
theorem vi_blkX {id id' : Nat} (hne : (id' == id) = false) (h : Q (.exit id') s) : Ex.blk id Q (.exit id') s := by simp only [Ex.blk]; rw [if_neg (by simpa using hne)]; exact h
end

theorem vi_show {Γ : Ctr} {pf : Prop} {Q : Ex → St → Prop} {s : St} {a : MC} (h : ∀ V : St → Prop, (∀ tm me, vc Γ pf a Q ⟨tm, me⟩ → V ⟨tm, me⟩) → V s) : vc Γ pf a Q s := h (fun s => vc Γ pf a Q s) fun _ _ h => h

/-- what a function's end is held to -/
def fnQ (rs : List (Nat × Option (Option Nat))) (cr : CR) : Ex → St → Prop := fun e s => match e with | .exit _ => False | _ => Out rs cr s
theorem fn_i {Γ rs mc args cr} (hm : cr.mem = []) (h : vc Γ True mc (fnQ rs cr) ⟨args.mapIdx fun i x => (i, x), []⟩) : VcFn Γ rs mc args cr := ⟨hm, h⟩
theorem fn_ret {rs cr s} (h : Out rs cr s) : fnQ rs cr .ret s := h
theorem fn_nor {rs cr s} (h : Out rs cr s) : fnQ rs cr .normal s := h

theorem part_end {α : Type} (l : List α) (n : Nat) : (l.drop n).take (l.length - n) = l.drop n := List.take_of_length_le (by simp)
theorem splice_all {α : Type} {l l' : List α} (h : l'.length = l.length) : splice l 0 l' = l' := by simp [splice, h]
theorem all_lt0 {p : Nat → Prop} : (∀ j, j < 0 → p j) = True := by simp
theorem all_lt1 {p : Nat → Prop} : (∀ j, j < 1 → p j) = p 0 := by
  apply propext; constructor
  · intro h; exact h 0 (by omega)
  · intro h j hj; obtain rfl : j = 0 := by omega
    exact h
theorem all_lt2 {p : Nat → Prop} : (∀ j, j < 2 → p j) = (p 0 ∧ p 1) := by
  apply propext; constructor
  · intro h; exact ⟨h 0 (by omega), h 1 (by omega)⟩
  · rintro ⟨h0, h1⟩ j hj; rcases (show j = 0 ∨ j = 1 by omega) with rfl | rfl
    · exact h0
    · exact h1
theorem nmem_cons {a b : Nat} {l : List Nat} : (¬ a ∈ b :: l) = (¬ a = b ∧ ¬ a ∈ l) := by simp
theorem disj_cons {fs a s mw mr} : disj fs (a :: s) mw mr = (((∀ k ∈ (fs.getD a ([], [])).2, k ∉ mr) ∧ ∀ k ∈ mw, k.1 ∉ (fs.getD a ([], [])).1 ∧ k.1 ∉ (fs.getD a ([], [])).2) ∧ disj fs s mw mr) := by
  simp only [disj, List.forall_mem_cons]
theorem disj_nil {fs mw mr} : disj fs [] mw mr = True := by simp [disj]
theorem nz {a b : Nat} (h : (a == b) = false) : ¬ a = b := by simpa using h
end Go.Vc

/-! Vc15 -/
set_option linter.unusedVariables false
namespace Go.Vc
open Go.WideShapes Go.ChangeShapes Go.RowKit

def resBool (P : Program) (fn : Func) : Bool := match fn.resultTypes.toList with
  | [rt] => (match P.underlying rt with | some .bool => true | _ => false)
  | _ => false
theorem resBool_spec {P : Program} {fn : Func} (h : resBool P fn = true) : ∃ rt, fn.resultTypes = #[rt] ∧ P.underlying rt = some .bool := by
  unfold resBool at h
  split at h
  · rename_i rt e
    refine ⟨rt, ?_, ?_⟩
    · apply Array.toList_inj.1; simpa using e
    · split at h
      · assumption
      · cases h
  · cases h

theorem law_callsB {P : Program} {f : Nat} {fn : Func} {s : ChangeSpec} {shs : List Sh} {H : Type} {enc : TypeId × Value → H} (hl : laidOutB P = true) (hvars : s.vars = []) (hres : resBool P fn = true)
    (hsh : fn.params.toList.map (shOf P) = shs.map some) (hread : fn.params.toList.all (fun t => P.readableRec t && decide (t < P.types.size)) = true)
    (hspec : ∀ ds : List (DataW H), ds.length = shs.length → s.fn H ds = { results := [.lit (.bool true)], args := ds })
    (hlaw : ∀ avs, Each Sh.is shs avs → CallSat P f avs [] ⟨True, .bool true, [], []⟩)
    {W : World} {base : Nat} {args : Array Value} {ds gs : List (DataW H)} {before : List MemPlace}
    (hval : ∀ (j : Nat) t v, fn.params[j]? = some t → args[j]? = some v → Value.okWide P W .any base t v)
    (hW : DataW.Whole enc P fn.params.toList s.vars false W args.toList ds gs before) :
    Calls P f args W fun e W' => ∃ v, e = .returned v ∧ s.post enc P fn false true false false W args v W' := by
  obtain ⟨rt, h1, h2⟩ := resBool_spec hres
  have hlen : fn.params.size = shs.length := by
    have := congrArg List.length hsh
    simpa using this
  exact law_calls hl hvars h2 h1 hsh hread (fun ds h => hspec ds (by omega)) hlaw hval hW

theorem RV.toSln {B O w β fr c v} (h : RV B O w β (.sl fr c) v) (hc : c.count ≠ 0) : RV B O w β (.sln c) v := by
  cases h with
  | sl hl hcc hO hb hf h1 hcap hs => exact .sln hl hcc hO hb h1 hcap hs
  | sl0 h h' => exact absurd h' hc
/-- a slice that may be nil, or not -/
theorem callSat_sl {P : Program} {f : Nat} {c : Cells} {cr : CR} (h1 : CallSat P f [.sln c] [] cr) (h0 : c.count = 0 → CallSat P f [.nil] [] cr) : CallSat P f [.sl false c] [] cr := by
  intro off β vs w hl hm hr
  have hr0 := hr 0 (by simp)
  have key : ∀ x : AV, CallSat P f [x] [] cr → RV w.heap.size (Own ⟨w.heap.size, Owned (meOf []) β, w, off⟩ (meOf []) β) w β x (vs.getD 0 undef) → _ := fun x hx hrx => hx off β vs w hl hm (fun j hj => by
    cases j with
    | zero => exact hrx
    | succ j => simp at hj)
  generalize hv : vs.getD 0 undef = v at *
  change RV _ _ _ _ (.sl false c) v at hr0
  cases hr0 with
  | sl a1 a2 a3 a4 a5 a6 a7 a8 => exact key _ h1 (.sln a1 a2 a3 a4 a6 a7 a8)
  | sl0 a1 a2 a3 =>
    rename_i a cap
    cases a with
    | none =>
      have := a3 rfl
      subst this
      exact key _ (h0 a2) .nil
    | some a => exact key _ h1 (.sln0 a1 a2)
theorem callSat_sln {P : Program} {f : Nat} {c : Cells} {cr : CR} (hc : c.count ≠ 0) (h : CallSat P f [.sln c] [] cr) : CallSat P f [.sl false c] [] cr := callSat_sl h (fun e => absurd e hc)
theorem callSat_int {P : Program} {f : Nat} {x y : AV} {n : Nat} {cr cr' : CR} (h : CallSat P f [x, y, .i (n : Int)] [] cr) (e1 : cr.res = cr'.res) (e2 : cr.mem = cr'.mem) (e3 : cr.fresh = cr'.fresh) : CallSat P f [x, y, .n n] [] cr' := by
  intro off β vs w hl hm hr
  have := h off β vs w hl hm fun j hj => by
    have := hr j hj
    match j, this with
    | 0, this => exact this
    | 1, this => exact this
    | 2, this =>
      have t2 : RV w.heap.size (Own ⟨w.heap.size, Owned (meOf []) β, w, off⟩ (meOf []) β) w β (.n n) (vs.getD 2 undef) := this
      show RV _ _ _ _ (.i (n : Int)) (vs.getD 2 undef)
      generalize vs.getD 2 undef = v at t2
      cases t2
      exact .i
  have e : meBack cr = meBack cr' := by unfold meBack; rw [e2, e3]
  rwa [e, e1] at this

theorem each_nil {avs : List AV} (h : Each Sh.is [] avs) : avs = [] := by
  have := h.1; cases avs <;> simp_all
theorem each_cons {s : Sh} {shs : List Sh} {avs : List AV} (h : Each Sh.is (s :: shs) avs) : ∃ a r, avs = a :: r ∧ s.is a ∧ Each Sh.is shs r := by
  cases avs with
  | nil => have := h.1; simp at this
  | cons a r => exact ⟨a, r, rfl, h.2 0 s a rfl rfl, by have := h.1; simpa using this, fun j x y h1 h2 => h.2 (j + 1) x y (by simpa using h1) (by simpa using h2)⟩
theorem each1 {s : Sh} {avs : List AV} (h : Each Sh.is [s] avs) : ∃ a, avs = [a] ∧ s.is a := by
  obtain ⟨a, r, rfl, h1, h2⟩ := each_cons h; rw [each_nil h2]; exact ⟨a, rfl, h1⟩
theorem each2 {s t : Sh} {avs : List AV} (h : Each Sh.is [s, t] avs) : ∃ a b, avs = [a, b] ∧ s.is a ∧ t.is b := by
  obtain ⟨a, r, rfl, h1, h2⟩ := each_cons h; obtain ⟨b, rfl, h3⟩ := each1 h2; exact ⟨a, b, rfl, h1, h3⟩
theorem each3 {s t u : Sh} {avs : List AV} (h : Each Sh.is [s, t, u] avs) : ∃ a b c, avs = [a, b, c] ∧ s.is a ∧ t.is b ∧ u.is c := by
  obtain ⟨a, r, rfl, h1, h2⟩ := each_cons h; obtain ⟨b, c, rfl, h3⟩ := each2 h2; exact ⟨a, b, c, rfl, h1, h3⟩
theorem each4 {s t u v : Sh} {avs : List AV} (h : Each Sh.is [s, t, u, v] avs) : ∃ a b c d, avs = [a, b, c, d] ∧ s.is a ∧ t.is b ∧ u.is c ∧ v.is d := by
  obtain ⟨a, r, rfl, h1, h2⟩ := each_cons h; obtain ⟨b, c, d, rfl, h3⟩ := each3 h2; exact ⟨a, b, c, d, rfl, h1, h3⟩
theorem each5 {s t u v x : Sh} {avs : List AV} (h : Each Sh.is [s, t, u, v, x] avs) : ∃ a b c d e, avs = [a, b, c, d, e] ∧ s.is a ∧ t.is b ∧ u.is c ∧ v.is d ∧ x.is e := by
  obtain ⟨a, r, rfl, h1, h2⟩ := each_cons h; obtain ⟨b, c, d, e, rfl, h3⟩ := each4 h2; exact ⟨a, b, c, d, e, rfl, h1, h3⟩
theorem each6 {s t u v x y : Sh} {avs : List AV} (h : Each Sh.is [s, t, u, v, x, y] avs) : ∃ a b c d e f, avs = [a, b, c, d, e, f] ∧ s.is a ∧ t.is b ∧ u.is c ∧ v.is d ∧ x.is e ∧ y.is f := by
  obtain ⟨a, r, rfl, h1, h2⟩ := each_cons h; obtain ⟨b, c, d, e, f, rfl, h3⟩ := each5 h2; exact ⟨a, b, c, d, e, f, rfl, h1, h3⟩
end Go.Vc
