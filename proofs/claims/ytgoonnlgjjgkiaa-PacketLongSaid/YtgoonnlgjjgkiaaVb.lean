/- A compiled operation is held against the program's own; then core's word holds. · A state that says less: what a loop's head may say of what comes to it. · What an operation looks at: core is the same where slots and memory are alike. · Compiled code, its verification condition, and that it suffices. · A region that draws its order: any order comes to what the text's order comes to. · A region that draws its order: what is checked of its compiled form. · Calls: what a contract says, and that core's word for a call holds. · A call does what core says. · A function's compiled code, and its contract. · The table of contracts, function by function. -/
import Derived.Test.YtgoonnlgjjgkiaaVa
import Derived.Deep.LoopGhost
set_option linter.unusedVariables false
set_option linter.unusedSimpArgs false
set_option linter.unusedSectionVars false
/-! Vc4 -/
set_option linter.unusedVariables false
set_option linter.unusedSimpArgs false
namespace Go.Vc

def allocOk (P : Program) (t : Nat) (z : Cells) : Bool :=
  match (P.info? t).bind (·.zero) with
  | some (.agg us) => cellsOk z us.toList && us.toList.all (·.oneCell')
  | some v => v.oneCell' && cellsOk z [v]
  | none => false
def isU (P : Program) (t : Nat) (f : TypeDesc → Bool) : Bool := (P.underlying t).any f
def isStr : TypeDesc → Bool | .string => true | _ => false
def isBoo : TypeDesc → Bool | .bool => true | _ => false
def isSli : TypeDesc → Bool | .slice _ => true | _ => false
def isInt : TypeDesc → Bool | .int _ => true | _ => false
theorem isU_str {P : Program} {t : Nat} (h : isU P t isStr = true) : P.underlying t = some .string := by
  unfold isU at h; cases hu : P.underlying t with
  | none => simp [hu] at h
  | some d => rw [hu] at h; cases d <;> simp [isStr] at h; rfl
theorem isU_boo {P : Program} {t : Nat} (h : isU P t isBoo = true) : P.underlying t = some .bool := by
  unfold isU at h; cases hu : P.underlying t with
  | none => simp [hu] at h
  | some d => rw [hu] at h; cases d <;> simp [isBoo] at h; rfl
theorem isU_sli {P : Program} {t : Nat} (h : isU P t isSli = true) : ∃ el, P.underlying t = some (.slice el) := by
  unfold isU at h; cases hu : P.underlying t with
  | none => simp [hu] at h
  | some d => rw [hu] at h; cases d <;> simp [isSli] at h; exact ⟨_, rfl⟩
theorem isU_int {P : Program} {t : Nat} (h : isU P t isInt = true) : ∃ k, P.underlying t = some (.int k) := by
  unfold isU at h; cases hu : P.underlying t with
  | none => simp [hu] at h
  | some d => rw [hu] at h; cases d <;> simp [isInt] at h; exact ⟨_, rfl⟩

def kdFlat : Kd → Bool
  | .kr _ => false
  | _ => true
theorem kdFlat_spec {kd : Kd} (h : kdFlat kd = true) : kd.esz = 1 ∧ ∀ sz, kd ≠ .kr sz := by cases kd <;> simp [kdFlat] at h <;> exact ⟨rfl, by simp⟩

/-- a struct's or an array's places -/
def placeB (P : Program) (t : Nat) : Option (Nat → Option (Nat × Nat)) :=
  match P.underlying t with
  | some (.struct fs) => if fs.all (fun f => sizeIs P f.type (P.cellsOf f.type)) then some fun i => (fs[i]?).map fun f => (f.offset, P.cellsOf f.type) else none
  | some (.array _ el) => if sizeIs P el (P.cellsOf el) then some fun i => some (i * P.cellsOf el, P.cellsOf el) else none
  | _ => none
theorem placeB_spec {P : Program} {t : Nat} {pl} (h : placeB P t = some pl) : placeOf P t pl := by
  unfold placeB at h
  split at h
  · rename_i fs hu
    split at h
    · rename_i hs
      injection h with h
      exact .inl ⟨fs, hu, fun f hf => by simp only [Array.all_eq_true'] at hs; exact hs f hf, h.symm⟩
    · cases h
  · rename_i n el hu
    split at h
    · rename_i hs
      injection h with h
      exact .inr ⟨n, el, hu, hs, h.symm⟩
    · cases h
  · cases h

def bldzOk (P : Program) (t : Nat) (parts : List (Nat × Operand)) (kd : Kd) (z : List AV) (aps : List (Nat × Nat × Opd)) : Bool :=
  kdFlat kd && (match placeB P t, (P.info? t).bind (·.zero) with
    | some pl, some zv => partsOk parts aps pl && zv.cells.size == z.length && zv.cells.toList.all (·.oneCell') && (List.range z.length).all fun j => constOk (zv.cells.toList.getD j undef) (z.getD j .any)
    | _, _ => false)
def bldOk (P : Program) (t : Nat) (parts : List (Nat × Operand)) (kd : Kd) (xs : List Opd) : Bool :=
  kdFlat kd && fullOk 0 parts xs && (match P.underlying t, (P.info? t).bind (·.zero) with
    | some (.array _ el), some zv => sizeIs P el 1 && zv.cells.size == xs.length && zv.cells.toList.all (·.oneCell')
    | _, _ => false)
def bslOk (P : Program) (t n : Nat) (parts : List (Nat × Operand)) (kd : Kd) (xs : List Opd) : Bool :=
  kdFlat kd && fullOk 0 parts xs && n == xs.length && n ≤ 16777216 && (match P.underlying t with
    | some (.slice el) => (match P.info? el with
      | some i => i.size == 1 && (match i.zero with | some zv => zv.cells.size == 1 && zv.cells.toList.all (·.oneCell') | none => false)
      | none => false)
    | _ => false)
def callee? : Op → Option (Builtin × List Operand × List Nat)
  | .call { callee := .builtin b, args := xs, argTypes := ts } => some (b, xs.toList, ts.toList)
  | _ => none

def mopOk (P : Program) (o : Oper) : MOp → Bool
  | .mv y => match o.op with | .move x => opdOk x y | .assign x => opdOk x y | _ => false
  | .pick c' x' y' => match o.op with | .pick c x y => opdOk c c' && opdOk x x' && opdOk y y' | _ => false
  | .alloc z => match o.op with | .alloc t => allocOk P t z | _ => false
  | .box x' => match o.op with | .box _ x => opdOk x x' | _ => false
  | .load sz x' => match o.op with | .load t x => tyAg P t == some sz && opdOk x x' | _ => false
  | .store sz x' y' => match o.op with | .store t x y => tyAg P t == some sz && opdOk x x' && opdOk y y' | _ => false
  | .nilc x' => match o.op with | .nilCheck x => opdOk x x' | _ => false
  | .bin op' x' y' => match o.op with | .binOp op _ x y _ => op == op' && opdOk x x' && opdOk y y' | _ => false
  | .binB op' x' y' => match o.op with | .binOp op t x y _ => op == op' && isU P t isBoo && opdOk x x' && opdOk y y' | _ => false
  | .binS op' x' y' => match o.op with | .binOp op _ x y _ => op == op' && opdOk x x' && opdOk y y' | _ => false
  | .binN x' y' => match o.op with | .binOp .eql t x y _ => isU P t isSli && opdOk x x' && opdOk y y' | _ => false
  | .binA n neg x' y' => match o.op with
    | .binOp op t x y _ => op == (if neg = true then .neq else .eql) && !(P.eqGuardType P.depth t) && (match P.underlying t with
      | some (.array m e) => m == n && isU P e isInt && (P.info? e).isSome && P.cellsOf e == 1
      | _ => false) && opdOk x x' && opdOk y y'
    | _ => false
  | .binG ks neg x' y' => match o.op with
    | .binOp op t x y _ => op == (if neg = true then .neq else .eql) && !(P.eqGuardType P.depth t) && (match P.underlying t with | some (.struct _) => true | _ => false) && P.keyTypeAt 20 t && flatK P 20 t == some ks && opdOk x x' && opdOk y y'
    | _ => false
  | .un op' x' => match o.op with | .unOp op _ x => op == op' && opdOk x x' | _ => false
  | .conv k x' => match o.op with | .convert t u x => tyCv P t u k && opdOk x x' | _ => false
  | .b2s x' => match o.op with | .convert t u x => (match P.underlying t with | some (.slice el) => isU P el (fun d => match d with | .int .u8 => true | _ => false) | _ => false) && isU P u isStr && opdOk x x' | _ => false
  | .cvs x' => match o.op with | .convert t u x => t == u && (match P.underlying t with | some (.slice el) => isU P el (fun d => match d with | .int .u8 => true | _ => false) | _ => false) && opdOk x x' | _ => false
  | .idxS e x' y' => match o.op with | .indexAddr t x y => tySl P t e && opdOk x x' && opdOk y y' | _ => false
  | .idxA m e x' y' => match o.op with | .indexAddr t x y => tyAr P t m e && opdOk x x' && opdOk y y' | _ => false
  | .fld off x' => match o.op with | .fieldAddr t x f => (match P.underlying t with | some (.struct fs) => (match fs[f]? with | some fd => (match tyAg P fd.type with | some sz => tyFld P t f off sz | none => false) | none => false) | _ => false) && opdOk x x' | _ => false
  | .field off sz x' => match o.op with | .field t x f => tyFld P t f off sz && opdOk x x' | _ => false
  | .idx m x' y' => match o.op with | .index t x y => tyAr P t m 1 && (match P.underlying t with | some (.array _ el) => tyAg P el == some none | _ => false) && opdOk x x' && opdOk y y' | _ => false
  | .idxT x' y' => match o.op with | .index t x y => isU P t isStr && opdOk x x' && opdOk y y' | _ => false
  | .ext j x' => match o.op with | .extract x i => i == j && opdOk x x' | _ => false
  | .lenS x' => match callee? o.op with | some (.len, [x], [t]) => tyLen P t false && opdOk x x' | _ => false
  | .lenT x' => match callee? o.op with | some (.len, [x], [t]) => tyLen P t true && opdOk x x' | _ => false
  | .capn x' => match callee? o.op with | some (.cap, [x], [t]) => tyLen P t false && opdOk x x' | _ => false
  | .minN ys => match callee? o.op with | some (.min, xs, _) => opdsOk xs ys | _ => false
  | .app kd z b x' y' => match callee? o.op with | some (.append, [x, y], [t, u]) => t == u && kdOk P t kd z b && opdOk x x' && opdOk y y' | _ => false
  | .appz kd z b x' y' => match callee? o.op with | some (.append, [x, y], [t, u]) => isU P u isInt && kdOk P t kd z b && opdOk x x' && opdOk y y' | _ => false
  | .copy x' y' => match callee? o.op with | some (.copy, [x, y], [t, _]) => (match P.underlying t with | some (.slice el) => sizeIs P el 1 | _ => false) && opdOk x x' && opdOk y y' | _ => false
  | .slcS e x' lo' hi' => match o.op with | .slice t x lo hi none => tySl P t e && opdOk x x' && optOk lo lo' && optOk hi hi' | _ => false
  | .slcT x' lo' hi' => match o.op with | .slice t x lo hi none => isU P t isStr && opdOk x x' && optOk lo lo' && optOk hi hi' | _ => false
  | .slcA m e x' lo' hi' => match o.op with | .slice t x lo hi none => tyAr P t m e && opdOk x x' && optOk lo lo' && optOk hi hi' | _ => false
  | .mk kd z b x' y' => match o.op with | .makeSlice t x y => kdOk P t kd z b && opdOk x x' && opdOk y y' | _ => false
  | .s2a m x' => match o.op with | .sliceToArrayPointer t x => (match P.underlying t with | some (.array _ el) => tyAr P t m (P.cellsOf el) | _ => false) && opdOk x x' | _ => false
  | .bld kd xs => match o.op with | .build t parts => bldOk P t parts.toList kd xs | _ => false
  | .bldz kd z aps => match o.op with | .build t parts => bldzOk P t parts.toList kd z aps | _ => false
  | .bsl kd xs => match o.op with | .buildSlice t n parts => bslOk P t n parts.toList kd xs | _ => false
  | .bad => true
  | _ => false

theorem callee_eq {op : Op} {b xs ts} (h : callee? op = some (b, xs, ts)) : op = .call { callee := .builtin b, args := xs.toArray, argTypes := ts.toArray } := by
  unfold callee? at h
  split at h
  · injection h with h
    simp only [Prod.mk.injEq] at h
    obtain ⟨rfl, rfl, rfl⟩ := h
    rfl
  · cases h

section
variable {P : Program} {nt : Nat} {F : Fr} {s : St} {β : Bt} {a : Act} {w : World} {o : Oper} {Q : Exit → Act → World → Prop} {Γ : Ctr}

def isCall : MOp → Bool
  | .call .. => true
  | _ => false

theorem mop_sound (h : Rep nt F s β a w) (hd : ∀ t, o.dst = some t → t < nt) {m : MOp} (hok : mopOk P o m = true) {d : Nat} (hp : (core Γ d m s.tm (mget s.me)).pre) : Good P nt F s a w Q o (core Γ d m s.tm (mget s.me)) := by
  cases m with
  | mv y =>
    simp only [mopOk] at hok
    split at hok
    · exact good_mv h hd (.inl (by assumption)) hok
    · exact good_mv h hd (.inr (by assumption)) hok
    · cases hok
  | pick c x y =>
    simp only [mopOk] at hok
    split at hok
    · rename_i c0 x0 y0 ho
      simp only [Bool.and_eq_true] at hok
      simp only [core] at hp ⊢
      cases he : ev s.tm c <;> simp only [he] at hp ⊢ <;> try exact hp.elim
      exact good_pick h hd ho hok.1.1 hok.1.2 hok.2 he
    · cases hok
  | alloc z =>
    simp only [mopOk] at hok
    split at hok
    · rename_i t ho
      simp only [core] at hp ⊢
      unfold allocOk at hok
      split at hok
      · rename_i us hz
        simp only [Bool.and_eq_true, List.all_eq_true] at hok
        exact good_alloc h hd (us := us.toList) ho (.inl (by simpa using hz)) hok.1 hok.2 hp rfl rfl
      · rename_i v hv hz
        simp only [Bool.and_eq_true] at hok
        exact good_alloc h hd (us := [v]) ho (.inr ⟨v, hz, hok.1, rfl⟩) hok.2 (by simpa using hok.1) hp rfl rfl
      · cases hok
    · cases hok
  | box x =>
    simp only [mopOk] at hok
    split at hok
    · rename_i t x0 ho
      simp only [core] at hp ⊢
      cases he : ev s.tm x <;> simp only [he] at hp ⊢
      case agg c => exact good_box_agg h hd ho hok he hp rfl rfl
      all_goals (exact good_box_one h hd ho hok (by rw [he]; exact hp.2) hp.1 rfl (by rw [he]))
    · cases hok
  | load sz x =>
    simp only [mopOk] at hok
    split at hok
    · rename_i t x0 ho
      simp only [Bool.and_eq_true, beq_iff_eq] at hok
      simp only [core] at hp ⊢
      cases he : ev s.tm x <;> simp only [he] at hp ⊢ <;> try exact hp.elim
      case ptr k off =>
        cases hk : mget s.me k with
        | none => simp [hk] at hp
        | some y0 =>
          cases y0 with
          | none => simp [hk] at hp
          | some c => simp only [hk] at hp ⊢; exact good_load_ptr h hd ho hok.1 hok.2 he hk hp rfl rfl
      case ref c off => exact good_load_ref h hd ho hok.1 hok.2 he hp
    · cases hok
  | store sz x y =>
    simp only [mopOk] at hok
    split at hok
    · rename_i t x0 y0 ho
      simp only [Bool.and_eq_true, beq_iff_eq] at hok
      cases sz with
      | none =>
        simp only [core] at hp ⊢
        cases he : ev s.tm x <;> simp only [he] at hp ⊢ <;> try exact hp.elim
        case ptr k off =>
          cases hk : mget s.me k with
          | none => simp [hk] at hp
          | some y0 =>
            cases y0 with
            | none => simp [hk] at hp
            | some c =>
              simp only [hk] at hp ⊢
              cases hput : c.put off (ev s.tm y) with
              | none => simp [hput] at hp
              | some c' => simp only [hput] at hp ⊢; exact good_store_one h hd ho hok.1.1 hok.1.2 hok.2 he hk hp.1 hp.2 hput rfl rfl
      | some n =>
        simp only [core] at hp ⊢
        cases he : ev s.tm x <;> simp only [he] at hp ⊢ <;> try exact hp.elim
        case ptr k off =>
          cases hy : ev s.tm y <;> simp only [hy] at hp ⊢ <;> try exact hp.elim
          case agg c' =>
            cases hk : mget s.me k with
            | none => simp [hk] at hp
            | some y0 =>
              cases y0 with
              | none => simp [hk] at hp
              | some c =>
                simp only [hk] at hp ⊢
                cases hput : c.puts off c' with
                | none => simp [hput] at hp
                | some c2 => simp only [hput] at hp ⊢; exact good_store_agg h hd ho hok.1.1 hok.1.2 hok.2 he hk hp.2 hy hp.1 hput rfl rfl
    · cases hok
  | nilc x =>
    simp only [mopOk] at hok
    split at hok
    · rename_i x0 ho
      simp only [core] at hp ⊢
      cases he : ev s.tm x <;> simp only [he] at hp ⊢ <;> try exact hp.elim
      · rename_i k off
        have := good_nilc (P := P) (Q := Q) h hd ho hok (.inl ⟨k, off, he⟩)
        rw [he] at this; exact this
      · rename_i c off
        have := good_nilc (P := P) (Q := Q) h hd ho hok (.inr ⟨c, off, he⟩)
        rw [he] at this; exact this
    · cases hok
  | bin op x y =>
    simp only [mopOk] at hok
    split at hok
    · rename_i op0 t x0 y0 u ho
      simp only [Bool.and_eq_true, beq_iff_eq] at hok
      obtain ⟨⟨rfl, h1⟩, h2⟩ := hok
      simp only [core] at hp ⊢
      exact good_bin_num h hd ho h1 h2 hp.1 hp.2.1 hp.2.2 rfl rfl
    · cases hok
  | binB op x y =>
    simp only [mopOk] at hok
    split at hok
    · rename_i op0 t x0 y0 u ho
      simp only [Bool.and_eq_true, beq_iff_eq] at hok
      obtain ⟨⟨⟨rfl, h0⟩, h1⟩, h2⟩ := hok
      simp only [core] at hp ⊢
      cases hx : ev s.tm x <;> simp only [hx] at hp ⊢ <;> try exact hp.elim
      cases hy : ev s.tm y <;> simp only [hy] at hp ⊢ <;> try exact hp.elim
      exact good_bin_bool h hd ho (isU_boo h0) h1 h2 hx hy hp rfl rfl
    · cases hok
  | binS op x y =>
    simp only [mopOk] at hok
    split at hok
    · rename_i op0 t x0 y0 u ho
      simp only [Bool.and_eq_true, beq_iff_eq] at hok
      obtain ⟨⟨rfl, h1⟩, h2⟩ := hok
      simp only [core] at hp ⊢
      cases hx : ev s.tm x <;> simp only [hx] at hp ⊢ <;> try exact hp.elim
      cases hy : ev s.tm y <;> simp only [hy] at hp ⊢ <;> try exact hp.elim
      exact good_bin_str h hd ho h1 h2 hx hy hp rfl rfl
    · cases hok
  | binN x y =>
    simp only [mopOk] at hok
    split at hok
    · rename_i t x0 y0 u ho
      simp only [Bool.and_eq_true] at hok
      obtain ⟨el, hel⟩ := isU_sli hok.1.1
      simp only [core] at hp ⊢
      cases hx : ev s.tm x <;> simp only [hx] at hp ⊢ <;> try exact hp.elim
      · cases hy : ev s.tm y <;> simp only [hy] at hp ⊢ <;> try exact hp.elim
        exact good_bin_nil h hd ho hel hok.1.2 hok.2 (.inl ⟨hx, rfl⟩) hy
      · rename_i c
        cases hy : ev s.tm y <;> simp only [hy] at hp ⊢ <;> try exact hp.elim
        exact good_bin_nil h hd ho hel hok.1.2 hok.2 (.inr ⟨⟨c, hx⟩, rfl⟩) hy
    · cases hok
  | un op x =>
    simp only [mopOk] at hok
    split at hok
    · rename_i op0 t x0 ho
      simp only [Bool.and_eq_true, beq_iff_eq] at hok
      obtain ⟨rfl, h1⟩ := hok
      simp only [core] at hp ⊢
      refine good_un h hd ho h1 hp rfl ?_
      unfold un; split <;> rfl
    · cases hok
  | conv k x =>
    simp only [mopOk] at hok
    split at hok
    · rename_i t u x0 ho
      simp only [Bool.and_eq_true] at hok
      simp only [core] at hp ⊢
      refine good_conv h hd ho hok.1 hok.2 hp rfl ?_
      unfold conv; split <;> rfl
    · cases hok
  | b2s x =>
    simp only [mopOk] at hok
    split at hok
    · rename_i t u x0 ho
      simp only [Bool.and_eq_true] at hok
      obtain ⟨⟨h1, h2⟩, h3⟩ := hok
      split at h1
      · rename_i el hel
        have he8 : P.underlying el = some (.int .u8) := by
          unfold isU at h1
          cases hu : P.underlying el with
          | none => simp [hu] at h1
          | some dd =>
            rw [hu] at h1
            simp only [Option.any_some] at h1
            split at h1
            · rfl
            · cases h1
        simp only [core] at hp ⊢
        have key : ∀ v, ev s.tm x = v → (∀ q, v ≠ .str q) → ∀ r : R, r = (match content (mget s.me) .k8 v with
            | some (p, .b8 l, ks) => ⟨p, .str l, [], ks⟩
            | _ => fail : R) → r.pre → Good P nt F s a w Q o r := by
          intro v hv hns r hr hp
          subst hr
          cases hc : content (mget s.me) .k8 v with
          | none => simp [hc, fail] at hp
          | some c3 =>
            obtain ⟨p, c, ks⟩ := c3
            cases c <;> simp [hc, fail] at hp
            exact good_b2s h hd ho hel he8 (isU_str h2) h3 (by rw [hv]; exact hc) hp (by rw [hv]; exact hns) rfl rfl
        cases he : ev s.tm x <;> simp only [he] at hp ⊢ <;> first
          | exact hp.elim
          | exact key _ he (by intro q; simp) _ rfl hp
      · cases h1
    · cases hok
  | cvs x =>
    simp only [mopOk] at hok
    split at hok
    · rename_i t u x0 ho
      simp only [Bool.and_eq_true, beq_iff_eq] at hok
      obtain ⟨⟨rfl, h1⟩, h3⟩ := hok
      split at h1
      · rename_i el hel
        have he8 : P.underlying el = some (.int .u8) := by
          unfold isU at h1
          cases hu : P.underlying el with
          | none => simp [hu] at h1
          | some dd =>
            rw [hu] at h1
            simp only [Option.any_some] at h1
            split at h1
            · rfl
            · cases h1
        simp only [core] at hp ⊢
        cases he : ev s.tm x <;> simp only [he] at hp ⊢ <;> try exact hp.elim
        rename_i k off l e
        cases hm : mget s.me k with
        | none => simp [hm, fail] at hp
        | some y => cases y with
          | none => simp [hm, fail] at hp
          | some c =>
            cases c <;> simp only [hm, fail] at hp
            rename_i L
            obtain ⟨rfl, rfl, h4, h5⟩ := hp
            exact good_cvs h hd ho hel he8 h3 he hm h4 h5 rfl rfl
      · cases h1
    · cases hok
  | idxS e x y =>
    simp only [mopOk] at hok
    split at hok
    · rename_i t x0 y0 ho
      simp only [Bool.and_eq_true] at hok
      simp only [core] at hp ⊢
      cases hi : ixN (ev s.tm y) with
      | none => simp [hi, fail] at hp
      | some pj =>
        obtain ⟨p, j⟩ := pj
        simp only [hi] at hp ⊢
        cases he : ev s.tm x <;> simp only [he] at hp ⊢ <;> try exact hp.elim
        · exact good_idxS_own h hd ho hok.1.1 hok.1.2 hok.2 hi he hp
        · exact good_idxS_ro h hd ho hok.1.1 hok.1.2 hok.2 hi (.inl ⟨_, he⟩) hp
        · exact good_idxS_ro h hd ho hok.1.1 hok.1.2 hok.2 hi (.inr he) hp
    · cases hok
  | idxA m e x y =>
    simp only [mopOk] at hok
    split at hok
    · rename_i t x0 y0 ho
      simp only [Bool.and_eq_true] at hok
      simp only [core] at hp ⊢
      cases hi : ixN (ev s.tm y) with
      | none => simp [hi, fail] at hp
      | some pj =>
        obtain ⟨p, j⟩ := pj
        simp only [hi] at hp ⊢
        cases he : ev s.tm x <;> simp only [he] at hp ⊢ <;> try exact hp.elim
        · exact good_idxA_ptr h hd ho hok.1.1 hok.1.2 hok.2 hi he hp
        · exact good_idxA_ref h hd ho hok.1.1 hok.1.2 hok.2 hi he hp
    · cases hok
  | fld off x =>
    simp only [mopOk] at hok
    split at hok
    · rename_i t x0 f ho
      simp only [Bool.and_eq_true] at hok
      obtain ⟨h1, h2⟩ := hok
      split at h1
      · split at h1
        · split at h1
          · simp only [core] at hp ⊢
            cases he : ev s.tm x <;> simp only [he] at hp ⊢ <;> try exact hp.elim
            · exact good_fld_ptr h hd ho h1 h2 he
            · exact good_fld_ref h hd ho h1 h2 he
          · cases h1
        · cases h1
      · cases h1
    · cases hok
  | field off sz x =>
    simp only [mopOk] at hok
    split at hok
    · rename_i t x0 f ho
      simp only [Bool.and_eq_true] at hok
      simp only [core] at hp ⊢
      cases he : ev s.tm x <;> simp only [he] at hp ⊢ <;> try exact hp.elim
      exact good_field h hd ho hok.1 hok.2 he hp
    · cases hok
  | idx m x y =>
    simp only [mopOk] at hok
    split at hok
    · rename_i t x0 y0 ho
      simp only [Bool.and_eq_true] at hok
      obtain ⟨⟨⟨h1, h2⟩, h3⟩, h4⟩ := hok
      simp only [core] at hp ⊢
      cases hi : ixN (ev s.tm y) with
      | none => simp [hi, fail] at hp
      | some pj =>
        obtain ⟨p, j⟩ := pj
        simp only [hi] at hp ⊢
        cases he : ev s.tm x <;> simp only [he] at hp ⊢ <;> try exact hp.elim
        refine good_idx_agg h hd ho h1 (fun el hel => ?_) h3 h4 hi he hp rfl rfl
        rw [hel] at h2
        simpa using h2
    · cases hok
  | idxT x y =>
    simp only [mopOk] at hok
    split at hok
    · rename_i t x0 y0 ho
      simp only [Bool.and_eq_true] at hok
      simp only [core] at hp ⊢
      cases hi : ixN (ev s.tm y) with
      | none => simp [hi, fail] at hp
      | some pj =>
        obtain ⟨p, j⟩ := pj
        simp only [hi] at hp ⊢
        cases he : ev s.tm x <;> simp only [he] at hp ⊢ <;> try exact hp.elim
        exact good_idx_str h hd ho (isU_str hok.1.1) hok.1.2 hok.2 hi he hp
    · cases hok
  | ext j x =>
    simp only [mopOk] at hok
    split at hok
    · rename_i x0 i0 ho
      simp only [Bool.and_eq_true, beq_iff_eq] at hok
      obtain ⟨rfl, h1⟩ := hok
      simp only [core] at hp ⊢
      cases he : ev s.tm x <;> simp only [he] at hp ⊢ <;> try exact hp.elim
      exact good_ext h hd ho h1 he hp
    · cases hok
  | lenS x =>
    simp only [mopOk] at hok
    split at hok
    · rename_i x0 t ho
      simp only [Bool.and_eq_true] at hok
      have ho' := callee_eq ho
      simp only [core] at hp ⊢
      cases he : ev s.tm x <;> simp only [he] at hp ⊢ <;> try exact hp.elim
      all_goals (exact good_len h hd ho' hok.1 hok.2 (by rw [he]; rfl) (by rw [he]; simp))
    · cases hok
  | lenT x =>
    simp only [mopOk] at hok
    split at hok
    · rename_i x0 t ho
      simp only [Bool.and_eq_true] at hok
      have ho' := callee_eq ho
      simp only [core] at hp ⊢
      cases he : ev s.tm x <;> simp only [he] at hp ⊢ <;> try exact hp.elim
      exact good_len h hd ho' hok.1 hok.2 (by rw [he]; rfl) (by rw [he]; simp)
    · cases hok
  | capn x =>
    simp only [mopOk] at hok
    split at hok
    · rename_i x0 t ho
      simp only [Bool.and_eq_true] at hok
      have ho' := callee_eq ho
      simp only [core] at hp ⊢
      cases he : ev s.tm x <;> simp only [he] at hp ⊢ <;> try exact hp.elim
      exact good_capn h hd ho' hok.1 hok.2 he
    · cases hok
  | minN xs =>
    simp only [mopOk] at hok
    split at hok
    · rename_i xs0 ts ho
      have ho' := callee_eq ho
      simp only [core] at hp ⊢
      cases he : xs.map (ev s.tm) with
      | nil => simp [he, fail] at hp
      | cons v r' =>
        simp only [he] at hp ⊢
        cases hm : minL v r' with
        | none => simp [hm, fail] at hp
        | some u => simp only [hm] at hp ⊢; exact good_minN h hd ho' (by simpa using hok) he hm
    · cases hok
  | app kd z b x y =>
    simp only [mopOk] at hok
    split at hok
    · rename_i x0 y0 t u ho
      simp only [Bool.and_eq_true, beq_iff_eq] at hok
      obtain ⟨⟨⟨rfl, h1⟩, h2⟩, h3⟩ := hok
      have ho' := callee_eq ho
      simp only [core] at hp ⊢
      cases he : ev s.tm y <;> simp only [he] at hp ⊢ <;> first
        | exact hp.elim
        | exact good_appS h hd ho' h1 h2 h3 (by rw [he]; intro q; simp) (by rw [he]) hp
    · cases hok
  | appz kd z b x y =>
    simp only [mopOk] at hok
    split at hok
    · rename_i x0 y0 t u ho
      simp only [Bool.and_eq_true] at hok
      obtain ⟨⟨⟨h0, h1⟩, h2⟩, h3⟩ := hok
      obtain ⟨k, hk⟩ := isU_int h0
      have ho' := callee_eq ho
      simp only [core] at hp ⊢
      cases hi : ixN (ev s.tm y) with
      | none => simp [hi, fail] at hp
      | some pj =>
        obtain ⟨p, j⟩ := pj
        simp only [hi] at hp ⊢
        exact good_appz h hd ho' hk h1 h2 h3 hi hp.1 hp.2.1 hp.2.2 rfl rfl
    · cases hok
  | copy x y =>
    simp only [mopOk] at hok
    split at hok
    · rename_i x0 y0 t u ho
      simp only [Bool.and_eq_true] at hok
      obtain ⟨⟨h1, h2⟩, h3⟩ := hok
      split at h1
      · rename_i el hel
        have ho' := callee_eq ho
        simp only [core] at hp ⊢
        have key : ∀ vy, ev s.tm y = vy → (∀ q, vy ≠ .str q) → ∀ k off l e, ev s.tm x = .own k off l e → ∀ r : R, r = (match mget s.me k, content (mget s.me) .k8 vy, lenOf vy with
            | some (some c), some (p, cn, ks), some ly => match c.puts off (cn.part 0 (min ly l)) with
              | some c' => ⟨p ∧ e = 1 ∧ cn.esz = 1 ∧ c.has off (min ly l), .n (min ly l), [(k, some c')], k :: ks⟩
              | none => fail
            | _, _, _ => fail : R) → r.pre → Good P nt F s a w Q o r := by
          intro vy hvy hns k off l e hx r hr hp
          subst hr
          split at hp
          · rename_i c p cn ks ly hk hc hl
            split at hp
            · rename_i c' hpu
              obtain ⟨p1, rfl, p3, p4⟩ := hp
              exact good_copy h hd ho' hel h1 h2 h3 (by rw [hvy]; exact hns) hx hk (by rw [hvy]; exact hc) p1 (by rw [hvy]; exact hl) hpu p3 p4 rfl rfl
            · exact hp.elim
          · exact hp.elim
        cases hx : ev s.tm x <;> cases hy : ev s.tm y <;> simp only [hx, hy] at hp ⊢ <;> first
          | exact hp.elim
          | exact key _ hy (by intro q; simp) _ _ _ _ hx _ rfl hp
      · cases h1
    · cases hok
  | slcS e x lo hi =>
    simp only [mopOk] at hok
    split at hok
    · rename_i t x0 lo0 hi0 ho
      simp only [Bool.and_eq_true] at hok
      obtain ⟨⟨⟨h1, h2⟩, h3⟩, h4⟩ := hok
      simp only [core] at hp ⊢
      cases hl : lenOf (ev s.tm x) with
      | none => simp [hl, fail] at hp
      | some l =>
        simp only [hl] at hp ⊢
        cases hb : bnds s.tm lo hi l with
        | none => simp [hb, fail] at hp
        | some pab =>
          obtain ⟨p, i, j⟩ := pab
          simp only [hb] at hp ⊢
          cases he : ev s.tm x <;> simp only [he] at hp ⊢ <;> try exact hp.elim
          · exact good_slcS h hd ho h1 h2 h3 h4 hl hb hp rfl (.inl ⟨he, rfl⟩)
          · rename_i k off l' e'
            obtain ⟨hp, rfl⟩ := hp
            have : l' = l := by rw [he] at hl; simpa [lenOf] using hl
            subst this
            exact good_slcS h hd ho h1 h2 h3 h4 hl hb hp rfl (.inr (.inr (.inr ⟨k, off, he, rfl⟩)))
          · exact good_slcS h hd ho h1 h2 h3 h4 hl hb hp.1 rfl (.inr (.inl ⟨_, _, he, hp.2, rfl⟩))
          · exact good_slcS h hd ho h1 h2 h3 h4 hl hb hp.1 rfl (.inr (.inr (.inl ⟨_, he, hp.2, rfl⟩)))
    · cases hok
  | slcT x lo hi =>
    simp only [mopOk] at hok
    split at hok
    · rename_i t x0 lo0 hi0 ho
      simp only [Bool.and_eq_true] at hok
      obtain ⟨⟨⟨h1, h2⟩, h3⟩, h4⟩ := hok
      simp only [core] at hp ⊢
      cases he : ev s.tm x <;> simp only [he] at hp ⊢ <;> try exact hp.elim
      rename_i l
      cases hb : bnds s.tm lo hi l.length with
      | none => simp [hb, fail] at hp
      | some pab =>
        obtain ⟨p, i, j⟩ := pab
        simp only [hb] at hp ⊢
        exact good_slcStr h hd ho (isU_str h1) h2 h3 h4 he hb hp
    · cases hok
  | slcA m e x lo hi =>
    simp only [mopOk] at hok
    split at hok
    · rename_i t x0 lo0 hi0 ho
      simp only [Bool.and_eq_true] at hok
      obtain ⟨⟨⟨h1, h2⟩, h3⟩, h4⟩ := hok
      simp only [core] at hp ⊢
      cases hb : bnds s.tm lo hi m with
      | none => simp [hb, fail] at hp
      | some pab =>
        obtain ⟨p, i, j⟩ := pab
        simp only [hb] at hp ⊢
        cases he : ev s.tm x <;> simp only [he] at hp ⊢ <;> try exact hp.elim
        rename_i k off
        cases hk : mget s.me k with
        | none => simp [hk, fail] at hp
        | some y0 =>
          cases y0 with
          | none => simp [hk, fail] at hp
          | some c => simp only [hk] at hp ⊢; exact good_slcA h hd ho h1 h2 h3 h4 he hk hb hp.1 hp.2 rfl rfl
    · cases hok
  | mk kd z b x y =>
    simp only [mopOk] at hok
    split at hok
    · rename_i t x0 y0 ho
      simp only [Bool.and_eq_true] at hok
      obtain ⟨⟨h1, h2⟩, h3⟩ := hok
      obtain ⟨el, i, zv, e1, e2, e3, e4, e5, e6, e7⟩ := kdOk_spec h1
      simp only [core] at hp ⊢
      cases hl : ixN (ev s.tm x) with
      | none => simp [hl, fail] at hp
      | some pl =>
        cases hc : ixN (ev s.tm y) with
        | none => simp [hl, hc, fail] at hp
        | some qc =>
          obtain ⟨p, l⟩ := pl
          obtain ⟨q, c⟩ := qc
          simp only [hl, hc] at hp ⊢
          obtain ⟨p1, p2, p3, p4, p5⟩ := hp
          exact good_mk h hd ho e1 e2 e5 e6 e3 e7 h2 h3 hl hc p1 p2 p3 p4.1 (by rw [e4]; exact p4.2) p5 rfl rfl
    · cases hok
  | s2a m x =>
    simp only [mopOk] at hok
    split at hok
    · rename_i t x0 ho
      simp only [Bool.and_eq_true] at hok
      obtain ⟨h1, h2⟩ := hok
      split at h1
      · simp only [core] at hp ⊢
        cases he : ev s.tm x <;> simp only [he] at hp ⊢ <;> try exact hp.elim
        · exact good_s2a_own h hd ho h1 h2 he hp
        · exact good_s2a_ro h hd ho h1 h2 (.inl ⟨_, he⟩) hp.1 hp.2 rfl rfl
        · exact good_s2a_ro h hd ho h1 h2 (.inr he) hp.1 hp.2 rfl rfl
      · cases h1
    · cases hok
  | bld kd xs =>
    simp only [mopOk] at hok
    split at hok
    · rename_i t parts ho
      unfold bldOk at hok
      simp only [Bool.and_eq_true] at hok
      obtain ⟨⟨h1, h2⟩, h3⟩ := hok
      obtain ⟨k1, k2⟩ := kdFlat_spec h1
      split at h3
      · rename_i n el zv hu hz
        simp only [Bool.and_eq_true, beq_iff_eq, List.all_eq_true] at h3
        simp only [core] at hp ⊢
        cases hc : tyC kd (xs.map (ev s.tm)) with
        | none => simp [hc, fail] at hp
        | some c =>
          simp only [hc] at hp ⊢
          cases hi : P.info? t with
          | none => simp [hi] at hz
          | some i => exact good_bld h hd ho hu h3.1.1 k1 k2 h2 hi (by simpa [hi] using hz) h3.1.2 h3.2 hc
      · cases h3
    · cases hok
  | bldz kd z aps =>
    simp only [mopOk] at hok
    split at hok
    · rename_i t parts ho
      unfold bldzOk at hok
      simp only [Bool.and_eq_true] at hok
      obtain ⟨h1, h3⟩ := hok
      obtain ⟨k1, k2⟩ := kdFlat_spec h1
      split at h3
      · rename_i pl zv hpl hz
        simp only [Bool.and_eq_true, beq_iff_eq, List.all_eq_true, List.mem_range] at h3
        simp only [core] at hp ⊢
        cases hf : fillL z (aps.map fun x => (x.1, x.2.1, ev s.tm x.2.2)) with
        | none => simp [hf, fail] at hp
        | some l =>
          simp only [hf] at hp ⊢
          cases hc : tyC kd l with
          | none => simp [hc, fail] at hp
          | some c =>
            simp only [hc] at hp ⊢
            cases hi : P.info? t with
            | none => simp [hi] at hz
            | some i => exact good_bldz h hd ho k1 k2 (placeB_spec hpl) h3.1.1.1 hi (by simpa [hi] using hz) h3.1.1.2 h3.2 h3.1.2 hf hc
      · cases h3
    · cases hok
  | bsl kd xs =>
    simp only [mopOk] at hok
    split at hok
    · rename_i t n parts ho
      unfold bslOk at hok
      simp only [Bool.and_eq_true, beq_iff_eq, decide_eq_true_eq] at hok
      obtain ⟨⟨⟨⟨h1, h2⟩, h3⟩, h4⟩, h5⟩ := hok
      obtain ⟨k1, k2⟩ := kdFlat_spec h1
      split at h5
      · rename_i el hu
        split at h5
        · rename_i i hi
          simp only [Bool.and_eq_true, beq_iff_eq] at h5
          obtain ⟨h5, h6⟩ := h5
          split at h6
          · rename_i zv hz
            simp only [Bool.and_eq_true, beq_iff_eq, List.all_eq_true] at h6
            simp only [core] at hp ⊢
            cases hc : tyC kd (xs.map (ev s.tm)) with
            | none => simp [hc, fail] at hp
            | some c =>
              simp only [hc] at hp ⊢
              exact good_bsl h hd ho hu hi h5 k1 k2 h3 h4 h2 hz h6.1 h6.2 hc hp (by rw [k1]) rfl
          · cases h6
        · cases h5
      · cases h5
    · cases hok
  | call mu f args => simp [mopOk] at hok
  | binA n neg x y =>
    simp only [mopOk] at hok
    split at hok
    · rename_i op t x0 y0 u ho
      simp only [Bool.and_eq_true, beq_iff_eq, Bool.not_eq_true'] at hok
      obtain ⟨⟨⟨⟨rfl, hg⟩, ht⟩, hx⟩, hy⟩ := hok
      split at ht
      · rename_i m e hu
        simp only [Bool.and_eq_true, beq_iff_eq] at ht
        obtain ⟨⟨⟨rfl, h1⟩, h2⟩, h3⟩ := ht
        obtain ⟨k0, hk0⟩ := isU_int h1
        obtain ⟨i, hi⟩ := Option.isSome_iff_exists.1 h2
        simp only [core] at hp ⊢
        cases hex : ev s.tm x <;> simp only [hex] at hp ⊢ <;> try exact hp.elim
        rename_i p
        cases hey : ev s.tm y <;> simp only [hey] at hp ⊢ <;> try exact hp.elim
        rename_i q
        obtain ⟨hpn, hqn, hwh, hp⟩ := hp
        cases hb : eqc p q with
        | none => simp [hb, eqr, fail] at hp
        | some b =>
          cases hin : intsOf p with
          | none => cases p <;> simp [intsOf, Cells.whole] at hin hwh
          | some kl => exact good_binA h hd ho hg hu hi hk0 h3 hx hy hex hey hpn hqn hb (k := kl.1) (l := kl.2) hin rfl rfl
      · cases ht
    · cases hok
  | binG ks neg x y =>
    simp only [mopOk] at hok
    split at hok
    · rename_i op t x0 y0 u ho
      simp only [Bool.and_eq_true, beq_iff_eq, Bool.not_eq_true'] at hok
      obtain ⟨⟨⟨⟨⟨⟨rfl, hg⟩, ht⟩, hkt⟩, hfk⟩, hx⟩, hy⟩ := hok
      split at ht
      · rename_i fs hu
        simp only [core] at hp ⊢
        cases hex : ev s.tm x <;> cases hey : ev s.tm y <;> simp only [hex, hey] at hp ⊢ <;> try exact hp.elim
        rename_i p q
        cases p <;> cases q <;> try exact hp.elim
        rename_i p q
        simp only at hp ⊢
        obtain ⟨k1, k2, hp⟩ := hp
        cases hb : eqvs p q with
        | none => simp [hb, eqr, fail] at hp
        | some b => exact good_binG h hd ho hg hu hkt hfk hx hy hex hey k1 k2 hb rfl rfl
      · cases ht
    · cases hok
  | bad => exact hp.elim
end
end Go.Vc

/-! Vc5 -/
set_option linter.unusedVariables false
set_option linter.unusedSimpArgs false
namespace Go.Vc

/-- values that name no block of one's own -/
def AV.rf : AV → Bool
  | .ptr _ _ | .own _ _ _ _ | .agg _ | .tup _ => false
  | _ => true
def Cells.rf : Cells → Prop
  | .gen l => l.all AV.rf = true
  | .recs _ l => ∀ r ∈ l, r.all AV.rf = true
  | _ => True

theorem RV.rf {B : Nat} {O : Nat → Prop} {w : World} {β β' : Bt} {a : AV} {v : Value} (h : RV B O w β a v) (hr : a.rf = true) : RV B O w β' a v := by
  cases h <;> first
    | (simp [AV.rf] at hr; done)
    | (constructor <;> assumption)

theorem Cells.rf_get {c : Cells} (h : c.rf) (j : Nat) : (c.get j).rf = true := by
  cases c <;> simp only [Cells.rf, Cells.get] at *
  case gen l =>
    by_cases hj : j < l.length
    · have : l.getD j .any ∈ l := by
        simp [List.getD_eq_getElem?_getD, hj]
      exact List.all_eq_true.1 h _ this
    · simp [List.getD_eq_getElem?_getD, hj]; rfl
  case recs sz l =>
    by_cases hj : j / sz < l.length
    · have : l.getD (j / sz) [] ∈ l := by simp [List.getD_eq_getElem?_getD, hj]
      have h2 := h _ this
      by_cases hk : j % sz < (l.getD (j / sz) []).length
      · have h3 : (l.getD (j / sz) []).getD (j % sz) .any ∈ l.getD (j / sz) [] := by
          generalize l.getD (j / sz) [] = r at *
          simp [List.getD_eq_getElem?_getD, hk]
        exact List.all_eq_true.1 h2 _ h3
      · generalize l.getD (j / sz) [] = r at *
        simp [List.getD_eq_getElem?_getD, hk]; rfl
    · have e : l.getD (j / sz) [] = [] := by simp [List.getD_eq_getElem?_getD, hj]
      rw [e]; rfl
  all_goals rfl

abbrev Rho := List (Nat × Option Nat)
def rho : Rho → Nat → Option Nat
  | [], K => some K
  | (k, x) :: r, K => if k = K then x else rho r K

/-- the source's keys that the target's blocks are -/
def images (ρ : Rho) : Me → List Nat
  | [] => []
  | (K, some _) :: r => (match rho ρ K with | some k => [k] | none => []) ++ images ρ r
  | (_, none) :: r => images ρ r

/-- a source's value says what the target's says (pf: nothing was borrowed) -/
def leA1 (pf : Prop) (ρ : Rho) (m : Nat → Option (Option Cells)) (S : Me) : AV → AV → Prop
  | _, .any => True
  | .ptr k o, .ptr K O => rho ρ K = some k ∧ o = O ∧ (mget S K).isSome = true
  | .own k o l e, .own K O L E => rho ρ K = some k ∧ o = O ∧ l = L ∧ e = E ∧ (mget S K).isSome = true
  | .own k o l e, .sl fr C => match m k with
    | some (some c) => c.win o l e ∧ C = c.part (o / e) l ∧ k ∉ images ρ S ∧ C.rf ∧ (fr = true → pf)
    | _ => False
  | .nil, .sl _ C => C.count = 0 ∧ C.len = 0
  | .nil, .own K O L _ => rho ρ K = none ∧ O = 0 ∧ L = 0 ∧ (mget S K).isSome = true
  | .sl fr c, .sl fr' C => c = C ∧ (fr' = true → fr = true)
  | .sln c, .sl fr C => c = C ∧ fr = false
  | .n x, .i y => (x : Int) = y
  | .i x, .n y => x = (y : Int)
  | .agg c, .agg C => c = C ∧ C.rf
  | a, A => a = A ∧ A.rf = true

/-- a struct's cells: each says what the target's says -/
def leA (pf : Prop) (ρ : Rho) (m : Nat → Option (Option Cells)) (S : Me) : AV → AV → Prop
  | .agg (.gen l), .agg (.gen L) => l.length = L.length ∧ ∀ x ∈ l.zip L, leA1 pf ρ m S x.1 x.2
  | a, A => leA1 pf ρ m S a A
theorem leA_any {pf ρ m S} (a : AV) : leA pf ρ m S a .any := by
  cases a with
  | agg c => cases c <;> exact trivial
  | _ => exact trivial

/-- a cell of a block: the same, or a slice or a pointer into a block that goes along -/
def leC (pf : Prop) (ρ : Rho) (m : Nat → Option (Option Cells)) (S : Me) : Cells → Cells → Prop
  | .gen l, .gen L => l.length = L.length ∧ ∀ x ∈ l.zip L, leA pf ρ m S x.1 x.2
  | c, C => c = C ∧ C.rf

def leT (pf : Prop) (ρ : Rho) (s : St) (S : Me) : Tm → Prop
  | [] => True
  | (t, A) :: r => leA pf ρ (mget s.me) S (tget s.tm t) A ∧ leT pf ρ s S r
def leM (pf : Prop) (ρ : Rho) (s : St) (S : Me) : Me → Prop
  | [] => True
  | (K, some C) :: r => (match rho ρ K with
    | none => C.count = 0 ∧ C.len = 0
    | some k => match mget s.me k with
      | some (some c) => leC pf ρ (mget s.me) S c C
      | _ => False) ∧ leM pf ρ s S r
  | (_, none) :: r => leM pf ρ s S r
def keysA : Me → List Nat
  | [] => []
  | (K, _) :: r => K :: keysA r

def LE (pf : Prop) (ρ : Rho) (s S : St) : Prop :=
  leT pf ρ s S.me S.tm ∧ leM pf ρ s S.me S.me ∧ (images ρ S.me).Nodup ∧ (keysA S.me).Nodup

theorem mget_mem {S : Me} {K : Nat} {x : Option Cells} (h : mget S K = some x) : (K, x) ∈ S := by
  induction S with
  | nil => simp [mget] at h
  | cons y r ih =>
    obtain ⟨k, c⟩ := y
    simp only [mget] at h
    by_cases e : k = K
    · rw [if_pos e] at h; injection h with h; subst h; subst e; exact List.mem_cons_self ..
    · rw [if_neg e] at h; exact List.mem_cons_of_mem _ (ih h)
theorem leT_get {pf ρ s S} {T : Tm} (h : leT pf ρ s S T) (t : Nat) : leA pf ρ (mget s.me) S (tget s.tm t) (tget T t) := by
  induction T with
  | nil => exact leA_any _
  | cons y r ih =>
    obtain ⟨k, A⟩ := y
    simp only [leT] at h
    simp only [tget]
    by_cases e : k = t
    · rw [if_pos e]; subst e; exact h.1
    · rw [if_neg e]; exact ih h.2
theorem leM_get {pf ρ s S} {M : Me} (h : leM pf ρ s S M) {K : Nat} {C : Cells} (hK : (K, some C) ∈ M) : (match rho ρ K with
    | none => C.count = 0 ∧ C.len = 0
    | some k => match mget s.me k with
      | some (some c) => leC pf ρ (mget s.me) S c C
      | _ => False) := by
  induction M with
  | nil => cases hK
  | cons y r ih =>
    obtain ⟨k, c⟩ := y
    rcases List.mem_cons.1 hK with e | e
    · cases e; exact h.1
    · cases c with
      | none => exact ih h e
      | some c => exact ih h.2 e
theorem image_mem {ρ : Rho} {M : Me} {K k : Nat} {C : Cells} (hK : (K, some C) ∈ M) (hk : rho ρ K = some k) : k ∈ images ρ M := by
  induction M with
  | nil => cases hK
  | cons y r ih =>
    obtain ⟨k', c⟩ := y
    rcases List.mem_cons.1 hK with e | e
    · cases e; simp only [images, hk]; simp
    · cases c with
      | none => exact ih e
      | some c => simp only [images]; exact List.mem_append_right _ (ih e)
theorem image_inj {ρ : Rho} {M : Me} (hn : (images ρ M).Nodup) {K K' k : Nat} {C C' : Cells} (hK : (K, some C) ∈ M) (hK' : (K', some C') ∈ M) (h1 : rho ρ K = some k) (h2 : rho ρ K' = some k) : K = K' := by
  induction M with
  | nil => cases hK
  | cons y r ih =>
    obtain ⟨k', c⟩ := y
    cases c with
    | none =>
      rcases List.mem_cons.1 hK with e | e
      · cases e
      · rcases List.mem_cons.1 hK' with e' | e'
        · cases e'
        · exact ih hn e e'
    | some c =>
      simp only [images] at hn
      rw [List.nodup_append] at hn
      rcases List.mem_cons.1 hK with e | e
      · rcases List.mem_cons.1 hK' with e' | e'
        · cases e; cases e'; rfl
        · cases e
          simp only [h1] at hn
          exact absurd rfl (hn.2.2 k (by simp) k (image_mem e' h2))
      · rcases List.mem_cons.1 hK' with e' | e'
        · cases e'
          simp only [h2] at hn
          exact absurd rfl (hn.2.2 k (by simp) k (image_mem e h1))
        · exact ih hn.2.1 e e'

section
variable {nt : Nat} {F : Fr} {s S : St} {β : Bt} {a : Act} {w : World}

/-- the target's keys -/
def turn (β : Bt) (ρ : Rho) (S : Me) : Bt := fun K => if (mget S K).isSome = true then (match rho ρ K with | none => some none | some k => match β k with | some x => some x | none => some none) else none

theorem Rep.le (h : Rep nt F s β a w) {ρ : Rho} {pf : Prop} (hpf : pf → ∀ b, ¬ F.bor b) (hle : LE pf ρ s S) : ∃ β', Rep nt F S β' a w := by
  obtain ⟨hT, hM, hI, hN⟩ := hle
  refine ⟨turn β ρ S.me, ?_⟩
  have hturn : ∀ {K}, (mget S.me K).isSome = true → ∀ {k x}, rho ρ K = some k → β k = some x → turn β ρ S.me K = some x := by
    intro K hK k x h1 h2
    simp only [turn, if_pos hK, h1, h2]
  have hturn0 : ∀ {K}, (mget S.me K).isSome = true → rho ρ K = none → turn β ρ S.me K = some none := by
    intro K hK h1
    simp only [turn, if_pos hK, h1]
  -- an alive key of the target is an alive key of the source, or a row of nothing
  have back : ∀ {K C}, mget S.me K = some (some C) → (rho ρ K = none ∧ C.count = 0 ∧ C.len = 0) ∨ ∃ k c, rho ρ K = some k ∧ mget s.me k = some (some c) ∧ leC pf ρ (mget s.me) S.me c C := by
    intro K C hK
    have := leM_get hM (mget_mem hK)
    split at this
    · exact .inl ⟨by assumption, this⟩
    · split at this
      · exact .inr ⟨_, _, by assumption, by assumption, this⟩
      · exact this.elim
  have alive_β : ∀ {k c}, mget s.me k = some (some c) → ∃ x, β k = some x := by
    intro k c hk
    have := h.mr.bl k c hk
    cases hb : β k with
    | none => rw [hb] at this; exact this.elim
    | some x => exact ⟨x, rfl⟩
  have hO : ∀ b, Owned S.me (turn β ρ S.me) b → ∃ K C k c sz, mget S.me K = some (some C) ∧ rho ρ K = some k ∧ mget s.me k = some (some c) ∧ β k = some (some (b, sz)) := by
    rintro b ⟨K, C, sz, e1, e2⟩
    have hs : (mget S.me K).isSome = true := by rw [e1]; rfl
    rcases back e1 with ⟨h1, _⟩ | ⟨k, c, h1, h2, _⟩
    · rw [hturn0 hs h1] at e2; cases e2
    · obtain ⟨x, hx⟩ := alive_β h2
      rw [hturn hs h1 hx] at e2
      injection e2 with e2
      subst e2
      exact ⟨K, C, k, c, sz, e1, h1, h2, hx⟩
  have hO' : ∀ b, Owned S.me (turn β ρ S.me) b → Owned s.me β b := by
    intro b hb
    obtain ⟨K, C, k, c, sz, _, _, h3, h4⟩ := hO b hb
    exact ⟨k, c, sz, h3, h4⟩
  have mono0 : ∀ {x v}, RV F.B (Own F s.me β) w β x v → x.rf = true → RV F.B (Own F S.me (turn β ρ S.me)) w (turn β ρ S.me) x v := by
    intro x v hx hr
    have := (hx.rf (β' := bt0) hr)
    exact this.mono (Nat.le_refl _) (fun b _ hb => hb.imp (hO' b)) (Nat.le_refl _) (fun _ _ _ => rfl) _ (fun _ _ h => by cases h)
  have key1 : ∀ {x A v}, leA1 pf ρ (mget s.me) S.me x A → RV F.B (Own F s.me β) w β x v → RV F.B (Own F S.me (turn β ρ S.me)) w (turn β ρ S.me) A v := by
    intro x A v hl hx
    unfold leA1 at hl
    split at hl
    · exact .any
    · obtain ⟨h1, rfl, h3⟩ := hl
      cases hx with
      | ptr hb => exact .ptr (hturn h3 h1 hb)
    · obtain ⟨h1, rfl, rfl, rfl, h3⟩ := hl
      cases hx with
      | own hb hlc hc ho => exact .own (hturn h3 h1 hb) hlc hc ho
      | ownnil hb => exact .ownnil (hturn h3 h1 hb)
    · rename_i k o l e fr C
      split at hl
      · rename_i c hk
        obtain ⟨hw, rfl, hni, hrf, hfr⟩ := hl
        obtain ⟨ad, cap, us, hv, hrd, hblk⟩ := own_rd h hx hk hw
        subst hv
        have hnc : ad = none → cap = 0 := by
          cases hx with
          | own => intro e; cases e
          | ownnil => intro _; rfl
        have hcnt : (c.part (o / e) l).count = l := Cells.part_count hw.2.2.2
        rcases hrd.at_ with h0 | ⟨ad', rfl, hcc⟩
        · have hlen := Cells.len_eq (c.part (o / e) l)
          have hl0 : l = 0 := by
            rw [h0, hcnt, Cells.part_esz, ← hw.1] at hlen
            rcases Nat.mul_eq_zero.1 hlen.symm with h | h
            · exact h
            · have := hw.2.1; omega
          subst hl0
          exact .sl0 h0 hcnt hnc
        · obtain ⟨b, sz, hb1, hb2⟩ := hblk ad' rfl
          have hbO : Owned s.me β b := ⟨k, c, sz, hk, hb2⟩
          have hlt := h.mr.lt hk hb2
          have := RV.sl (B := F.B) (O := Own F S.me (turn β ρ S.me)) (w := w) (β := turn β ρ S.me) (fr := fr) (c := c.part (o / e) l) (a := ad') (cap := cap) (us := us) hrd.len hcc
            (by
              rintro (hx2 | hoff)
              case inr =>
                rw [hb1] at hoff
                have h1 := h.mr.fr.offs b hoff
                rcases h.mr.ow k c b sz hk hb2 with h2 | h2
                · exact h1.2 h2
                · omega
              rw [hb1] at hx2
              obtain ⟨K, C', k2, c2, sz2, g1, g2, g3, g4⟩ := hO b hx2
              have : k2 = k := h.mr.inj k2 k c2 c b sz2 sz g3 hk g4 hb2
              subst this
              exact hni (image_mem (mget_mem g1) g2))
            (by rw [hb1]; exact hlt)
            (by
              intro hf
              rw [hb1]
              rcases h.mr.ow k c b sz hk hb2 with h | h
              · exact absurd h (hpf (hfr hf) b)
              · exact h)
            hrd.one (by rw [hcnt]; cases hx with | own _ h _ _ => exact h)
            (fun j hj => by
              have := (hrd.rv j hj).rf (β' := bt0) (Cells.rf_get hrf j)
              exact this.mono (Nat.le_refl _) (fun b _ hb => hb.imp (hO' b)) (Nat.le_refl _) (fun _ _ _ => rfl) _ (fun _ _ h => h))
          rw [hcnt] at this
          exact this
      · exact hl.elim
    · cases hx; exact .sl0 hl.2 hl.1 (fun _ => rfl)
    · obtain ⟨h1, rfl, rfl, h3⟩ := hl
      cases hx
      exact .ownnil (hturn0 h3 h1)
    · obtain ⟨rfl, hf⟩ := hl
      have hx2 := mono0 hx rfl
      generalize hcc : RV F.B (Own F S.me (turn β ρ S.me)) w (turn β ρ S.me) = R at hx2 ⊢
      subst hcc
      cases hx2 with
      | sl a1 a2 a3 a4 a5 a6 a7 a8 => exact .sl a1 a2 a3 a4 (fun e => a5 (hf e)) a6 a7 a8
      | sl0 a1 a2 a3 => exact .sl0 a1 a2 a3
    · obtain ⟨rfl, rfl⟩ := hl
      have hx2 := mono0 hx rfl
      cases hx2 with
      | sln0 a1 a2 => exact .sl0 a1 a2 (fun e => by cases e)
      | sln a1 a2 a3 a4 a6 a7 a8 => exact .sl a1 a2 a3 a4 (fun e => by cases e) a6 a7 a8
    · cases hx; rw [hl]; exact .i
    · cases hx; rw [hl]; exact .n
    · obtain ⟨rfl, hr⟩ := hl
      cases hx with
      | agg a1 a2 a3 => exact .agg a1 a2 (fun j hj => mono0 (a3 j hj) (Cells.rf_get hr j))
    · obtain ⟨rfl, hr⟩ := hl
      exact mono0 hx hr
  have key : ∀ {x A v}, leA pf ρ (mget s.me) S.me x A → RV F.B (Own F s.me β) w β x v → RV F.B (Own F S.me (turn β ρ S.me)) w (turn β ρ S.me) A v := by
    intro x A v hl hx
    unfold leA at hl
    split at hl
    · rename_i l L
      obtain ⟨g1, g2⟩ := hl
      cases hx with
      | agg a1 a2 a3 =>
        simp only [Cells.len, Cells.get] at a1 a3
        refine .agg (by simp only [Cells.len]; omega) a2 (fun j hj => ?_)
        simp only [Cells.len, Cells.get] at hj ⊢
        have hm : (l.getD j .any, L.getD j .any) ∈ l.zip L := by
          rw [List.mem_iff_getElem]
          refine ⟨j, by simp; omega, ?_⟩
          simp [List.getD_eq_getElem?_getD, hj, show j < l.length by omega]
        exact key1 (g2 _ hm) (a3 j (by omega))
    · exact key1 hl hx
  refine ⟨h.nt, h.df, fun t => key (leT_get hT t) (h.tm t), fun K hK => ?_, fun K C hK => ?_, fun K K' C C' b z z' e1 e2 e3 e4 => ?_, fun K C b z e1 e2 => ?_, h.mr.fr⟩
  · simp only [turn, hK]; rfl
  · have hs : (mget S.me K).isSome = true := by rw [hK]; rfl
    rcases back hK with ⟨h1, h2, h3⟩ | ⟨k, c, h1, h2, h3⟩
    · rw [hturn0 hs h1]; exact ⟨h3, h2⟩
    · obtain ⟨x, hx⟩ := alive_β h2
      rw [hturn hs h1 hx]
      have hbl := h.mr.bl k c h2
      rw [hx] at hbl
      have same : C.len = c.len ∧ C.count = c.count ∧ ∀ j v, j < c.len → RV F.B (Own F s.me β) w β (c.get j) v → RV F.B (Own F S.me (turn β ρ S.me)) w (turn β ρ S.me) (C.get j) v := by
        unfold leC at h3
        split at h3
        · rename_i l L
          obtain ⟨g1, g2⟩ := h3
          refine ⟨g1.symm, g1.symm, fun j v hj hv => ?_⟩
          simp only [Cells.len, Cells.get] at *
          have hm : (l.getD j .any, L.getD j .any) ∈ l.zip L := by
            rw [List.mem_iff_getElem]
            refine ⟨j, by simp; omega, ?_⟩
            simp [List.getD_eq_getElem?_getD, hj, show j < L.length by omega]
          exact key (g2 _ hm) hv
        · obtain ⟨rfl, hr⟩ := h3
          exact ⟨rfl, rfl, fun j v hj hv => mono0 hv (Cells.rf_get hr j)⟩
      match x, hbl with
      | none, hbl => exact ⟨by rw [same.1]; exact hbl.1, by rw [same.2.1]; exact hbl.2⟩
      | some (b, z), ⟨cs, T, g1, g2, g3, g4, g5⟩ => exact ⟨cs, T, g1, g2, by rw [same.1]; exact g3, g4, fun j hj => same.2.2 j _ (by rw [← same.1]; exact hj) (g5 j (by rw [← same.1]; exact hj))⟩
  · have hs : (mget S.me K).isSome = true := by rw [e1]; rfl
    have hs' : (mget S.me K').isSome = true := by rw [e2]; rfl
    rcases back e1 with ⟨h1, _⟩ | ⟨k, c, h1, h2, _⟩
    · rw [hturn0 hs h1] at e3; cases e3
    · rcases back e2 with ⟨h1', _⟩ | ⟨k', c', h1', h2', _⟩
      · rw [hturn0 hs' h1'] at e4; cases e4
      · obtain ⟨x, hx⟩ := alive_β h2
        obtain ⟨x', hx'⟩ := alive_β h2'
        rw [hturn hs h1 hx] at e3
        rw [hturn hs' h1' hx'] at e4
        injection e3 with e3
        injection e4 with e4
        subst e3
        subst e4
        have := h.mr.inj k k' c c' b z z' h2 h2' hx hx'
        subst this
        exact image_inj hI (mget_mem e1) (mget_mem e2) h1 h1'
  · have hs : (mget S.me K).isSome = true := by rw [e1]; rfl
    rcases back e1 with ⟨h1, _⟩ | ⟨k, c, h1, h2, _⟩
    · rw [hturn0 hs h1] at e2; cases e2
    · obtain ⟨x, hx⟩ := alive_β h2
      rw [hturn hs h1 hx] at e2
      injection e2 with e2
      subst e2
      exact h.mr.ow k c b z h2 hx
end
end Go.Vc

/-! Vc5o -/
set_option linter.unusedVariables false
set_option linter.unusedSimpArgs false
namespace Go.Vc

def Opd.sl : Opd → List Nat
  | .t x => [x]
  | .c _ => []
def sls (l : List Opd) : List Nat := l.flatMap Opd.sl
def osl : Option Opd → List Nat
  | some x => x.sl
  | none => []
/-- the slots that an operation looks at -/
def MOp.looks : MOp → List Nat
  | .mv x => x.sl
  | .pick c a b => c.sl ++ (a.sl ++ b.sl)
  | .alloc _ => []
  | .box x => x.sl
  | .bld _ xs => sls xs
  | .bldz _ _ xs => sls (xs.map fun x => x.2.2)
  | .bsl _ xs => sls xs
  | .load _ a => a.sl
  | .store _ a x => a.sl ++ x.sl
  | .nilc x => x.sl
  | .bin _ x y => x.sl ++ y.sl
  | .binB _ x y => x.sl ++ y.sl
  | .binS _ x y => x.sl ++ y.sl
  | .binN x y => x.sl ++ y.sl
  | .binA _ _ x y => x.sl ++ y.sl
  | .binG _ _ x y => x.sl ++ y.sl
  | .un _ x => x.sl
  | .conv _ x => x.sl
  | .b2s x => x.sl
  | .cvs x => x.sl
  | .idxS _ x i => x.sl ++ i.sl
  | .idxA _ _ x i => x.sl ++ i.sl
  | .fld _ x => x.sl
  | .field _ _ x => x.sl
  | .idx _ x i => x.sl ++ i.sl
  | .ext _ x => x.sl
  | .idxT x i => x.sl ++ i.sl
  | .lenS x => x.sl
  | .lenT x => x.sl
  | .capn x => x.sl
  | .minN xs => sls xs
  | .app _ _ _ s x => s.sl ++ x.sl
  | .appz _ _ _ s x => s.sl ++ x.sl
  | .copy x y => x.sl ++ y.sl
  | .slcS _ x lo hi => x.sl ++ (osl lo ++ osl hi)
  | .slcT x lo hi => x.sl ++ (osl lo ++ osl hi)
  | .slcA _ _ x lo hi => x.sl ++ (osl lo ++ osl hi)
  | .mk _ _ _ l c => l.sl ++ c.sl
  | .call _ _ args => sls (args.map fun x => x.1)
  | .s2a _ x => x.sl
  | .bad => []

variable {Γ : Ctr}

theorem ev_same {tm tm' : Tm} {x : Opd} (h : ∀ t ∈ x.sl, tget tm t = tget tm' t) : ev tm x = ev tm' x := by
  cases x with
  | t x => exact h x (by simp [Opd.sl])
  | c v => rfl
theorem map_same {tm tm' : Tm} {xs : List Opd} (h : ∀ t ∈ sls xs, tget tm t = tget tm' t) : xs.map (ev tm) = xs.map (ev tm') := by
  apply List.map_congr_left
  intro x hx
  exact ev_same fun t ht => h t (List.mem_flatMap.2 ⟨x, hx, ht⟩)
theorem bnds_same {tm tm' : Tm} {lo hi : Option Opd} {l : Nat} (h : ∀ t ∈ osl lo ++ osl hi, tget tm t = tget tm' t) : bnds tm lo hi l = bnds tm' lo hi l := by
  cases lo <;> cases hi <;> simp only [bnds]
  · rw [ev_same (tm := tm) (tm' := tm') fun t ht => h t (by simp [osl, ht])]
  · rw [ev_same (tm := tm) (tm' := tm') fun t ht => h t (by simp [osl, ht])]
  · rename_i a b
    rw [ev_same (x := a) (tm := tm) (tm' := tm') fun t ht => h t (by simp [osl, ht]), ev_same (x := b) (tm := tm) (tm' := tm') fun t ht => h t (by simp [osl, ht])]

theorem core_slots {tm tm' : Tm} {d : Nat} {op : MOp} {m : Nat → Option (Option Cells)} (h : ∀ t ∈ op.looks, tget tm t = tget tm' t) : core Γ d op tm m = core Γ d op tm' m := by
  cases op <;> simp only [MOp.looks, List.mem_append] at h
  case alloc => rfl
  case bad => rfl
  case bld kd xs => simp only [core, map_same h]
  case bsl kd xs => simp only [core, map_same h]
  case minN xs => simp only [core, map_same h]
  case bldz kd z xs =>
    have e : (xs.map fun x => (x.1, x.2.1, ev tm x.2.2)) = xs.map fun x => (x.1, x.2.1, ev tm' x.2.2) := by
      apply List.map_congr_left
      intro x hx
      rw [ev_same fun t ht => h t (List.mem_flatMap.2 ⟨x.2.2, List.mem_map.2 ⟨x, hx, rfl⟩, ht⟩)]
    simp only [core, e]
  case call mu f args =>
    have e : (args.map fun x => (ev tm x.1, x.2)) = args.map fun x => (ev tm' x.1, x.2) := by
      apply List.map_congr_left
      intro x hx
      rw [ev_same fun t ht => h t (List.mem_flatMap.2 ⟨x.1, List.mem_map.2 ⟨x, hx, rfl⟩, ht⟩)]
    simp only [core, e]
  case store sz a x =>
    cases sz <;> simp only [core] <;> rw [ev_same (x := a) (tm := tm) (tm' := tm') (fun t ht => h t (by simp [ht])), ev_same (x := x) (tm := tm) (tm' := tm') (fun t ht => h t (by simp [ht]))]
  case slcS e x lo hi =>
    simp only [core]; rw [ev_same (x := x) (tm := tm) (tm' := tm') (fun t ht => h t (by simp [ht]))]
    simp only [bnds_same (lo := lo) (hi := hi) (tm := tm) (tm' := tm') (fun t ht => h t (.inr (List.mem_append.1 ht)))]
  case slcT x lo hi =>
    simp only [core]; rw [ev_same (x := x) (tm := tm) (tm' := tm') (fun t ht => h t (by simp [ht]))]
    simp only [bnds_same (lo := lo) (hi := hi) (tm := tm) (tm' := tm') (fun t ht => h t (.inr (List.mem_append.1 ht)))]
  case slcA n e x lo hi =>
    simp only [core]; rw [ev_same (x := x) (tm := tm) (tm' := tm') (fun t ht => h t (by simp [ht]))]
    simp only [bnds_same (lo := lo) (hi := hi) (tm := tm) (tm' := tm') (fun t ht => h t (.inr (List.mem_append.1 ht)))]
  case pick c a b =>
    simp only [core]
    rw [ev_same (x := c) (tm := tm) (tm' := tm') (fun t ht => h t (by simp [ht])), ev_same (x := a) (tm := tm) (tm' := tm') (fun t ht => h t (by simp [ht])), ev_same (x := b) (tm := tm) (tm' := tm') (fun t ht => h t (by simp [ht]))]
  all_goals first
    | (simp only [core]; rename_i x; rw [ev_same (x := x) (tm := tm) (tm' := tm') (fun t ht => h t (by simp [ht]))]; done)
    | (simp only [core]; rename_i x y; rw [ev_same (x := x) (tm := tm) (tm' := tm') (fun t ht => h t (by simp [ht])), ev_same (x := y) (tm := tm) (tm' := tm') (fun t ht => h t (by simp [ht]))]; done)

section
variable {m m' : Nat → Option (Option Cells)}
theorem pur_same : ∀ (f : Nat) (v : AV), (∀ k ∈ keysOf m f v, m k = m' k) → pur m f v = pur m' f v ∧ purP m f v = purP m' f v
  | 0, v, _ => ⟨rfl, rfl⟩
  | f + 1, v, h => by
    have go : ∀ l : List AV, (∀ k ∈ l.flatMap (keysOf m f), m k = m' k) → l.map (pur m f) = l.map (pur m' f) ∧ (∀ x ∈ l, purP m f x ∧ x.one = true ∧ (pur m f x).one = true) = (∀ x ∈ l, purP m' f x ∧ x.one = true ∧ (pur m' f x).one = true) := by
      intro l hl
      have key : ∀ x ∈ l, pur m f x = pur m' f x ∧ purP m f x = purP m' f x := fun x hx => pur_same f x fun k hk => hl k (List.mem_flatMap.2 ⟨x, hx, hk⟩)
      refine ⟨List.map_congr_left fun x hx => (key x hx).1, ?_⟩
      apply propext
      constructor <;> intro h x hx <;> have := h x hx <;> obtain ⟨k1, k2⟩ := key x hx
      · rw [← k1, ← k2]; exact this
      · rw [k1, k2]; exact this
    cases v with
    | own k o l e =>
      have hk : m k = m' k := h k (by simp [keysOf])
      simp only [pur, purP, ← hk]
      cases hmk : m k with
      | none => exact ⟨rfl, rfl⟩
      | some x => cases x with
        | none => exact ⟨rfl, rfl⟩
        | some c =>
          cases c with
          | gen L =>
            have hL := go ((L.drop (o / e)).take l) (fun k' hk' => by
              refine h k' ?_
              simp only [keysOf, hmk, List.mem_cons]
              obtain ⟨x, hx, hx'⟩ := List.mem_flatMap.1 hk'
              exact .inr (List.mem_flatMap.2 ⟨x, List.mem_of_mem_drop (List.mem_of_mem_take hx), hx'⟩))
            simp only [Cells.part, Cells.sub]
            rw [hL.1, hL.2]; exact ⟨rfl, rfl⟩
          | _ => exact ⟨rfl, rfl⟩
    | agg c =>
      cases c with
      | gen L =>
        have hL := go L (fun k' hk' => h k' (by simpa [keysOf] using hk'))
        simp only [pur, purP]
        rw [hL.1, hL.2]; exact ⟨rfl, rfl⟩
      | _ => exact ⟨rfl, rfl⟩
    | _ => exact ⟨rfl, rfl⟩

theorem content_same {kd : Kd} {v : AV} {p : Prop} {c : Cells} {ks : List Nat} (h : content m kd v = some (p, c, ks)) (hk : ∀ k ∈ ks, m k = m' k) : content m' kd v = some (p, c, ks) := by
  cases v <;> simp only [content] at h ⊢ <;> try exact h
  rename_i k o l e
  cases hmk : m k with
  | none => simp [hmk] at h
  | some x => cases x with
    | none => simp [hmk] at h
    | some c0 =>
      simp only [hmk, Option.some.injEq, Prod.mk.injEq] at h
      obtain ⟨rfl, rfl, rfl⟩ := h
      rw [← hk k (by simp), hmk]

theorem appR_same {d : Nat} {kd : Kd} {b : Nat} {s : AV} {news news' : Option (Prop × Cells × List Nat)} (hp : (appR m d kd b s news).pre) (hk : ∀ k ∈ (appR m d kd b s news).mr, m k = m' k)
    (hn : ∀ x, news = some x → (∀ k ∈ x.2.2, m k = m' k) → news' = some x) : appR m' d kd b s news' = appR m d kd b s news := by
  cases news with
  | none => simp [appR, fail] at hp
  | some x =>
    obtain ⟨p, cn, ks⟩ := x
    cases s <;> simp only [appR, fail] at hp
    case nil =>
      cases hc : kd.nil.app cn with
      | none => simp [hc] at hp
      | some c =>
        have hk' : ∀ k ∈ d :: ks, m k = m' k := by simpa [appR, hc] using hk
        rw [hn _ rfl (fun k hk => hk' k (by simp [hk]))]
        simp only [appR, hc, hk' d (by simp)]
    case own k o l e =>
      cases hmk : m k with
      | none => simp [hmk] at hp
      | some x => cases x with
        | none => simp [hmk] at hp
        | some c0 =>
          cases hc : (c0.part 0 l).app cn with
          | none => simp [hmk, hc] at hp
          | some c =>
            have hk' : ∀ k' ∈ d :: k :: ks, m k' = m' k' := by simpa [appR, hmk, hc] using hk
            rw [hn _ rfl (fun k hk => hk' k (by simp [hk]))]
            simp only [appR, ← hk' k (by simp), hmk, hc, hk' d (by simp)]

theorem keysOf_same : ∀ (f : Nat) (v : AV), (∀ k ∈ keysOf m f v, m k = m' k) → keysOf m' f v = keysOf m f v
  | 0, v, _ => rfl
  | f + 1, v, h => by
    have go : ∀ l : List AV, (∀ k ∈ l.flatMap (keysOf m f), m k = m' k) → l.flatMap (keysOf m' f) = l.flatMap (keysOf m f) := by
      intro l hl
      induction l with
      | nil => rfl
      | cons x r ih =>
        simp only [List.flatMap_cons, List.mem_append] at hl ⊢
        rw [keysOf_same f x (fun k hk => hl k (.inl hk)), ih (fun k hk => hl k (.inr hk))]
    cases v with
    | own k o l e =>
      have hk : m k = m' k := h k (by simp [keysOf])
      simp only [keysOf, ← hk] at h ⊢
      cases hmk : m k with
      | none => rfl
      | some x => cases x with
        | none => rfl
        | some c =>
          cases c with
          | gen L =>
            simp only
            rw [go L (fun k' hk' => h k' (by rw [hmk]; exact List.mem_cons_of_mem _ hk'))]
          | _ => rfl
    | ptr k o =>
      have hk : m k = m' k := h k (by simp [keysOf])
      simp only [keysOf, ← hk] at h ⊢
      cases hmk : m k with
      | none => rfl
      | some x => cases x with
        | none => rfl
        | some c =>
          cases c with
          | gen L =>
            simp only
            rw [go L (fun k' hk' => h k' (by rw [hmk]; exact List.mem_cons_of_mem _ hk'))]
          | _ => rfl
    | agg c =>
      cases c with
      | gen L =>
        simp only [keysOf] at h ⊢
        exact go L h
      | _ => rfl
    | _ => rfl

theorem flat_same {f : Nat} : ∀ {l : List AV}, (∀ k ∈ l.flatMap (keysOf m f), m k = m' k) → l.flatMap (keysOf m' f) = l.flatMap (keysOf m f)
  | [], _ => rfl
  | x :: r, h => by
    simp only [List.flatMap_cons, List.mem_append] at h ⊢
    rw [keysOf_same f x (fun k hk => h k (.inl hk)), flat_same fun k hk => h k (.inr hk)]

theorem mem_dd : ∀ (l acc : List Nat) (k : Nat), k ∈ dd acc l ↔ k ∈ acc ∨ k ∈ l
  | [], acc, k => by simp [dd]
  | a :: r, acc, k => by
    simp only [dd]
    split
    · rename_i ha
      rw [mem_dd r acc k]
      constructor
      · rintro (h | h)
        · exact .inl h
        · exact .inr (List.mem_cons_of_mem _ h)
      · rintro (h | h)
        · exact .inl h
        · rcases List.mem_cons.1 h with rfl | h
          · exact .inl ha
          · exact .inr h
    · rw [mem_dd r _ k]; simp [or_assoc]

theorem filterMap_same {ks : List Nat} (h : ∀ k ∈ ks, m k = m' k) : ks.filterMap (alive m') = ks.filterMap (alive m) := by
  induction ks with
  | nil => rfl
  | cons a r ih =>
    have e : alive m' a = alive m a := by unfold alive; rw [h a (by simp)]
    simp only [List.filterMap_cons, e, ih fun k hk => h k (List.mem_cons_of_mem _ hk)]

theorem callR_same {d : Nat} {mu : Bool} {f : Nat} {vals : List (AV × Option Kd)} (hk : ∀ k ∈ (callR Γ d mu f vals m).mr, m k = m' k) : callR Γ d mu f vals m' = callR Γ d mu f vals m := by
  unfold callR at hk ⊢
  cases mu with
  | true =>
    simp only [if_true, List.mem_append] at hk ⊢
    have e1 : (vals.flatMap fun x => keysOf m' 3 x.1) = vals.flatMap fun x => keysOf m 3 x.1 := by
      have := flat_same (m := m) (m' := m') (f := 3) (l := vals.map (·.1)) (fun k hk' => hk k (.inr ((mem_dd _ _ _).2 (.inr (by rwa [List.flatMap_map] at hk')))))
      simpa only [List.flatMap_map] using this
    rw [e1]
    rw [filterMap_same (m := m) (m' := m') (ks := dd [] (vals.flatMap fun x => keysOf m 3 x.1)) fun k h => hk k (.inr h)]
    congr 1
    have e2 : ∀ L : List Cells, (∀ k ∈ L.mapIdx (fun j (_ : Cells) => fkey d j), m k = m' k) → (∀ j, j < L.length → m' (fkey d j) = none) = (∀ j, j < L.length → m (fkey d j) = none) := by
      intro L hL
      apply propext
      constructor <;> intro h j hj <;> have e := hL (fkey d j) (by rw [List.mem_mapIdx]; exact ⟨j, hj, rfl⟩)
      · rw [e]; exact h j hj
      · rw [← e]; exact h j hj
    rw [e2 _ fun k h => hk k (.inl h)]
  | false =>
    simp only [Bool.false_eq_true, if_false, List.mem_append] at hk ⊢
    have hv : ∀ x ∈ vals, ∀ k ∈ keysOf m 3 x.1, m k = m' k := fun x hx k h => hk k (.inr (List.mem_flatMap.2 ⟨x, hx, h⟩))
    have e1 : (vals.map fun x => coe x.2 (pur m' 3 x.1)) = vals.map fun x => coe x.2 (pur m 3 x.1) :=
      List.map_congr_left fun x hx => by rw [(pur_same 3 x.1 (hv x hx)).1]
    have e3 : (∀ x ∈ vals, purP m' 3 x.1) = (∀ x ∈ vals, purP m 3 x.1) := by
      apply propext
      constructor <;> intro h x hx <;> have e := (pur_same 3 x.1 (hv x hx)).2 <;> have := h x hx
      · rw [e]; exact this
      · rw [← e]; exact this
    have e4 : (vals.flatMap fun x => keysOf m' 3 x.1) = vals.flatMap fun x => keysOf m 3 x.1 := by
      have := flat_same (m := m) (m' := m') (f := 3) (l := vals.map (·.1)) (fun k hk' => hk k (.inr (by rwa [List.flatMap_map] at hk')))
      simpa only [List.flatMap_map] using this
    rw [e1, e3, e4]
    have e2 : ∀ L : List Cells, (∀ k ∈ L.mapIdx (fun j (_ : Cells) => fkey d j), m k = m' k) → (∀ j, j < L.length → m' (fkey d j) = none) = (∀ j, j < L.length → m (fkey d j) = none) := by
      intro L hL
      apply propext
      constructor <;> intro h j hj <;> have e := hL (fkey d j) (by rw [List.mem_mapIdx]; exact ⟨j, hj, rfl⟩)
      · rw [e]; exact h j hj
      · rw [← e]; exact h j hj
    rw [e2 _ fun k h => hk k (.inl h)]

def copyR (m : Nat → Option (Option Cells)) (k o l e : Nat) (vy : AV) : R :=
  match m k, content m .k8 vy, lenOf vy with
  | some (some c), some (p, cn, ks), some ly => match c.puts o (cn.part 0 (min ly l)) with
    | some c' => ⟨p ∧ e = 1 ∧ cn.esz = 1 ∧ c.has o (min ly l), .n (min ly l), [(k, some c')], k :: ks⟩
    | none => fail
  | _, _, _ => fail

theorem core_mem {tm : Tm} {d : Nat} {op : MOp} (hp : (core Γ d op tm m).pre) (hk : ∀ k ∈ (core Γ d op tm m).mr, m k = m' k) : core Γ d op tm m' = core Γ d op tm m := by
  have one : ∀ k, m k = m' k → m' k = m k := fun k h => h.symm
  cases op
  case call mu f args => exact callR_same hk
  case alloc z => simp only [core] at hk ⊢; rw [hk d (by simp)]
  case box x =>
    simp only [core] at hk ⊢
    cases hx : ev tm x <;> simp only [hx] at hk ⊢ <;> rw [hk d (by simp)]
  case load sz a =>
    simp only [core] at hk hp ⊢
    cases hx : ev tm a <;> simp only [hx] at hk hp ⊢
    rename_i k o
    have e : m k = m' k := by
      cases hm : m k with
      | none => simp [hm] at hp
      | some x => cases x with
        | none => simp [hm] at hp
        | some c => rw [← hm]; exact hk k (by simp [hm])
    rw [e]
  case store sz a x =>
    cases sz with
    | none =>
      simp only [core] at hk hp ⊢
      cases hx : ev tm a <;> simp only [hx] at hk hp ⊢
      rename_i k o
      have e : m k = m' k := by
        cases hm : m k with
        | none => simp [hm] at hp
        | some x => cases x with
          | none => simp [hm] at hp
          | some c =>
            rw [← hm]; refine hk k ?_
            simp only [hm]
            split <;> simp
      rw [e]
    | some sz =>
      simp only [core] at hk hp ⊢
      cases hx : ev tm a <;> cases hy : ev tm x <;> simp only [hx, hy] at hk hp ⊢
      rename_i k o c'
      have e : m k = m' k := by
        cases hm : m k with
        | none => simp [hm] at hp
        | some x => cases x with
          | none => simp [hm] at hp
          | some c =>
            rw [← hm]; refine hk k ?_
            simp only [hm]
            split <;> simp
      rw [e]
  case b2s x =>
    simp only [core] at hk hp ⊢
    have key : ∀ v, (match content m .k8 v with | some (p, Cells.b8 l, ks) => (⟨p, .str l, [], ks⟩ : R) | _ => fail).pre → (∀ k ∈ (match content m .k8 v with | some (p, Cells.b8 l, ks) => (⟨p, .str l, [], ks⟩ : R) | _ => fail).mr, m k = m' k) →
        (match content m' .k8 v with | some (p, Cells.b8 l, ks) => (⟨p, .str l, [], ks⟩ : R) | _ => fail) = (match content m .k8 v with | some (p, Cells.b8 l, ks) => (⟨p, .str l, [], ks⟩ : R) | _ => fail) := by
      intro v hp hk
      cases hc : content m .k8 v with
      | none => simp [hc, fail] at hp
      | some x =>
        obtain ⟨p, c, ks⟩ := x
        cases c <;> simp only [hc, fail] at hp hk
        rename_i l
        rw [content_same hc hk]
    cases hx : ev tm x <;> simp only [hx] at hk hp ⊢ <;> first | rfl | exact key _ hp hk
  case cvs x =>
    simp only [core] at hk hp ⊢
    cases hx : ev tm x <;> simp only [hx] at hk hp ⊢
    rename_i k o l e
    have e : m k = m' k := by
      cases hm : m k with
      | none => simp [hm, fail] at hp
      | some y => cases y with
        | none => simp [hm, fail] at hp
        | some c =>
          cases c <;> simp only [hm, fail] at hp hk
          rw [← hm]; exact hk k (by simp)
    rw [e]
  case bsl kd xs =>
    simp only [core] at hk hp ⊢
    cases hc : tyC kd (xs.map (ev tm)) <;> simp only [hc] at hk hp ⊢
    rw [hk d (by simp)]
  case mk kd z b l c =>
    simp only [core] at hk hp ⊢
    cases hl : ixN (ev tm l) <;> cases hc : ixN (ev tm c) <;> simp only [hl, hc] at hk hp ⊢
    rw [hk d (by simp)]
  case slcA n e x lo hi =>
    simp only [core] at hk hp ⊢
    cases hb : bnds tm lo hi n with
    | none => rfl
    | some y =>
      simp only [hb] at hk hp ⊢
      cases hx : ev tm x <;> simp only [hx] at hk hp ⊢
      rename_i k o
      have e : m k = m' k := by
        cases hm : m k with
        | none => simp [hm, fail] at hp
        | some x => cases x with
          | none => simp [hm, fail] at hp
          | some c => rw [← hm]; exact hk k (by simp [hm])
      rw [e]
  case copy x y =>
    simp only [core] at hk hp ⊢
    have key : ∀ vy k o l e, (copyR m k o l e vy).pre → (∀ k' ∈ (copyR m k o l e vy).mr, m k' = m' k') → copyR m' k o l e vy = copyR m k o l e vy := by
      intro vy k o l e hp hk
      unfold copyR at hp hk ⊢
      cases hm : m k with
      | none => simp [hm, fail] at hp
      | some x => cases x with
        | none => simp [hm, fail] at hp
        | some c =>
          cases hc : content m .k8 vy with
          | none => simp [hm, hc, fail] at hp
          | some y =>
            obtain ⟨p, cn, ks⟩ := y
            cases hl : lenOf vy with
            | none => simp [hm, hc, hl, fail] at hp
            | some ly =>
              simp only [hm, hc, hl] at hp hk
              cases hq : c.puts o (cn.part 0 (min ly l)) with
              | none => simp [hq, fail] at hp
              | some c' =>
                simp only [hq] at hk
                rw [content_same hc (fun k' h' => hk k' (List.mem_cons_of_mem _ h')), ← hk k (by simp), hm]
    cases hy : ev tm y <;> cases hx : ev tm x <;> simp only [hx, hy] at hk hp ⊢
    all_goals first
      | rfl
      | exact key _ _ _ _ _ hp hk
  case app kd z b s x =>
    simp only [core] at hk hp ⊢
    cases hx : ev tm x <;> simp only [hx] at hk hp ⊢ <;> first | rfl | exact appR_same hp hk (fun y hy h => content_same (p := y.1) (c := y.2.1) (ks := y.2.2) hy h)
  case appz kd z b s x =>
    simp only [core] at hk hp ⊢
    cases hx : ixN (ev tm x) <;> simp only [hx] at hk hp ⊢
    rw [appR_same hp.2.2 hk (fun y hy h => hy)]
  all_goals simp only [core]
end
end Go.Vc

/-! Vc6 -/
set_option linter.unusedVariables false
set_option linter.unusedSimpArgs false
namespace Go.Vc

inductive Ex where | normal | exit (id : Nat) | ret
def Ex.to : Ex → Exit
  | .normal => .normal
  | .exit id => .exit id
  | .ret => .ret

/-- what comes behind: y where all is normal -/
def Ex.then_ (K : St → Prop) (Q : Ex → St → Prop) : Ex → St → Prop
  | .normal, s => K s
  | .exit id, s => Q (.exit id) s
  | .ret, s => Q .ret s
def Ex.blk (id : Nat) (Q : Ex → St → Prop) : Ex → St → Prop
  | .normal, s => Q .normal s
  | .exit id', s => if id' = id then Q .normal s else Q (.exit id') s
  | .ret, s => Q .ret s

def vc (Γ : Ctr) (pf : Prop) : MC → (Ex → St → Prop) → St → Prop
  | .skip, Q, s => Q .normal s
  | .region _ ops false live, Q, s => vcOps Γ ops s fun s' => Q .normal ⟨keep live s'.tm, s'.me⟩
  | .region _ ops true live, Q, s => vcOpsD Γ ops [] s fun s' => Q .normal ⟨keep live s'.tm, s'.me⟩
  | .seq a b, Q, s => vc Γ pf a (Ex.then_ (fun s' => vc Γ pf b Q s') Q) s
  | .cond c x y, Q, s => match ev s.tm c with
    | .bool b => (b = true → vc Γ pf x Q s) ∧ (b = false → vc Γ pf y Q s)
    | _ => False
  | .block id b, Q, s => vc Γ pf b (Ex.blk id Q) s
  | .loop b, Q, s => ∃ (ι : Type) (G : ι → Prop) (S : ι → St) (μ : ι → Nat) (i0 : ι) (ρ0 : Rho), G i0 ∧ LE pf ρ0 s (S i0) ∧
      ∀ i, G i → vc Γ pf b (Ex.then_ (fun s' => ∃ j ρ, G j ∧ μ j < μ i ∧ LE pf ρ s' (S j)) Q) (S i)
  | .exit id, Q, s => Q (.exit id) s
  | .ret, Q, s => Q .ret s
  | .bad, _, _ => False
  | .cut b, Q, s => ∃ (S : St) (ρ : Rho), LE pf ρ s S ∧ vc Γ pf b Q S

def guardOk (ops : Array Oper) : Option (Nat × Bool) → Option (Nat × Bool) → Bool
  | none, none => true
  | some (j, b), some (g, b') => b == b' && ((ops[j]?).bind (·.dst)) == some g
  | _, _ => false
section
variable {P : Program} {nt : Nat} {F : Fr} {s : St} {β : Bt} {a : Act} {w : World} {Q : Exit → Act → World → Prop} {Γ : Ctr}

/-- an operation that is right: it does what core says, or is passed over -/
structure OpRight (P : Program) (nt : Nat) (F : Fr) (Γ : Ctr) (ops : Array Oper) (o : Oper) (mo : MO) : Prop where
  dst : o.dst = mo.d
  guard : guardOk ops o.guard mo.g = true
  lt : ∀ d, mo.d = some d → d < nt
  run : ∀ (s : St) (β : Bt) (a : Act) (w : World) (Q : Exit → Act → World → Prop), Rep nt F s β a w → (core Γ (mo.d.getD 0) mo.op s.tm (mget s.me)).pre → Good P nt F s a w Q o (core Γ (mo.d.getD 0) mo.op s.tm (mget s.me))

theorem guard_yields (h : Rep nt F s β a w) {ops : Array Oper} {j g : Nat} (hj : (ops[j]?).bind (·.dst) = some g) (hg : g < nt) {v : AV} (hv : tget s.tm g = v) :
    (∀ b, v = .bool b → yielded ops a.tmps j = some b) ∧ (v = .und → yielded ops a.tmps j = none) := by
  have ht := h.tm g
  rw [hv] at ht
  have hlt : g < a.tmps.size := by rw [h.nt]; exact hg
  have e : a.tmps[g]? = some (a.tmps.getD g undef) := by simp [Array.getD, hlt]
  unfold yielded
  rw [hj]
  simp only [Option.bind_some, e]
  constructor
  · rintro b rfl
    generalize a.tmps.getD g undef = u at ht
    cases ht; rfl
  · rintro rfl
    generalize a.tmps.getD g undef = u at ht
    cases ht; rfl

theorem vcOps_sound {ops : Array Oper} {K : St → Prop} (hQ : ∀ s β a w, Rep nt F s β a w → K s → Q .normal a w) : ∀ (mos : List MO) (i : Nat) (s : St) (β : Bt) (a : Act) (w : World),
    (∀ k mo, mos[k]? = some mo → ∃ o, ops[i + k]? = some o ∧ OpRight P nt F Γ ops o mo) → (∀ mo ∈ mos, ∀ g b, mo.g = some (g, b) → g < nt) → vcOps Γ mos s K → Rep nt F s β a w → wpOps P ops Q (List.range' i mos.length) a w
  | [], i, s, β, a, w, _, _, hv, h => by simpa [wpOps] using hQ s β a w h hv
  | mo :: mos, i, s, β, a, w, hr, hgl, hv, h => by
    obtain ⟨o, ho, hor⟩ := hr 0 mo rfl
    simp only [Nat.add_zero] at ho
    have hr' : ∀ k mo', mos[k]? = some mo' → ∃ o, ops[i + 1 + k]? = some o ∧ OpRight P nt F Γ ops o mo' := by
      intro k mo' hk
      have := hr (k + 1) mo' (by simpa using hk)
      rwa [show i + (k + 1) = i + 1 + k by omega] at this
    have hgl' : ∀ mo' ∈ mos, ∀ g b, mo'.g = some (g, b) → g < nt := fun mo' hm => hgl mo' (List.mem_cons_of_mem _ hm)
    have ih := vcOps_sound (ops := ops) hQ mos (i + 1)
    rw [List.length_cons, List.range'_succ]
    simp only [wpOps, ho]
    have hd : ∀ t, o.dst = some t → t < nt := fun t ht => hor.lt t (by rw [← hor.dst]; exact ht)
    have go : Region.wanted o (yielded ops a.tmps) = true → (core Γ (mo.d.getD 0) mo.op s.tm (mget s.me)).pre →
        vcOps Γ mos ⟨setT s.tm mo.d (core Γ (mo.d.getD 0) mo.op s.tm (mget s.me)).v, msets s.me (core Γ (mo.d.getD 0) mo.op s.tm (mget s.me)).mw⟩ K →
        (if Region.wanted o (yielded ops a.tmps) = true then o.wp P a w (wpOps P ops Q (List.range' (i + 1) mos.length)) Q ∨ (o.asks P a w ∧ LetsOut Q) else wpOps P ops Q (List.range' (i + 1) mos.length) (a.put o.dst undef) w) := by
      intro hw hp hk
      rw [if_pos hw]
      left
      have := hor.run s β a w Q h hp
      unfold Good at this
      rw [hor.dst] at this
      exact Oper.wp_mono (fun a' w' ⟨β', hrep⟩ => ih _ β' a' w' hr' hgl' hk hrep) this
    have pass : Region.wanted o (yielded ops a.tmps) = false → vcOps Γ mos ⟨setT s.tm mo.d .und, s.me⟩ K →
        (if Region.wanted o (yielded ops a.tmps) = true then o.wp P a w (wpOps P ops Q (List.range' (i + 1) mos.length)) Q ∨ (o.asks P a w ∧ LetsOut Q) else wpOps P ops Q (List.range' (i + 1) mos.length) (a.put o.dst undef) w) := by
      intro hw hk
      rw [if_neg (by rw [hw]; simp)]
      have hput := h.put (d := o.dst) hd (av := .und) (v := undef) .und
      rw [hor.dst] at hput ⊢
      exact ih _ β _ w hr' hgl' hk hput
    have hgd := hor.guard
    simp only [vcOps] at hv
    cases hg : mo.g with
    | none =>
      rw [hg] at hv hgd
      cases hog : o.guard with
      | some x => rw [hog] at hgd; simp [guardOk] at hgd
      | none => exact go (by simp [Region.wanted, hog]) hv.1 hv.2
    | some gw =>
      obtain ⟨g, want⟩ := gw
      rw [hg] at hv hgd
      cases hog : o.guard with
      | none => rw [hog] at hgd; simp [guardOk] at hgd
      | some x =>
        obtain ⟨j, b'⟩ := x
        rw [hog] at hgd
        simp only [guardOk, Bool.and_eq_true, beq_iff_eq] at hgd
        obtain ⟨rfl, hj⟩ := hgd
        have hgn := hgl mo (List.mem_cons_self ..) g b' hg
        obtain ⟨y1, y2⟩ := guard_yields h hj hgn rfl
        simp only at hv
        cases hvg : tget s.tm g <;> rw [hvg] at hv y1 y2 <;> simp only at hv
        case bool b =>
          have hy := y1 b rfl
          by_cases hb : b = b'
          · exact go (by simp [Region.wanted, hog, hy, hb]) (hv.1 hb).1 (hv.1 hb).2
          · exact pass (by simp [Region.wanted, hog, hy, hb]) (hv.2 hb)
        case und => exact pass (by simp [Region.wanted, hog, y2 rfl]) hv

theorem Rep.keep (h : Rep nt F s β a w) (live : List Nat) : Rep nt F ⟨keep live s.tm, s.me⟩ β a w := by
  refine ⟨h.nt, h.df, fun t => ?_, h.mr⟩
  have : tget (Vc.keep live s.tm) t = tget s.tm t ∨ tget (Vc.keep live s.tm) t = .any := by
    unfold Vc.keep
    induction live with
    | nil => exact .inr rfl
    | cons x r ih =>
      simp only [List.map_cons, tget]
      by_cases e : x = t
      · rw [if_pos e, e]; exact .inl rfl
      · rw [if_neg e]; exact ih
  rcases this with e | e
  · simp only [e]; exact h.tm t
  · simp only [e]; exact .any

theorem wp_loop_n {c : Code} (I : Nat → Act → World → Prop) (n : Nat) (h₀ : I n a w) (round : ∀ n a w, I n a w → c.wp P (Exit.then (fun a' w' => ∃ m, m < n ∧ I m a' w') Q) a w) : (Code.loop c).wp P Q a w := by
  intro b k cs
  have key : ∀ n a w, I n a w → ∃ e a' w', Q e a' w' ∧ Arrives P (lone (b.at a (.code c :: .inLoop c :: k)) cs w) b k cs e a' w' := by
    intro n
    induction n using Nat.strongRecOn with
    | _ n ih =>
      intro a w hI
      obtain ⟨e, a₁, w₁, hq, harr⟩ := round n a w hI b (.inLoop c :: k) cs
      cases e with
      | normal =>
        obtain ⟨m, hlt, hI₁⟩ := hq
        obtain ⟨e₂, a₂, w₂, hq₂, harr₂⟩ := ih m hlt a₁ w₁ hI₁
        exact ⟨e₂, a₂, w₂, hq₂, .of_steps (Steps.trans harr (.one step_inLoop)) harr₂⟩
      | exit id => exact ⟨_, a₁, w₁, hq, .pass (x := .inLoop c) rfl (fun _ _ => .inl (by simp)) harr⟩
      | goto l => exact ⟨_, a₁, w₁, hq, .pass (x := .inLoop c) rfl (fun _ _ => .inl (by simp)) harr⟩
      | ret => exact ⟨_, a₁, w₁, hq, .pass (x := .inLoop c) rfl (fun _ _ => .inl (by simp)) harr⟩
      | panic ch => exact ⟨_, a₁, w₁, hq, .pass (x := .inLoop c) rfl (fun _ _ => .inl (by simp)) harr⟩
      | outgrown => exact ⟨_, a₁, w₁, hq, .pass (x := .inLoop c) rfl (fun _ _ => .inl (by simp)) harr⟩
  obtain ⟨e, a', w', hq, harr⟩ := key n a w h₀
  exact ⟨e, a', w', hq, .of_steps (.one step_loop) harr⟩
end
end Go.Vc

/-! Vc6d -/
set_option linter.unusedVariables false
set_option linter.unusedSimpArgs false
namespace Go.Vc

def upd1 (s : St) (d : Option Nat) (r : R) : St := ⟨setT s.tm d r.v, msets s.me r.mw⟩
/-- an operation, its guard looked at -/
def stepR (Γ : Ctr) (mo : MO) (s : St) : R :=
  match mo.g with
  | none => core Γ (mo.d.getD 0) mo.op s.tm (mget s.me)
  | some (g, want) => match tget s.tm g with
    | .bool b => if b = want then core Γ (mo.d.getD 0) mo.op s.tm (mget s.me) else okv True .und
    | .und => okv True .und
    | _ => fail
def gsl : Option (Nat × Bool) → List Nat
  | some (g, _) => [g]
  | none => []
/-- the slots that it looks at, guard and all -/
def MO.looks (mo : MO) : List Nat := gsl mo.g ++ mo.op.looks

section
variable {P : Program} {nt : Nat} {F : Fr} {s : St} {β : Bt} {a : Act} {w : World} {Q : Exit → Act → World → Prop} {Γ : Ctr}

theorem stepR_same {mo : MO} {s s' : St} (ht : ∀ t ∈ mo.looks, tget s.tm t = tget s'.tm t) (hp : (stepR Γ mo s).pre) (hk : ∀ k ∈ (stepR Γ mo s).mr, mget s.me k = mget s'.me k) : stepR Γ mo s' = stepR Γ mo s := by
  have hc : (core Γ (mo.d.getD 0) mo.op s.tm (mget s.me)).pre → (∀ k ∈ (core Γ (mo.d.getD 0) mo.op s.tm (mget s.me)).mr, mget s.me k = mget s'.me k) → core Γ (mo.d.getD 0) mo.op s'.tm (mget s'.me) = core Γ (mo.d.getD 0) mo.op s.tm (mget s.me) := by
    intro h1 h2
    rw [← core_slots (tm := s.tm) (tm' := s'.tm) fun t h => ht t (List.mem_append.2 (.inr h))]
    exact core_mem h1 h2
  unfold stepR at hp hk ⊢
  cases hg : mo.g with
  | none => rw [hg] at hp hk; exact hc hp hk
  | some gw =>
    obtain ⟨g, want⟩ := gw
    rw [hg] at hp hk
    have e := ht g (List.mem_append.2 (.inl (by simp [gsl, hg])))
    simp only at hp hk ⊢
    rw [← e]
    cases hv : tget s.tm g <;> simp only [hv] at hp hk ⊢
    rename_i b
    by_cases hb : b = want
    · simp only [if_pos hb] at hp hk ⊢; exact hc hp hk
    · simp only [if_neg hb]

theorem wpOp_step {ops : Array Oper} {i : Nat} {o : Oper} {mo : MO} (ho : ops[i]? = some o) (hor : OpRight P nt F Γ ops o mo) (hgl : ∀ g b, mo.g = some (g, b) → g < nt) (h : Rep nt F s β a w) (hp : (stepR Γ mo s).pre) {K : Act → World → Prop}
    (hK : ∀ β' a' w', Rep nt F (upd1 s mo.d (stepR Γ mo s)) β' a' w' → K a' w') : wpOp P ops Q i K a w := by
  unfold wpOp
  rw [ho]
  simp only
  have hd : ∀ t, o.dst = some t → t < nt := fun t ht => hor.lt t (by rw [← hor.dst]; exact ht)
  have go : Region.wanted o (yielded ops a.tmps) = true → stepR Γ mo s = core Γ (mo.d.getD 0) mo.op s.tm (mget s.me) →
      (if Region.wanted o (yielded ops a.tmps) = true then o.wp P a w K Q ∨ (o.asks P a w ∧ LetsOut Q) else K (a.put o.dst undef) w) := by
    intro hw e
    rw [if_pos hw]
    left
    rw [e] at hp hK
    have := hor.run s β a w Q h hp
    unfold Good at this
    rw [hor.dst] at this
    exact Oper.wp_mono (fun a' w' ⟨β', hrep⟩ => hK β' a' w' hrep) this
  have pass : Region.wanted o (yielded ops a.tmps) = false → stepR Γ mo s = okv True .und →
      (if Region.wanted o (yielded ops a.tmps) = true then o.wp P a w K Q ∨ (o.asks P a w ∧ LetsOut Q) else K (a.put o.dst undef) w) := by
    intro hw e
    rw [if_neg (by rw [hw]; simp)]
    have hput := h.put (d := o.dst) hd (av := .und) (v := undef) .und
    rw [e] at hK
    rw [hor.dst] at hput ⊢
    exact hK β _ _ hput
  have hgd := hor.guard
  cases hg : mo.g with
  | none =>
    rw [hg] at hgd
    cases hog : o.guard with
    | some x => rw [hog] at hgd; simp [guardOk] at hgd
    | none => exact go (by simp [Region.wanted, hog]) (by simp [stepR, hg])
  | some gw =>
    obtain ⟨g, want⟩ := gw
    rw [hg] at hgd
    cases hog : o.guard with
    | none => rw [hog] at hgd; simp [guardOk] at hgd
    | some x =>
      obtain ⟨j, b'⟩ := x
      rw [hog] at hgd
      simp only [guardOk, Bool.and_eq_true, beq_iff_eq] at hgd
      obtain ⟨rfl, hj⟩ := hgd
      have hgn := hgl g b' hg
      obtain ⟨y1, y2⟩ := guard_yields h hj hgn rfl
      cases hvg : tget s.tm g <;> simp only [stepR, hg, hvg, fail] at hp <;> rw [hvg] at y1 y2
      case bool b =>
        have hy := y1 b rfl
        by_cases hb : b = b'
        · exact go (by simp [Region.wanted, hog, hy, hb]) (by simp [stepR, hg, hvg, hb])
        · exact pass (by simp [Region.wanted, hog, hy, hb]) (by simp [stepR, hg, hvg, hb])
      case und => exact pass (by simp [Region.wanted, hog, y2 rfl]) (by simp [stepR, hg, hvg])

/-- the text's own states -/
def T (Γ : Ctr) (mo : Nat → MO) (s0 : St) : Nat → St
  | 0 => s0
  | n + 1 => upd1 (T Γ mo s0 n) (mo n).d (stepR Γ (mo n) (T Γ mo s0 n))
def E (Γ : Ctr) (mo : Nat → MO) (s0 : St) (i : Nat) : R := stepR Γ (mo i) (T Γ mo s0 i)
/-- the state where the operations in D are done -/
def SD (Γ : Ctr) (mo : Nat → MO) (s0 : St) (D : Nat → Bool) : Nat → St
  | 0 => s0
  | n + 1 => if D n = true then upd1 (SD Γ mo s0 D n) (mo n).d (E Γ mo s0 n) else SD Γ mo s0 D n

variable {mo : Nat → MO} {s0 : St} {D D' : Nat → Bool}

theorem T_SD : ∀ n, SD Γ mo s0 (fun _ => true) n = T Γ mo s0 n
  | 0 => rfl
  | n + 1 => by simp only [SD, if_true, T, T_SD n]; rfl
theorem SD_ext : ∀ n, (∀ j, j < n → D j = D' j) → SD Γ mo s0 D n = SD Γ mo s0 D' n
  | 0, _ => rfl
  | n + 1, h => by simp only [SD, h n (by omega), SD_ext n fun j hj => h j (by omega)]
theorem SD_more : ∀ m i, (∀ j, i ≤ j → D j = false) → SD Γ mo s0 D (i + m) = SD Γ mo s0 D i
  | 0, i, _ => rfl
  | m + 1, i, h => by rw [← Nat.add_assoc, SD, if_neg (by rw [h (i + m) (by omega)]; simp), SD_more m i h]

theorem tget_setT (tm : Tm) (d : Option Nat) (v : AV) (x : Nat) : tget (setT tm d v) x = if d = some x then v else tget tm x := by
  cases d with
  | none => simp [setT]
  | some d => simp only [setT, tget, Option.some.injEq]
theorem mget_msets_ne : ∀ (W m : Me) (k : Nat), k ∉ W.map (·.1) → mget (msets m W) k = mget m k
  | [], m, k, _ => rfl
  | (k0, c0) :: r, m, k, h => by
    simp only [List.map_cons, List.mem_cons, not_or] at h
    rw [msets, mget_msets_ne r _ k h.2, mget_mset, if_neg h.1]
theorem mget_msets_congr : ∀ (W m m' : Me) (k : Nat), mget m k = mget m' k → mget (msets m W) k = mget (msets m' W) k
  | [], m, m', k, h => h
  | (k0, c0) :: r, m, m', k, h => by
    rw [msets, msets]
    exact mget_msets_congr r _ _ k (by rw [mget_mset, mget_mset, h])
theorem mget_msets_in : ∀ (W m m' : Me) (k : Nat), k ∈ W.map (·.1) → mget (msets m W) k = mget (msets m' W) k
  | [], m, m', k, h => by simp at h
  | (k0, c0) :: r, m, m', k, h => by
    rw [msets, msets]
    by_cases e : k = k0
    · exact mget_msets_congr r _ _ k (by rw [mget_mset, mget_mset, if_pos e, if_pos e])
    · exact mget_msets_in r _ _ k (by simpa [e] using h)

theorem tget_SD (x : Nat) : ∀ n, (∀ j, j < n → (mo j).d = some x → D j = D' j) → tget (SD Γ mo s0 D n).tm x = tget (SD Γ mo s0 D' n).tm x
  | 0, _ => rfl
  | n + 1, h => by
    have ih := tget_SD x n fun j hj => h j (by omega)
    by_cases hd : (mo n).d = some x
    · have e := h n (by omega) hd
      simp only [SD, ← e]
      split
      · simp only [upd1, tget_setT, hd, if_true]
      · exact ih
    · have key : ∀ D : Nat → Bool, tget (SD Γ mo s0 D (n + 1)).tm x = tget (SD Γ mo s0 D n).tm x := by
        intro D
        simp only [SD]
        split
        · simp only [upd1, tget_setT, hd, if_false]
        · rfl
      rw [key, key, ih]
theorem mget_SD (k : Nat) : ∀ n, (∀ j, j < n → k ∈ (E Γ mo s0 j).mw.map (·.1) → D j = D' j) → mget (SD Γ mo s0 D n).me k = mget (SD Γ mo s0 D' n).me k
  | 0, _ => rfl
  | n + 1, h => by
    have ih := mget_SD k n fun j hj => h j (by omega)
    by_cases hd : k ∈ (E Γ mo s0 n).mw.map (·.1)
    · have e := h n (by omega) hd
      simp only [SD, ← e]
      split
      · exact mget_msets_in _ _ _ k hd
      · exact ih
    · have key : ∀ D : Nat → Bool, mget (SD Γ mo s0 D (n + 1)).me k = mget (SD Γ mo s0 D n).me k := by
        intro D
        simp only [SD]
        split
        · exact mget_msets_ne _ _ k hd
        · rfl
      rw [key, key, ih]

def addD (D : Nat → Bool) (i : Nat) : Nat → Bool := fun j => D j || j == i

/-- what two unordered operations must not have in common -/
structure Apart (Γ : Ctr) (mo : Nat → MO) (s0 : St) (i j : Nat) : Prop where
  d1 : ∀ x, (mo i).d = some x → x ∉ (mo j).looks ∧ (mo j).d ≠ some x
  d2 : ∀ x, (mo j).d = some x → x ∉ (mo i).looks
  k1 : ∀ k ∈ (E Γ mo s0 i).mw.map (·.1), k ∉ (E Γ mo s0 j).mr ∧ k ∉ (E Γ mo s0 j).mw.map (·.1)
  k2 : ∀ k ∈ (E Γ mo s0 j).mw.map (·.1), k ∉ (E Γ mo s0 i).mr

theorem Apart.symm {i j : Nat} (h : Apart Γ mo s0 i j) : Apart Γ mo s0 j i :=
  ⟨fun x hx => ⟨h.d2 x hx, fun e => (h.d1 x e).2 hx⟩, fun x hx => (h.d1 x hx).1, fun k hk => ⟨h.k2 k hk, fun e => (h.k1 k e).2 hk⟩, fun k hk => (h.k1 k hk).1⟩

/-- D is closed, i is next: what i meets is what the text's order has it meet -/
structure Next (Bf : Nat → Nat → Bool) (n : Nat) (D : Nat → Bool) (i : Nat) : Prop where
  lt : i < n
  no : D i = false
  rd : ∀ j, Bf i j = true → D j = true
  cl : ∀ j l, D j = true → Bf j l = true → D l = true

variable {Bf : Nat → Nat → Bool} {n : Nat}

theorem next_state (hap : ∀ i j, i < j → j < n → Bf j i = false → Apart Γ mo s0 i j) {i : Nat} (hN : Next Bf n D i) :
    (∀ x ∈ (mo i).looks, tget (T Γ mo s0 i).tm x = tget (SD Γ mo s0 D n).tm x) ∧ (∀ k ∈ (E Γ mo s0 i).mr, mget (T Γ mo s0 i).me k = mget (SD Γ mo s0 D n).me k) := by
  have e0 : SD Γ mo s0 (fun j => decide (j < i)) n = T Γ mo s0 i := by
    have h := hN.lt
    rw [show n = i + (n - i) by omega, SD_more (n - i) i (fun j hj => by simp; omega), ← T_SD i]
    exact SD_ext i fun j hj => by simp [hj]
  have key : ∀ j, j < n → j ≠ i → (decide (j < i) = D j) ∨ (Apart Γ mo s0 i j) := by
    intro j hj hne
    by_cases hlt : j < i
    · cases hb : Bf i j with
      | true => left; rw [hN.rd j hb]; simp [hlt]
      | false => exact .inr (hap j i hlt hN.lt hb).symm
    · cases hb : Bf j i with
      | true =>
        left
        cases hd : D j with
        | true => have := hN.cl j i hd hb; rw [hN.no] at this; cases this
        | false => simp [hlt]
      | false => exact .inr (hap i j (by omega) hj hb)
  rw [← e0]
  constructor
  · intro x hx
    refine tget_SD x n fun j hj hd => ?_
    by_cases hji : j = i
    · subst hji; simp [hN.no]
    · rcases key j hj hji with e | e
      · exact e
      · exact absurd hx (e.d2 x hd)
  · intro k hk
    refine mget_SD k n fun j hj hd => ?_
    by_cases hji : j = i
    · subst hji; simp [hN.no]
    · rcases key j hj hji with e | e
      · exact e
      · exact absurd hk (e.k2 k hd)

theorem next_upd (hap : ∀ i j, i < j → j < n → Bf j i = false → Apart Γ mo s0 i j) {i : Nat} (hN : Next Bf n D i) :
    (∀ x, tget (upd1 (SD Γ mo s0 D n) (mo i).d (E Γ mo s0 i)).tm x = tget (SD Γ mo s0 (addD D i) n).tm x) ∧ (∀ k, mget (upd1 (SD Γ mo s0 D n) (mo i).d (E Γ mo s0 i)).me k = mget (SD Γ mo s0 (addD D i) n).me k) := by
  have hi := hN.lt
  -- the state, with nothing behind i
  have hle : SD Γ mo s0 (fun j => addD D i j && decide (j ≤ i)) n = upd1 (SD Γ mo s0 D i) (mo i).d (E Γ mo s0 i) := by
    rw [show n = i + 1 + (n - (i + 1)) by omega, SD_more (n - (i + 1)) (i + 1) (fun j hj => by simp; omega)]
    rw [SD, if_pos (by simp [addD])]
    rw [SD_ext (D := fun j => addD D i j && decide (j ≤ i)) (D' := D) i fun j hj => by
      have h1 : j ≠ i := by omega
      have h2 : j ≤ i := by omega
      simp [addD, h1, h2]]
  have hlo : SD Γ mo s0 (fun j => D j && decide (j < i)) n = SD Γ mo s0 D i := by
    rw [show n = i + (n - i) by omega, SD_more (n - i) i (fun j hj => by simp; intro _; omega)]
    exact SD_ext i fun j hj => by simp [hj]
  have late : ∀ j, j < n → i < j → D j = true → Apart Γ mo s0 i j := by
    intro j hj hij hd
    cases hb : Bf j i with
    | true => have := hN.cl j i hd hb; rw [hN.no] at this; cases this
    | false => exact hap i j hij hj hb
  constructor
  · intro x
    by_cases hd : (mo i).d = some x
    · rw [tget_SD (D := addD D i) (D' := fun j => addD D i j && decide (j ≤ i)) x n]
      · rw [hle]; simp only [upd1, tget_setT, hd, if_true]
      · intro j hj hdj
        by_cases hij : j ≤ i
        · simp [hij]
        · cases hD : D j with
          | false => have : j ≠ i := by omega
                     simp [addD, hD, this]
          | true => exact absurd hdj ((late j hj (by omega) hD).d1 x hd).2
    · simp only [upd1, tget_setT, hd, if_false]
      exact tget_SD x n fun j hj hdj => by
        have : j ≠ i := by rintro rfl; exact hd hdj
        simp [addD, this]
  · intro k
    by_cases hd : k ∈ (E Γ mo s0 i).mw.map (·.1)
    · rw [mget_SD (D := addD D i) (D' := fun j => addD D i j && decide (j ≤ i)) k n]
      · rw [hle]; exact mget_msets_in _ _ _ k hd
      · intro j hj hdj
        by_cases hij : j ≤ i
        · simp [hij]
        · cases hD : D j with
          | false => have : j ≠ i := by omega
                     simp [addD, hD, this]
          | true => exact absurd hdj ((late j hj (by omega) hD).k1 k hd).2
    · have e : mget (upd1 (SD Γ mo s0 D n) (mo i).d (E Γ mo s0 i)).me k = mget (SD Γ mo s0 D n).me k := mget_msets_ne _ _ k hd
      rw [e]
      exact mget_SD k n fun j hj hdj => by
        have : j ≠ i := by rintro rfl; exact hd hdj
        simp [addD, this]

def undone (D : Nat → Bool) : Nat → Nat
  | 0 => 0
  | n + 1 => undone D n + if D n = true then 0 else 1
theorem undone_ext : ∀ n, (∀ j, j < n → D j = D' j) → undone D n = undone D' n
  | 0, _ => rfl
  | n + 1, h => by simp only [undone, h n (by omega), undone_ext n fun j hj => h j (by omega)]
theorem undone_add {i : Nat} (hi : D i = false) : ∀ n, i < n → undone (addD D i) n + 1 = undone D n
  | n + 1, h => by
    simp only [undone]
    by_cases e : i = n
    · subst e
      rw [undone_ext (D := addD D i) (D' := D) i fun j hj => by
        have h1 : j ≠ i := by omega
        simp [addD, h1]]
      simp [addD, hi]
    · have := undone_add hi n (by omega)
      have e2 : addD D i n = D n := by have : n ≠ i := by omega
                                       simp [addD, this]
      rw [e2]; omega
theorem undone_zero : ∀ n, undone D n = 0 → ∀ j, j < n → D j = true
  | n + 1, h, j, hj => by
    simp only [undone] at h
    by_cases e : j = n
    · subst e
      cases hd : D j with
      | true => rfl
      | false => simp [hd] at h
    · exact undone_zero n (by omega) j (by omega)

theorem any_sound {ops : Array Oper} {K : St → Prop} (hQ : ∀ s β a w, Rep nt F s β a w → K s → Q .normal a w) (hn : ops.size = n)
    (hright : ∀ i, i < n → ∃ o, ops[i]? = some o ∧ OpRight P nt F Γ ops o (mo i) ∧ (∀ e, e ∈ (mo i).aft ↔ ∃ x ∈ o.after, Region.binds .any x = true ∧ x.on = e))
    (hgl : ∀ i, i < n → ∀ g b, (mo i).g = some (g, b) → g < nt)
    (hlt : ∀ i, i < n → ∀ e ∈ (mo i).aft, e < i)
    (hBf : ∀ i j, Bf i j = true → i < n ∧ ∃ e ∈ (mo i).aft, e = j ∨ Bf e j = true)
    (hap : ∀ i j, i < j → j < n → Bf j i = false → Apart Γ mo s0 i j) (hpre : ∀ i, i < n → (E Γ mo s0 i).pre) (hK : K (T Γ mo s0 n)) :
    ∀ (fuel : Nat) (listed : Array Bool) (D : Nat → Bool) (β : Bt) (a : Act) (w : World), (∀ i, i < n → listed[i]? = some (D i)) → undone D n = fuel →
      (∀ j, j < n → D j = true → ∀ e ∈ (mo j).aft, D e = true) → (∀ j, D j = true → j < n) → Rep nt F (SD Γ mo s0 D n) β a w → wpAny P .any ops Q fuel listed a w := by
  have ready0 : ∀ (listed : Array Bool) (D : Nat → Bool), (∀ i, i < n → listed[i]? = some (D i)) → (∀ j, j < n → D j = true) → Region.ready .any ops listed = [] := by
    intro listed D hl hD
    rw [List.eq_nil_iff_forall_not_mem]
    intro j hj
    rw [mem_ready] at hj
    obtain ⟨h0, o, ho, _⟩ := hj
    have hjn : j < n := by rw [← hn]; exact (Array.getElem?_eq_some_iff.1 ho).1
    have := hl j hjn
    simp [this, hD j hjn] at h0
  have fin : ∀ (D : Nat → Bool) (β : Bt) (a : Act) (w : World), (∀ j, j < n → D j = true) → Rep nt F (SD Γ mo s0 D n) β a w → Q .normal a w := by
    intro D β a w hD hr
    rw [SD_ext (D' := fun _ => true) n fun j hj => hD j hj, T_SD] at hr
    exact hQ _ _ _ _ hr hK
  intro fuel
  induction fuel with
  | zero =>
    intro listed D β a w hl hc hcl hDn hr
    exact ⟨ready0 listed D hl (undone_zero n hc), fin D β a w (undone_zero n hc) hr⟩
  | succ fuel ih =>
    intro listed D β a w hl hc hcl hDn hr
    refine ⟨fun hnil => fin D β a w ?_ hr, fun i hi => ?_⟩
    · intro j
      induction j using Nat.strongRecOn with
      | _ j ihj =>
        intro hj
        cases hd : D j with
        | true => rfl
        | false =>
          exfalso
          obtain ⟨o, ho, _, haft⟩ := hright j hj
          have : j ∈ Region.ready .any ops listed := by
            rw [mem_ready]
            refine ⟨by simp [hl j hj, hd], o, ho, fun x hx hb => ?_⟩
            have hm := (haft x.on).2 ⟨x, hx, hb, rfl⟩
            have hlt' := hlt j hj _ hm
            simp [hl x.on (by omega), ihj x.on hlt' (by omega)]
          rw [hnil] at this
          cases this
    · rw [mem_ready] at hi
      obtain ⟨h0, o, ho, hall⟩ := hi
      have hin : i < n := by rw [← hn]; exact (Array.getElem?_eq_some_iff.1 ho).1
      obtain ⟨o', ho', hor, haft⟩ := hright i hin
      rw [ho] at ho'
      cases ho'
      have hno : D i = false := by
        have := hl i hin
        simpa [this] using h0
      have haf : ∀ e ∈ (mo i).aft, D e = true := by
        intro e he
        obtain ⟨x, hx, hb, rfl⟩ := (haft e).1 he
        have h1 := hall x hx hb
        have hlt' := hlt i hin _ he
        simpa [hl x.on (by omega)] using h1
      have hcl' : ∀ l j, Bf j l = true → D j = true → D l = true := by
        intro l j
        induction j using Nat.strongRecOn with
        | _ j ihj =>
          intro hb hd
          obtain ⟨hjn, e, he, h⟩ := hBf j l hb
          have hde := hcl j hjn hd e he
          rcases h with rfl | h
          · exact hde
          · exact ihj e (hlt j hjn e he) h hde
      have hN : Next Bf n D i := ⟨hin, hno, fun j hb => by
        obtain ⟨_, e, he, h⟩ := hBf i j hb
        rcases h with rfl | h
        · exact haf e he
        · exact hcl' j e h (haf e he), fun j l hd hb => hcl' l j hb hd⟩
      obtain ⟨st, sk⟩ := next_state hap hN
      have hE : stepR Γ (mo i) (SD Γ mo s0 D n) = E Γ mo s0 i := stepR_same (s := T Γ mo s0 i) st (hpre i hin) sk
      refine wpOp_step ho hor (hgl i hin) hr (by rw [hE]; exact hpre i hin) fun β' a' w' hr' => ?_
      rw [hE] at hr'
      obtain ⟨u1, u2⟩ := next_upd hap hN
      refine ih _ (addD D i) β' a' w' (fun j hj => ?_) ?_ ?_ ?_ (Rep.congr (tm := (upd1 (SD Γ mo s0 D n) (mo i).d (E Γ mo s0 i)).tm) (me := (upd1 (SD Γ mo s0 D n) (mo i).d (E Γ mo s0 i)).me) hr' u1 u2)
      · rw [Array.getElem?_setIfInBounds]
        by_cases e : i = j
        · subst e
          have : i < listed.size := by
            have := hl i hin
            exact (Array.getElem?_eq_some_iff.1 this).1
          simp [this, addD]
        · rw [if_neg e, hl j hj]
          have : j ≠ i := fun h => e h.symm
          simp [addD, this]
      · have := undone_add hno n hin; omega
      · intro j hj hd e he
        by_cases hji : j = i
        · subst hji; simp [addD, haf e he]
        · have : D j = true := by simpa [addD, hji] using hd
          simp [addD, hcl j hj this e he]
      · intro j hd
        by_cases hji : j = i
        · subst hji; exact hin
        · exact hDn j (by simpa [addD, hji] using hd)
end
end Go.Vc

/-! Vc6e -/
set_option linter.unusedVariables false
set_option linter.unusedSimpArgs false
namespace Go.Vc

/-- 0: it looks at no memory; 1: it reads alone; 2: it may write -/
def MOp.cls : MOp → Nat
  | .load _ _ | .b2s _ | .slcA _ _ _ _ _ => 1
  | .cvs _ | .alloc _ | .box _ | .store _ _ _ | .bsl _ _ | .app _ _ _ _ _ | .appz _ _ _ _ _ | .copy _ _ | .mk _ _ _ _ _ | .call _ _ _ => 2
  | _ => 0
def quiet (x y : MOp) : Bool := x.cls == 0 || y.cls == 0 || (x.cls != 2 && y.cls != 2)
def notIn (d : Option Nat) (l : List Nat) : Bool := match d with
  | some x => !l.contains x
  | none => true
def apartS (x y : MO) : Bool := notIn x.d y.looks && notIn y.d x.looks && notIn x.d y.d.toList
def pair1 (x y : MO) (i : Nat) : Bool := y.bef.testBit i || (apartS x y && (y.sus.contains i || quiet x.op y.op))
def pairs (y : MO) : Nat → List MO → Bool
  | _, [] => true
  | i, x :: r => pair1 x y i && pairs y (i + 1) r
def befOk (done : List MO) (m : MO) : Bool := m.aft.all (fun e => decide (e < done.length)) && m.bef == m.aft.foldr (fun e r => (2 ^ e) ||| (((done[e]?).map MO.bef).getD 0 ||| r)) 0
def drawOk : List MO → List MO → Bool
  | _, [] => true
  | done, m :: r => befOk done m && pairs m 0 done && drawOk (done ++ [m]) r

theorem pairs_get {y : MO} : ∀ {l : List MO} {i0 : Nat}, pairs y i0 l = true → ∀ i x, l[i]? = some x → pair1 x y (i0 + i) = true
  | [], _, _, i, x, h => by simp at h
  | z :: r, i0, hp, i, x, h => by
    simp only [pairs, Bool.and_eq_true] at hp
    cases i with
    | zero => simp at h; subst h; exact hp.1
    | succ i => rw [show i0 + (i + 1) = i0 + 1 + i by omega]; exact pairs_get hp.2 i x (by simpa using h)

theorem drawOk_get : ∀ {l done : List MO}, drawOk done l = true → ∀ j y, done.length ≤ j → (done ++ l)[j]? = some y → befOk ((done ++ l).take j) y = true ∧ ∀ i x, i < j → (done ++ l)[i]? = some x → pair1 x y i = true
  | [], done, _, j, y, hj, h => by simp [List.getElem?_append, show ¬ j < done.length by omega] at h
  | m :: r, done, hd, j, y, hj, h => by
    simp only [drawOk, Bool.and_eq_true] at hd
    by_cases e : j = done.length
    · subst e
      have hy : y = m := by simpa [List.getElem?_append] using h.symm
      subst hy
      have ht : (done ++ y :: r).take done.length = done := by simp
      rw [ht]
      refine ⟨hd.1.1, fun i x hi hx => ?_⟩
      have := pairs_get hd.1.2 i x (by rwa [List.getElem?_append_left hi] at hx)
      simpa using this
    · have := drawOk_get hd.2 j y (by simp; omega) (by simpa using h)
      simpa using this

section
variable {P : Program} {nt : Nat} {F : Fr} {s : St} {β : Bt} {a : Act} {w : World} {Q : Exit → Act → World → Prop} {Γ : Ctr}

theorem core_cls0 {d : Nat} {op : MOp} {tm : Tm} {m : Nat → Option (Option Cells)} (h : op.cls = 0) : (core Γ d op tm m).mr = [] ∧ (core Γ d op tm m).mw = [] := by
  cases op <;> simp only [MOp.cls] at h <;> first | cases h | skip
  case un op x => simp only [core]; unfold un; split <;> exact ⟨rfl, rfl⟩
  case conv k x => simp only [core]; unfold conv; split <;> exact ⟨rfl, rfl⟩
  case binA n neg x y => simp only [core]; (repeat' split) <;> exact ⟨rfl, rfl⟩
  case binG ks neg x y => simp only [core]; (repeat' split) <;> exact ⟨rfl, rfl⟩
  all_goals simp only [core]
  all_goals (repeat' split) <;> first | exact ⟨rfl, rfl⟩ | trivial
theorem core_cls1 {d : Nat} {op : MOp} {tm : Tm} {m : Nat → Option (Option Cells)} (h : op.cls ≠ 2) : (core Γ d op tm m).mw = [] := by
  cases op <;> simp only [MOp.cls] at h <;> first | exact absurd rfl h | skip
  case load sz x => simp only [core]; (repeat' split) <;> rfl
  case b2s x => simp only [core]; (repeat' split) <;> rfl
  case slcA n e x lo hi => simp only [core]; (repeat' split) <;> rfl
  all_goals exact (core_cls0 (by rfl)).2

theorem stepR_cls0 {mo : MO} (h : mo.op.cls = 0) : (stepR Γ mo s).mr = [] ∧ (stepR Γ mo s).mw = [] := by
  unfold stepR
  (repeat' split) <;> first | exact core_cls0 h | exact ⟨rfl, rfl⟩
theorem stepR_cls1 {mo : MO} (h : mo.op.cls ≠ 2) : (stepR Γ mo s).mw = [] := by
  unfold stepR
  (repeat' split) <;> first | exact core_cls1 h | rfl

/-- what two unordered operations must not have in common in memory -/
def Ds (x y : R) : Prop := (∀ k ∈ x.mw.map (·.1), k ∉ y.mr ∧ k ∉ y.mw.map (·.1)) ∧ ∀ k ∈ y.mw.map (·.1), k ∉ x.mr

theorem ds_of_disj {fs : List (List Nat × List Nat)} {sus : List Nat} {x y : R} {i : Nat} (hd : disj fs sus y.mw y.mr) (hi : i ∈ sus) (hf : fs[i]? = some (x.mr, x.mw.map (·.1))) : Ds x y := by
  have := hd i hi
  simp only [List.getD_eq_getElem?_getD, hf, Option.getD_some] at this
  refine ⟨fun k hk => ⟨this.1 k hk, fun hk' => ?_⟩, fun k hk => ?_⟩
  · obtain ⟨z, hz, rfl⟩ := List.mem_map.1 hk'
    exact (this.2 z hz).2 hk
  · obtain ⟨z, hz, rfl⟩ := List.mem_map.1 hk
    exact (this.2 z hz).1

theorem vcOpsD_step {o : MO} {os : List MO} {fs : List (List Nat × List Nat)} {K : St → Prop} (h : vcOpsD Γ (o :: os) fs s K) :
    (stepR Γ o s).pre ∧ disj fs o.sus (stepR Γ o s).mw (stepR Γ o s).mr ∧ vcOpsD Γ os (fs ++ [((stepR Γ o s).mr, (stepR Γ o s).mw.map (·.1))]) (upd1 s o.d (stepR Γ o s)) K := by
  have h0 : disj fs o.sus (okv True .und).mw (okv True .und).mr := fun j hj => ⟨fun k hk => by simp [okv], fun k hk => by simp [okv] at hk⟩
  simp only [vcOpsD] at h
  unfold stepR
  cases hg : o.g with
  | none => rw [hg] at h; exact h
  | some gw =>
    obtain ⟨g, want⟩ := gw
    rw [hg] at h
    simp only at h ⊢
    cases hv : tget s.tm g <;> simp only [hv] at h ⊢
    case bool b =>
      by_cases hb : b = want
      · simp only [if_pos hb]; exact h.1 hb
      · simp only [if_neg hb]; exact ⟨trivial, h0, h.2 hb⟩
    case und => exact ⟨trivial, h0, h⟩

theorem vcOpsD_all {mo : Nat → MO} {s0 : St} {K : St → Prop} : ∀ (l : List MO) (k : Nat) (fs : List (List Nat × List Nat)), (∀ (i : Nat) (x : MO), l[i]? = some x → mo (k + i) = x) → fs.length = k → (∀ i, i < k → fs[i]? = some ((E Γ mo s0 i).mr, (E Γ mo s0 i).mw.map (·.1))) → vcOpsD Γ l fs (T Γ mo s0 k) K →
    (∀ j, k ≤ j → j < k + l.length → (E Γ mo s0 j).pre ∧ ∀ i ∈ (mo j).sus, i < j → Ds (E Γ mo s0 i) (E Γ mo s0 j)) ∧ K (T Γ mo s0 (k + l.length))
  | [], k, fs, _, _, _, h => ⟨fun j h1 h2 => by simp at h2; omega, by simpa [vcOpsD] using h⟩
  | o :: os, k, fs, hmo, hlen, hfs, h => by
    have ho : mo k = o := hmo 0 o rfl
    obtain ⟨h1, h2, h3⟩ := vcOpsD_step h
    have hE : stepR Γ o (T Γ mo s0 k) = E Γ mo s0 k := by rw [E, ho]
    rw [hE] at h1 h2 h3
    have hT : upd1 (T Γ mo s0 k) o.d (E Γ mo s0 k) = T Γ mo s0 (k + 1) := by rw [T, ho, E, ho]
    rw [hT] at h3
    have := vcOpsD_all os (k + 1) _ (fun i x hx => by rw [show k + 1 + i = k + (i + 1) by omega]; exact hmo (i + 1) x (by simpa using hx)) (by simp [hlen])
      (fun i hi => by
        by_cases e : i = k
        · subst e; simp [List.getElem?_append, hlen]
        · rw [List.getElem?_append_left (by omega)]; exact hfs i (by omega)) h3
    refine ⟨fun j hj1 hj2 => ?_, by rw [List.length_cons, show k + (os.length + 1) = k + 1 + os.length by omega]; exact this.2⟩
    by_cases e : j = k
    · subst e
      refine ⟨h1, fun i hi hlt => ds_of_disj h2 (by rw [← ho]; exact hi) (hfs i hlt)⟩
    · exact this.1 j (by omega) (by simp at hj2; omega)

theorem contains_spec {l : List Nat} {x : Nat} (h : (!l.contains x) = true) : x ∉ l := by simpa using h

theorem notIn_spec {d : Option Nat} {l : List Nat} (h : notIn d l = true) : ∀ x, d = some x → x ∉ l := by
  rintro x rfl
  exact contains_spec h

/-- a region that draws its order -/
theorem vcOpsD_sound {ops : Array Oper} {mos : List MO} {K : St → Prop} (hQ : ∀ s β a w, Rep nt F s β a w → K s → Q .normal a w) (hlen : ops.size = mos.length)
    (hright : ∀ (i : Nat) (x : MO), mos[i]? = some x → ∃ o, ops[i]? = some o ∧ OpRight P nt F Γ ops o x ∧ (∀ e, e ∈ x.aft ↔ ∃ z ∈ o.after, Region.binds .any z = true ∧ z.on = e))
    (hgl : ∀ mo ∈ mos, ∀ g b, mo.g = some (g, b) → g < nt) (hok : drawOk [] mos = true) (hv : vcOpsD Γ mos [] s K) (h : Rep nt F s β a w) : wpAny P .any ops Q ops.size (Array.replicate ops.size false) a w := by
  let mo : Nat → MO := fun i => mos.getD i ⟨none, none, .bad, [], [], 0⟩
  have hmo : ∀ (i : Nat) (x : MO), mos[i]? = some x → mo i = x := fun i x hx => by simp [mo, List.getD_eq_getElem?_getD, hx]
  have hget : ∀ i, i < mos.length → mos[i]? = some (mo i) := fun i hi => by simp [mo, List.getD_eq_getElem?_getD, hi]
  obtain ⟨hall, hK⟩ := vcOpsD_all (mo := mo) (s0 := s) mos 0 [] (fun i x hx => by simpa using hmo i x hx) rfl (fun i hi => by omega) hv
  simp only [Nat.zero_add] at hall hK
  have hdr := fun j y => drawOk_get hok j y (Nat.zero_le j)
  simp only [List.nil_append] at hdr
  let Bf : Nat → Nat → Bool := fun i j => decide (i < mos.length) && (mo i).bef.testBit j
  rw [hlen]
  refine any_sound (n := mos.length) (mo := mo) (s0 := s) (Bf := Bf) (K := K) hQ hlen (fun i hi => hright i _ (hget i hi)) (fun i hi => hgl _ (List.mem_of_getElem? (hget i hi))) ?_ ?_ ?_ (fun i hi => (hall i (Nat.zero_le i) hi).1) hK
    mos.length _ (fun _ => false) β a w (fun i hi => by simp [hi]) ?_ (fun j _ hd => by cases hd) (fun j hd => by cases hd) ?_
  · intro i hi e he
    have := (hdr i _ (hget i hi)).1
    simp only [befOk, Bool.and_eq_true, List.all_eq_true] at this
    have := this.1 e he
    simp at this
    omega
  · intro i j hb
    simp only [Bf, Bool.and_eq_true, decide_eq_true_eq] at hb
    obtain ⟨hi, hb⟩ := hb
    refine ⟨hi, ?_⟩
    have := (hdr i _ (hget i hi)).1
    simp only [befOk, Bool.and_eq_true, beq_iff_eq, List.all_eq_true] at this
    obtain ⟨h1, h2⟩ := this
    rw [h2] at hb
    have key : ∀ l : List Nat, (∀ e ∈ l, e < i) → (l.foldr (fun e r => (2 ^ e) ||| ((((mos.take i)[e]?).map MO.bef).getD 0 ||| r)) 0).testBit j = true → ∃ e ∈ l, e = j ∨ Bf e j = true := by
      intro l
      induction l with
      | nil => intro _ h; simp at h
      | cons e r ih =>
        intro hl h
        simp only [List.foldr_cons, Nat.testBit_or, Bool.or_eq_true, Nat.testBit_two_pow, decide_eq_true_eq] at h
        have he := hl e (by simp)
        rcases h with h | h | h
        · exact ⟨e, by simp, .inl h⟩
        · refine ⟨e, by simp, .inr ?_⟩
          rw [List.getElem?_take_of_lt he, hget e (by omega)] at h
          simp only [Bf, Bool.and_eq_true, decide_eq_true_eq]
          exact ⟨by omega, by simpa using h⟩
        · obtain ⟨e', he', h'⟩ := ih (fun e he => hl e (by simp [he])) h
          exact ⟨e', by simp [he'], h'⟩
    exact key _ (fun e he => by have := h1 e he; simp at this; omega) hb
  · intro i j hij hj hb
    have hp := (hdr j _ (hget j hj)).2 i _ hij (hget i (by omega))
    have hb' : (mo j).bef.testBit i = false := by simpa [Bf, hj] using hb
    simp only [pair1, hb', Bool.false_or, Bool.and_eq_true, Bool.or_eq_true, apartS] at hp
    obtain ⟨⟨⟨p1, p2⟩, p3⟩, p4⟩ := hp
    have hds : Ds (E Γ mo s i) (E Γ mo s j) := by
      rcases p4 with p4 | p4
      · exact (hall j (Nat.zero_le j) hj).2 i (by simpa using p4) hij
      · simp only [quiet, Bool.or_eq_true, Bool.and_eq_true, beq_iff_eq, bne_iff_ne] at p4
        rcases p4 with (p4 | p4) | p4
        · obtain ⟨e1, e2⟩ := stepR_cls0 (Γ := Γ) (s := T Γ mo s i) p4
          exact ⟨fun k hk => by rw [E, e2] at hk; simp at hk, fun k hk => by rw [E, e1]; simp⟩
        · obtain ⟨e1, e2⟩ := stepR_cls0 (Γ := Γ) (s := T Γ mo s j) p4
          exact ⟨fun k hk => by have f1 : (E Γ mo s j).mr = [] := e1; have f2 : (E Γ mo s j).mw = [] := e2; rw [f1, f2]; simp, fun k hk => by rw [E, e2] at hk; simp at hk⟩
        · have e1 := stepR_cls1 (Γ := Γ) (s := T Γ mo s i) p4.1
          have e2 := stepR_cls1 (Γ := Γ) (s := T Γ mo s j) p4.2
          exact ⟨fun k hk => by rw [E, e1] at hk; simp at hk, fun k hk => by rw [E, e2] at hk; simp at hk⟩
    exact ⟨fun x hx => ⟨notIn_spec p1 x hx, fun e => notIn_spec p3 x hx (by simp [e])⟩, fun x hx => notIn_spec p2 x hx, hds.1, hds.2⟩
  · have : ∀ n, undone (fun _ => false) n = n := by
      intro n
      induction n with
      | zero => rfl
      | succ n ih => simp [undone, ih]
    exact this _
  · have : ∀ n, SD Γ mo s (fun _ => false) n = s := by
      intro n
      induction n with
      | zero => rfl
      | succ n ih => simp [SD, ih]
    rw [this]; exact h
end
end Go.Vc

/-! Vc7 -/
set_option linter.unusedVariables false
set_option linter.unusedSimpArgs false
namespace Go.Vc

theorem RV.sc {B B' : Nat} {O O' : Nat → Prop} {w w' : World} {β β' : Bt} {x : AV} {v : Value} (h : RV B O w β x v) (hs : x.sc = true) : RV B' O' w' β' x v := by
  cases h <;> first
    | (simp [AV.sc] at hs; done)
    | constructor
theorem Cells.sc_get {c : Cells} (h : c.sc) (j : Nat) : (c.get j).sc = true := by
  cases c <;> simp only [Cells.sc, Cells.get] at *
  case gen l =>
    by_cases hj : j < l.length
    · have : l.getD j .any ∈ l := by simp [List.getD_eq_getElem?_getD, hj]
      exact List.all_eq_true.1 h _ this
    · simp [List.getD_eq_getElem?_getD, hj]; rfl
  case recs sz l =>
    by_cases hj : j / sz < l.length
    · have : l.getD (j / sz) [] ∈ l := by simp [List.getD_eq_getElem?_getD, hj]
      have h2 := h _ this
      generalize l.getD (j / sz) [] = r at *
      by_cases hk : j % sz < r.length
      · have h3 : r.getD (j % sz) .any ∈ r := by simp [List.getD_eq_getElem?_getD, hk]
        exact List.all_eq_true.1 h2 _ h3
      · simp [List.getD_eq_getElem?_getD, hk]; rfl
    · have e : l.getD (j / sz) [] = [] := by simp [List.getD_eq_getElem?_getD, hj]
      rw [e]; rfl
  all_goals rfl

/-- a result, seen by the caller -/
theorem res_turn {B B0 : Nat} {O O' : Nat → Prop} {w : World} {β β' : Bt} {g : Nat → Nat} (hB : B ≤ B0) (hg : ∀ k y, β k = some y → β' (g k) = some y) (hO : ∀ b, B0 ≤ b → O' b → O b) {al : Prop} (hal : al → ∀ b, O' b → O b) :
    ∀ (f : Nat) (x : AV) (v : Value), resOk al f x → RV B0 O w β x v → RV B O' w β' (ren g f x) v
  | 0, x, v, hr, _ => hr.elim
  | f + 1, x, v, hr, h => by
    cases h with
    | ptr h => exact .ptr (hg _ _ h)
    | own h hl hc ho => exact .own (hg _ _ h) hl hc ho
    | ownnil h => exact .ownnil (hg _ _ h)
    | ref => exact hr.elim
    | sln => exact hr.elim
    | sl hl hc hO' hb hf h1 hcap hs =>
      obtain ⟨hfr, hsc⟩ := hr
      refine .sl hl hc (fun hx => ?_) hb (fun e => Nat.le_trans hB (hf e)) h1 hcap (fun j hj => (hs j hj).sc (Cells.sc_get hsc j))
      rcases hfr with e | ha
      · exact hO' (hO _ (hf e) hx)
      · exact hO' (hal ha _ hx)
    | sl0 h1 h2 h3 => exact .sl0 h1 h2 h3
    | sln0 => exact hr.elim
    | agg hl h1 hs =>
      rename_i c us
      cases c with
      | gen l =>
        have hr' : ∀ x ∈ l, resOk al f x := hr
        simp only [ren]
        refine .agg (by simpa [Cells.len] using hl) h1 (fun j hj => ?_)
        simp only [Cells.len, List.length_map] at hj
        simp only [Cells.get]
        rw [getD_map_lt _ _ _ .any _ hj]
        exact res_turn hB hg hO hal f _ _ (hr' _ (by simp [List.getD_eq_getElem?_getD, hj])) (hs j hj)
      | _ => exact .agg hl h1 (fun j hj => (hs j hj).sc (Cells.sc_get (by exact hr) j))
    | tup hl hs =>
      rename_i l us
      have hr' : ∀ x ∈ l, resOk al f x := hr
      simp only [ren]
      refine .tup (by simpa using hl) (fun j hj => ?_)
      simp only [List.length_map] at hj
      rw [getD_map_lt _ _ _ .any _ hj]
      exact res_turn hB hg hO hal f _ _ (hr' _ (by simp [List.getD_eq_getElem?_getD, hj])) (hs j hj)
    | any => exact .any
    | und => exact .und
    | nil => exact .nil
    | bool => exact .bool
    | u8 => exact .u8
    | u16 => exact .u16
    | u32 => exact .u32
    | u64 => exact .u64
    | n => exact .n
    | i => exact .i
    | str => exact .str

/-- the blocks handed over; the blocks as they come back, and the new ones -/
def meOf (L : List Cells) : Me := L.mapIdx fun j c => (1000 + j, some c)
def meBack (cr : CR) : Me := (cr.mem.mapIdx fun j c => (1000 + j, c)) ++ cr.fresh.mapIdx fun j c => (2000 + j, some c)

/-- a call of f does what its contract says -/
def CallSat (P : Program) (f : Nat) (args : List AV) (L : List Cells) (cr : CR) : Prop :=
  ∀ (off : Nat → Prop) (β : Bt) (vs : List Value) (w : World), vs.length = args.length →
    MR ⟨w.heap.size, Owned (meOf L) β, w, off⟩ (meOf L) β w →
    (∀ j, j < args.length → RV w.heap.size (Own ⟨w.heap.size, Owned (meOf L) β, w, off⟩ (meOf L) β) w β (args.getD j .any) (vs.getD j undef)) →
    Calls P f vs.toArray w fun e w' => ∃ v β', e = .returned v ∧ RV w.heap.size (Own ⟨w.heap.size, Owned (meOf L) β, w, off⟩ (meBack cr) β') w' β' cr.res v ∧ MR ⟨w.heap.size, Owned (meOf L) β, w, off⟩ (meBack cr) β' w' ∧
      (∀ j, j < L.length → β' (1000 + j) = β (1000 + j))
def Meets (P : Program) (Γ : Ctr) (f : Nat) : Prop := ∀ args L, (Γ f args L).pre → CallSat P f args L (Γ f args L)

section
variable {P : Program} {nt : Nat} {F : Fr} {s : St} {β : Bt} {a : Act} {w : World} {o : Oper} {Q : Exit → Act → World → Prop} {Γ : Ctr}

theorem rv_nf {B B' : Nat} {O O' : Nat → Prop} (hi : ∀ b, O' b → O b) {c : Cells} (hc : c.nf) {j : Nat} {v : Value} {β' : Bt} (h : RV B O w β' (c.get j) v) : RV B' O' w bt0 (c.get j) v := by
  cases c with
  | bss l =>
    simp only [Cells.get] at *
    generalize l.getD j [] = x at *
    generalize hcc : Cells.b8 x = cc at h ⊢
    cases h with
    | sl hl hc hO hb hf h1 hcap hs => subst hcc; exact .sl hl hc (fun h => hO (hi _ h)) hb (fun e => by cases e) h1 hcap (fun j hj => (hs j hj).sc rfl)
    | sl0 h1 h2 h3 => exact .sl0 h1 h2 h3
  | gen l => exact h.sc (Cells.sc_get (c := .gen l) hc j)
  | recs sz l => exact h.sc (Cells.sc_get (c := .recs sz l) hc j)
  | _ => exact h.sc rfl

/-- what a callee doesn't come near: all that is not read alone, but what is handed over -/
def offOf (F : Fr) (me : Me) (β : Bt) (K : List Nat) (b : Nat) : Prop := Own F me β b ∧ ∀ k ∈ K, ∀ sz, β k ≠ some (some (b, sz))

/-- a value handed over to be read alone -/
theorem pur_rv (h : Rep nt F s β a w) {K : List Nat} : ∀ (f : Nat) (x : AV) (v : Value), (∀ k ∈ keysOf (mget s.me) f x, k ∈ K) → purP (mget s.me) f x → RV F.B (Own F s.me β) w β x v → RV w.heap.size (offOf F s.me β K) w bt0 (pur (mget s.me) f x) v
  | 0, x, v, _, _, _ => .any
  | f + 1, x, v, hK, hp, hx => by
    have ih := pur_rv h (K := K) f
    have hi : ∀ b, offOf F s.me β K b → Own F s.me β b := fun b hb => hb.1
    -- what is owned
    have own_case : ∀ (k off len e : Nat) (vv : Value), (∀ k' ∈ keysOf (mget s.me) (f + 1) (.own k off len e), k' ∈ K) → purP (mget s.me) (f + 1) (.own k off len e) → RV F.B (Own F s.me β) w β (.own k off len e) vv → RV w.heap.size (offOf F s.me β K) w bt0 (pur (mget s.me) (f + 1) (.own k off len e)) vv := by
      intro k off len e vv hK hp hx
      have hkK : k ∈ K := hK k (by simp [keysOf])
      simp only [pur]
      cases hk : mget s.me k with
      | none => exact .any
      | some y =>
        cases y with
        | none => exact .any
        | some c =>
          simp only [purP, hk] at hp
          obtain ⟨hw, hp⟩ := hp
          obtain ⟨ad, cap, us, hv, hrd, hblk⟩ := own_rd h hx hk hw
          have hcap : len ≤ cap := by
            rw [hv] at hx
            cases hx with
            | own _ h _ _ => exact h
            | ownnil => exact Nat.le_refl _
          have hcnt := Cells.part_count hw.2.2.2
          have hlenq := Cells.len_eq (c.part (off / e) len)
          rw [hcnt, Cells.part_esz, ← hw.1] at hlenq
          simp only
          have fin : ∀ (cc : Cells), cc.len = (c.part (off / e) len).len → cc.count = len → (∀ j, j < cc.len → RV w.heap.size (offOf F s.me β K) w bt0 (cc.get j) (us.getD j undef)) → RV w.heap.size (offOf F s.me β K) w bt0 (.sl false cc) vv := by
            intro cc h1 h2 h3
            rw [hv]
            rcases hrd.at_ with h0 | ⟨ad', rfl, hcc⟩
            · have hl0 : len = 0 := by
                rw [h0] at hlenq
                rcases Nat.mul_eq_zero.1 hlenq.symm with h | h
                · exact h
                · have := hw.2.1; omega
              subst hl0
              exact .sl0 (by omega) h2 (fun e => by rw [hv] at hx; cases hx with | own => cases e | ownnil => rfl)
            · obtain ⟨b, sz, hb1, hb2⟩ := hblk ad' rfl
              have hlt := h.mr.lt hk hb2
              have := RV.sl (B := w.heap.size) (O := offOf F s.me β K) (w := w) (β := bt0) (fr := false) (c := cc) (a := ad') (cap := cap) (us := us) (by rw [hrd.len, h1]) hcc (by rw [hb1]; exact fun h => h.2 k hkK sz hb2) (by rw [hb1]; exact hlt) (fun e => by cases e) hrd.one (by omega) h3
              rw [h2] at this
              exact this
          generalize hpp : c.part (off / e) len = cp at *
          cases cp with
          | gen l' =>
            refine fin (.gen (l'.map (pur (mget s.me) f))) (by simp [Cells.len]) (by simpa [Cells.count] using hcnt) (fun j hj => ?_)
            simp only [Cells.len, List.length_map] at hj
            simp only [Cells.get]
            rw [getD_map_lt _ _ _ .any _ hj]
            have hm : l'.getD j .any ∈ l' := by simp [List.getD_eq_getElem?_getD, hj]
            refine ih _ _ (fun k' hk' => hK k' ?_) (hp _ hm).1 (hrd.rv j hj)
            have hcg : ∃ l0, c = .gen l0 ∧ ∀ x ∈ l', x ∈ l0 := by
              cases c <;> simp only [Cells.part, Cells.sub, reduceCtorEq, Cells.gen.injEq] at hpp
              subst hpp
              exact ⟨_, rfl, fun x hx => List.mem_of_mem_drop (List.mem_of_mem_take hx)⟩
            obtain ⟨l0, rfl, hsub⟩ := hcg
            simp only [keysOf, hk]
            exact List.mem_cons_of_mem _ (List.mem_flatMap.2 ⟨_, hsub _ hm, hk'⟩)
          | recs sz l => exact hp.elim
          | bss l => exact fin _ rfl hcnt (fun j hj => rv_nf hi (c := .bss l) trivial (hrd.rv j hj))
          | b8 l => exact fin _ rfl hcnt (fun j hj => rv_nf hi (c := .b8 l) trivial (hrd.rv j hj))
          | b32 l => exact fin _ rfl hcnt (fun j hj => rv_nf hi (c := .b32 l) trivial (hrd.rv j hj))
          | b64 l => exact fin _ rfl hcnt (fun j hj => rv_nf hi (c := .b64 l) trivial (hrd.rv j hj))
          | ns l => exact fin _ rfl hcnt (fun j hj => rv_nf hi (c := .ns l) trivial (hrd.rv j hj))
          | strs l => exact fin _ rfl hcnt (fun j hj => rv_nf hi (c := .strs l) trivial (hrd.rv j hj))
    cases hx with
    | ptr => exact .any
    | own hb hl hc ho => exact own_case _ _ _ _ _ hK hp (.own hb hl hc ho)
    | ownnil hb => exact own_case _ _ _ _ _ hK hp (.ownnil hb)
    | ref hl hc hO hb h1 hs => exact .ref hl hc (fun h => hO (hi _ h)) hb h1 (fun j hj => rv_nf hi hp (hs j hj))
    | sl hl hc hO hb hf h1 hcap hs => exact .sl hl hc (fun h => hO (hi _ h)) hb (fun e => by cases e) h1 hcap (fun j hj => rv_nf hi hp (hs j hj))
    | sl0 h1 h2 h3 => exact .sl0 h1 h2 h3
    | sln0 h1 h2 => exact .sln0 h1 h2
    | sln hl hc hO hb h1 hcap hs => exact .sln hl hc (fun h => hO (hi _ h)) hb h1 hcap (fun j hj => rv_nf hi hp (hs j hj))
    | agg hl h1 hs =>
      rename_i c us
      cases c with
      | gen l =>
        simp only [pur]
        have hp' : ∀ x ∈ l, purP (mget s.me) f x ∧ x.one = true ∧ (pur (mget s.me) f x).one = true := hp
        refine .agg (by simpa [Cells.len] using hl) h1 (fun j hj => ?_)
        simp only [Cells.len, List.length_map] at hj
        simp only [Cells.get]
        rw [getD_map_lt _ _ _ .any _ hj]
        have hm : l.getD j .any ∈ l := by simp [List.getD_eq_getElem?_getD, hj]
        exact ih _ _ (fun k' hk' => hK k' (List.mem_flatMap.2 ⟨_, hm, hk'⟩)) (hp' _ hm).1 (hs j hj)
      | recs sz l => exact .any
      | bss l => exact .agg hl h1 (fun j hj => rv_nf hi (c := .bss l) trivial (hs j hj))
      | b8 l => exact .agg hl h1 (fun j hj => rv_nf hi (c := .b8 l) trivial (hs j hj))
      | b32 l => exact .agg hl h1 (fun j hj => rv_nf hi (c := .b32 l) trivial (hs j hj))
      | b64 l => exact .agg hl h1 (fun j hj => rv_nf hi (c := .b64 l) trivial (hs j hj))
      | ns l => exact .agg hl h1 (fun j hj => rv_nf hi (c := .ns l) trivial (hs j hj))
      | strs l => exact .agg hl h1 (fun j hj => rv_nf hi (c := .strs l) trivial (hs j hj))
    | tup => exact .any
    | any => exact .any
    | und => exact .und
    | nil => exact .nil
    | bool => exact .bool
    | u8 => exact .u8
    | u16 => exact .u16
    | u32 => exact .u32
    | u64 => exact .u64
    | n => exact .n
    | i => exact .i
    | str => exact .str

theorem isB_rv {B : Nat} {O : Nat → Prop} {x : AV} {v : Value} (hb : isB x = true) (h : RV B O w bt0 x v) : RV B O w bt0 (.sl false (.b8 (unB x))) v := by
  cases x <;> simp only [isB, reduceCtorEq] at hb
  case nil => cases h; exact .sl0 rfl rfl (fun _ => rfl)
  case sl fr c =>
    cases c <;> simp only [reduceCtorEq] at hb
    rename_i x
    simp only [unB]
    generalize hcc : Cells.b8 x = cc at h ⊢
    cases h with
    | sl hl hc hO hb hf h1 hcap hs => exact .sl hl hc hO hb (fun e => by cases e) h1 hcap hs
    | sl0 h1 h2 h3 => exact .sl0 h1 h2 h3
  case sln c =>
    cases c <;> simp only [reduceCtorEq] at hb
    rename_i x
    simp only [unB]
    generalize hcc : Cells.b8 x = cc at h ⊢
    cases h with
    | sln0 h1 h2 => exact .sl0 h1 h2 (fun e => by cases e)
    | sln hl hc hO hb h1 hcap hs => exact .sl hl hc hO hb (fun e => by cases e) h1 hcap hs

theorem coe_rv {B : Nat} {O : Nat → Prop} {k : Option Kd} {x : AV} {v : Value} (hp : (coe k x).pre) (h : RV B O w bt0 x v) : RV B O w bt0 (coe k x).v v := by
  unfold coe at *
  split
  · exact h
  · rename_i k'
    cases h
    have h1 : k'.nil.len = 0 := by cases k' <;> simp [Kd.nil, Cells.len]
    have h2 : k'.nil.count = 0 := by cases k' <;> rfl
    exact .sl0 h1 h2 (fun _ => rfl)
  · rename_i fr l
    have hp' : ∀ x ∈ l, isB x = true := List.all_eq_true.1 hp
    show RV B O w bt0 (.sl false (.bss (l.map unB))) v
    have hcnt : (Cells.gen l).count = (Cells.bss (l.map unB)).count := by simp [Cells.count]
    generalize hcc : Cells.gen l = cc at h
    cases h with
    | sl hl hc hO hb hf h1 hcap hs =>
      subst hcc
      rw [hcnt]
      refine .sl (by simpa [Cells.len] using hl) hc hO hb (fun e => by cases e) h1 (by rw [← hcnt]; exact hcap) (fun j hj => ?_)
      simp only [Cells.len, List.length_map] at hj
      have := hs j hj
      simp only [Cells.get] at this ⊢
      rw [getD_map_lt _ _ _ .any _ hj]
      exact isB_rv (hp' _ (by simp [List.getD_eq_getElem?_getD, hj])) this
    | sl0 h1 h2 h3 =>
      subst hcc
      have hl0 : l = [] := List.eq_nil_of_length_eq_zero h1
      subst hl0
      exact .sl0 rfl rfl h3
  · exact h

theorem dd_nil : dd [] [] = [] := rfl

theorem mget_msets : ∀ (W m : Me) (k : Nat), (keysA W).Nodup → mget (msets m W) k = match mget W k with | some x => some x | none => mget m k
  | [], m, k, _ => rfl
  | (k0, c0) :: r, m, k, hn => by
    simp only [keysA, List.nodup_cons] at hn
    simp only [msets, mget]
    rw [mget_msets r _ k hn.2, mget_mset]
    have hno : k0 ∉ keysA r → mget r k0 = none := by
      clear hn
      intro h
      induction r with
      | nil => rfl
      | cons y r ih =>
        obtain ⟨k1, c1⟩ := y
        simp only [keysA, List.mem_cons, not_or] at h
        simp only [mget]
        rw [if_neg (fun e => h.1 e.symm)]; exact ih h.2
    by_cases e : k0 = k
    · subst e
      rw [hno hn.1, if_pos rfl, if_pos rfl]
    · rw [if_neg e, if_neg (Ne.symm e)]

/-- the new blocks of a call, by the caller's keys -/
def newMe (d : Nat) (g : Cells → Cells) (L : List Cells) : Me := L.mapIdx fun j c => (fkey d j, some (g c))
theorem mget_new (d : Nat) (g : Cells → Cells) (L : List Cells) (k : Nat) : (∃ j c, j < L.length ∧ L[j]? = some c ∧ k = fkey d j ∧ mget (newMe d g L) k = some (some (g c))) ∨ ((∀ j, j < L.length → k ≠ fkey d j) ∧ mget (newMe d g L) k = none) := by
  unfold newMe
  have : ∀ (L : List Cells) (i0 : Nat), (∃ j c, j < L.length ∧ L[j]? = some c ∧ k = fkey d (i0 + j) ∧ mget (L.mapIdx fun j c => (fkey d (i0 + j), some (g c))) k = some (some (g c))) ∨
      ((∀ j, j < L.length → k ≠ fkey d (i0 + j)) ∧ mget (L.mapIdx fun j c => (fkey d (i0 + j), some (g c))) k = none) := by
    intro L
    induction L with
    | nil => intro i0; exact .inr ⟨fun j hj => by simp at hj, rfl⟩
    | cons c r ih =>
      intro i0
      simp only [List.mapIdx_cons, mget]
      have e2 : (fun (j : Nat) (c : Cells) => (fkey d (i0 + (j + 1)), some (g c))) = fun j c => (fkey d (i0 + 1 + j), some (g c)) := by funext j c; congr 2; omega
      by_cases e : fkey d (i0 + 0) = k
      · left; exact ⟨0, c, by simp, rfl, e.symm, by rw [if_pos e]⟩
      · rw [if_neg e, e2]
        rcases ih (i0 + 1) with ⟨j, c', h0, h1, h2, h3⟩ | ⟨h1, h2⟩
        · left; exact ⟨j + 1, c', by simpa using h0, by simpa using h1, by rw [h2]; congr 1; omega, h3⟩
        · right
          refine ⟨fun j hj => ?_, h2⟩
          cases j with
          | zero => exact fun h => e h.symm
          | succ j => have := h1 j (by simpa using hj); rwa [show i0 + (j + 1) = i0 + 1 + j by omega]
  have := this L 0
  simpa using this
theorem fkey_inj {d i j : Nat} (h : fkey d i = fkey d j) : i = j := by unfold fkey at h; omega
theorem new_nodup (d : Nat) (g : Cells → Cells) (L : List Cells) : (keysA (newMe d g L)).Nodup := by
  unfold newMe
  have : ∀ (L : List Cells) (i0 : Nat), (keysA (L.mapIdx fun j c => (fkey d (i0 + j), some (g c)))).Nodup ∧ ∀ x ∈ keysA (L.mapIdx fun j c => (fkey d (i0 + j), some (g c))), ∃ j, i0 ≤ j ∧ x = fkey d j := by
    intro L
    induction L with
    | nil => intro i0; exact ⟨by simp [keysA], by simp [keysA]⟩
    | cons c r ih =>
      intro i0
      simp only [List.mapIdx_cons, keysA]
      have e2 : (fun (j : Nat) (c : Cells) => (fkey d (i0 + (j + 1)), some (g c))) = fun j c => (fkey d (i0 + 1 + j), some (g c)) := by funext j c; congr 2; omega
      rw [e2]
      obtain ⟨h1, h2⟩ := ih (i0 + 1)
      refine ⟨List.nodup_cons.2 ⟨fun hm => ?_, h1⟩, fun x hx => ?_⟩
      · obtain ⟨j, hj, e⟩ := h2 _ hm
        have := fkey_inj e
        omega
      · rcases List.mem_cons.1 hx with rfl | hx
        · exact ⟨i0 + 0, by omega, rfl⟩
        · obtain ⟨j, hj, e⟩ := h2 _ hx
          exact ⟨j, by omega, e⟩
  have := (this L 0).1
  simpa using this

/-- the caller's keys behind a call -/
def keyed (β β' : Bt) (d n : Nat) : Bt := fun K => if d ≤ K ∧ (K - d) % 1000 = 0 ∧ 3 ≤ (K - d) / 1000 ∧ (K - d) / 1000 - 3 < n then β' (2000 + ((K - d) / 1000 - 3)) else β K
theorem keyed_new {β β' : Bt} {d n j : Nat} (h : j < n) : keyed β β' d n (fkey d j) = β' (2000 + j) := by
  unfold keyed fkey
  have e : (j + 3) * 1000 + d - d = (j + 3) * 1000 := by omega
  rw [e, Nat.mul_mod_left, Nat.mul_div_cancel _ (by omega : 0 < 1000)]
  rw [if_pos ⟨by omega, rfl, by omega, by omega⟩]
  rfl
theorem keyed_old {β β' : Bt} {d n K : Nat} (h : ∀ j, j < n → K ≠ fkey d j) : keyed β β' d n K = β K := by
  unfold keyed
  rw [if_neg]
  rintro ⟨h1, h2, h3, h4⟩
  refine h _ h4 ?_
  unfold fkey
  have := Nat.div_add_mod (K - d) 1000
  omega

/-- the callee's new blocks, as it names them -/
theorem mget_back (cr : CR) (hm : cr.mem = []) (k : Nat) : (∃ j c, j < cr.fresh.length ∧ cr.fresh[j]? = some c ∧ k = 2000 + j ∧ mget (meBack cr) k = some (some c)) ∨ ((∀ j, j < cr.fresh.length → k ≠ 2000 + j) ∧ mget (meBack cr) k = none) := by
  unfold meBack
  rw [hm]
  simp only [List.mapIdx_nil, List.nil_append]
  have : ∀ (L : List Cells) (i0 : Nat), (∃ j c, j < L.length ∧ L[j]? = some c ∧ k = 2000 + (i0 + j) ∧ mget (L.mapIdx fun j c => (2000 + (i0 + j), some c)) k = some (some c)) ∨
      ((∀ j, j < L.length → k ≠ 2000 + (i0 + j)) ∧ mget (L.mapIdx fun j c => (2000 + (i0 + j), some c)) k = none) := by
    intro L
    induction L with
    | nil => intro i0; exact .inr ⟨fun j hj => by simp at hj, rfl⟩
    | cons c r ih =>
      intro i0
      simp only [List.mapIdx_cons, mget]
      have e2 : (fun (j : Nat) (c : Cells) => (2000 + (i0 + (j + 1)), some c)) = fun j c => (2000 + (i0 + 1 + j), some c) := by funext j c; congr 1; omega
      by_cases e : 2000 + (i0 + 0) = k
      · left; exact ⟨0, c, by simp, rfl, e.symm, by rw [if_pos e]⟩
      · rw [if_neg e, e2]
        rcases ih (i0 + 1) with ⟨j, c', h0, h1, h2, h3⟩ | ⟨h1, h2⟩
        · left; exact ⟨j + 1, c', by simpa using h0, by simpa using h1, by rw [h2]; omega, h3⟩
        · right
          refine ⟨fun j hj => ?_, h2⟩
          cases j with
          | zero => exact fun h => e h.symm
          | succ j => have := h1 j (by simpa using hj); omega
  have := this cr.fresh 0
  simpa using this
end
end Go.Vc

/-! Vc8 -/
set_option linter.unusedVariables false
set_option linter.unusedSimpArgs false
namespace Go.Vc
section
variable {P : Program} {nt : Nat} {F : Fr} {s : St} {β : Bt} {a : Act} {w : World} {o : Oper} {Q : Exit → Act → World → Prop} {Γ : Ctr}

theorem back_lt {d k : Nat} (h : 2000 ≤ k) : back [] d k = fkey d (k - 2000) := by unfold back; rw [if_neg (by omega)]

theorem Rep.ret (h : Rep nt F s β a w) {cr : CR} (hmem : cr.mem = []) {d : Nat} (hfree : ∀ j, j < cr.fresh.length → mget s.me (fkey d j) = none) {K : List Nat} (hres : resOk (K = []) 3 cr.res) (hfr : ∀ c ∈ cr.fresh, resOkC False 2 c)
    {w' : World} {β' : Bt} {v : Value} (hv : RV w.heap.size (Own ⟨w.heap.size, Owned (meOf []) bt0, w, offOf F s.me β K⟩ (meBack cr) β') w' β' cr.res v) (hmr : MR ⟨w.heap.size, Owned (meOf []) bt0, w, offOf F s.me β K⟩ (meBack cr) β' w') {dst : Option Nat} (hd : ∀ t, dst = some t → t < nt) :
    ∃ β2, Rep nt F ⟨setT s.tm dst (ren (back [] d) 3 cr.res), msets s.me (newMe d (renC (back [] d) 3) cr.fresh)⟩ β2 (a.put dst v) w' := by
  have hbor : ∀ b, ¬ Owned (meOf []) bt0 b := by rintro b ⟨k, c, sz, h1, h2⟩; simp [meOf, mget] at h1
  have hW := fun k => mget_msets (newMe d (renC (back [] d) 3) cr.fresh) s.me k (new_nodup d _ _)
  have hold : ∀ b, b < w.heap.size → w'.heap[b]? = w.heap[b]? := fun b hb => hmr.fr.keep b hb (hbor b)
  have hsz : w.heap.size ≤ w'.heap.size := hmr.fr.size
  have hBw : F.B ≤ w.heap.size := h.mr.fr.size
  refine ⟨keyed β β' d cr.fresh.length, ?_⟩
  -- keys of old are as they were
  have kold : ∀ {k x}, β k = some x → keyed β β' d cr.fresh.length k = some x := by
    intro k x hk
    rw [keyed_old]
    · exact hk
    · rintro j hj rfl
      rw [h.mr.un _ (hfree j hj)] at hk; cases hk
  -- the callee's keys, under their new names
  have knew : ∀ k y, β' k = some y → keyed β β' d cr.fresh.length (back [] d k) = some y := by
    intro k y hk
    rcases mget_back cr hmem k with ⟨j, c, hj, hc, rfl, _⟩ | ⟨_, hn⟩
    · rw [back_lt (by omega), show 2000 + j - 2000 = j by omega, keyed_new hj]; exact hk
    · rw [hmr.un k hn] at hk; cases hk
  -- alive keys of the new state
  have alive : ∀ {K C}, mget (msets s.me (newMe d (renC (back [] d) 3) cr.fresh)) K = some (some C) →
      (∃ j c, j < cr.fresh.length ∧ cr.fresh[j]? = some c ∧ K = fkey d j ∧ C = renC (back [] d) 3 c ∧ mget (meBack cr) (2000 + j) = some (some c)) ∨ ((∀ j, j < cr.fresh.length → K ≠ fkey d j) ∧ mget s.me K = some (some C)) := by
    intro K C hK
    rw [hW] at hK
    rcases mget_new d (renC (back [] d) 3) cr.fresh K with ⟨j, c, hj, hc, rfl, hg⟩ | ⟨hne, hg⟩
    · rw [hg] at hK
      injection hK with hK
      injection hK with hK
      left
      refine ⟨j, c, hj, hc, rfl, hK.symm, ?_⟩
      rcases mget_back cr hmem (2000 + j) with ⟨j', c', hj', hc', e, hg'⟩ | ⟨hne', _⟩
      · have : j = j' := by omega
        subst this
        rw [hc] at hc'
        injection hc' with hc'
        subst hc'
        exact hg'
      · exact absurd rfl (hne' j hj)
    · rw [hg] at hK
      exact .inr ⟨hne, hK⟩
  have hO : ∀ b, Owned (msets s.me (newMe d (renC (back [] d) 3) cr.fresh)) (keyed β β' d cr.fresh.length) b → (b < w.heap.size → Owned s.me β b) ∧ (w.heap.size ≤ b → Owned (meBack cr) β' b) := by
    rintro b ⟨K, C, sz, h1, h2⟩
    rcases alive h1 with ⟨j, c, hj, hc, rfl, _, hg⟩ | ⟨hne, hk⟩
    · rw [keyed_new hj] at h2
      refine ⟨fun hlt => ?_, fun _ => ⟨_, c, sz, hg, h2⟩⟩
      rcases hmr.ow _ c b sz hg h2 with hb | hb
      · exact absurd hb (hbor b)
      · simp only at hb; omega
    · rw [keyed_old hne] at h2
      exact ⟨fun _ => ⟨K, C, sz, hk, h2⟩, fun hge => by have := h.mr.lt hk h2; omega⟩
  have mono : ∀ {x v}, RV F.B (Own F s.me β) w β x v → RV F.B (Own F (msets s.me (newMe d (renC (back [] d) 3) cr.fresh)) (keyed β β' d cr.fresh.length)) w' (keyed β β' d cr.fresh.length) x v := fun hx =>
    hx.mono (Nat.le_refl _) (fun b hb h2 => h2.imp fun h3 => (hO b h3).1 hb) hsz (fun b hb _ => hold b hb) _ (fun k x hk => kold hk)
  have turn := @res_turn F.B w.heap.size (Own ⟨w.heap.size, Owned (meOf []) bt0, w, offOf F s.me β K⟩ (meBack cr) β') (Own F (msets s.me (newMe d (renC (back [] d) 3) cr.fresh)) (keyed β β' d cr.fresh.length)) w' β' (keyed β β' d cr.fresh.length) (back [] d) hBw knew
    (fun b hb h2 => by
      rcases h2 with h2 | h2
      · exact .inl ((hO b h2).2 hb)
      · have := (h.mr.fr.offs b h2).1; omega)
  have alK : K = [] → ∀ b, Own F (msets s.me (newMe d (renC (back [] d) 3) cr.fresh)) (keyed β β' d cr.fresh.length) b → Own ⟨w.heap.size, Owned (meOf []) bt0, w, offOf F s.me β K⟩ (meBack cr) β' b := by
    rintro rfl b (h2 | h2)
    · by_cases hb : b < w.heap.size
      · exact .inr ⟨.inl ((hO b h2).1 hb), fun k hk => by cases hk⟩
      · exact .inl ((hO b h2).2 (by omega))
    · exact .inr ⟨.inr h2, fun k hk => by cases hk⟩
  have hbase : Rep nt F ⟨s.tm, msets s.me (newMe d (renC (back [] d) 3) cr.fresh)⟩ (keyed β β' d cr.fresh.length) a w' := by
    refine ⟨h.nt, h.df, fun t => mono (h.tm t), fun K hK => ?_, fun K C hK => ?_, fun K K' C C' b z z' e1 e2 e3 e4 => ?_, fun K C b z e1 e2 => ?_, ?_⟩
    · rw [hW] at hK
      rcases mget_new d (renC (back [] d) 3) cr.fresh K with ⟨j, c, hj, hc, rfl, hg⟩ | ⟨hne, hg⟩
      · rw [hg] at hK; cases hK
      · rw [hg] at hK; rw [keyed_old hne]; exact h.mr.un K hK
    · rcases alive hK with ⟨j, c, hj, hc, rfl, rfl, hg⟩ | ⟨hne, hk⟩
      · rw [keyed_new hj]
        have hbl := hmr.bl _ c hg
        have hrc := hfr c (List.mem_of_getElem? hc)
        have same : (renC (back [] d) 3 c).len = c.len ∧ (renC (back [] d) 3 c).count = c.count ∧ ∀ q u, q < c.len → RV w.heap.size (Own ⟨w.heap.size, Owned (meOf []) bt0, w, offOf F s.me β K⟩ (meBack cr) β') w' β' (c.get q) u → RV F.B (Own F (msets s.me (newMe d (renC (back [] d) 3) cr.fresh)) (keyed β β' d cr.fresh.length)) w' (keyed β β' d cr.fresh.length) ((renC (back [] d) 3 c).get q) u := by
          cases c with
          | gen l =>
            refine ⟨by simp [renC, Cells.len], by simp [renC, Cells.count], fun q u hq hu => ?_⟩
            simp only [Cells.len] at hq
            simp only [renC, Cells.get] at hu ⊢
            rw [getD_map_lt _ _ _ .any _ hq]
            have hm : l.getD q .any ∈ l := by simp [List.getD_eq_getElem?_getD, hq]
            refine turn (al := False) (fun h => h.elim) 3 _ u ?_ hu
            have h2 : resOk False 2 (l.getD q .any) := hrc _ hm
            generalize l.getD q .any = x at h2
            revert h2
            have up : ∀ (f : Nat) (x : AV), resOk False f x → resOk False (f + 1) x := by
              intro f
              induction f with
              | zero => intro x h; exact h.elim
              | succ f ih =>
                intro x h
                cases x with
                | agg c =>
                  cases c with
                  | gen l => exact fun y hy => ih y (h y hy)
                  | _ => exact h
                | tup l => exact fun y hy => ih y (h y hy)
                | _ => exact h
            exact up 2 x
          | _ => exact ⟨rfl, rfl, fun q u hq hu => hu.sc (Cells.sc_get (by exact hrc) q)⟩
        match hb2 : β' (2000 + j), hbl with
        | some none, hbl => exact ⟨by rw [same.1]; exact hbl.1, by rw [same.2.1]; exact hbl.2⟩
        | some (some (b, z)), ⟨cs, T, g1, g2, g3, g4, g5⟩ => exact ⟨cs, T, g1, g2, by rw [same.1]; exact g3, g4, fun q hq => same.2.2 q _ (by rw [← same.1]; exact hq) (g5 q (by rw [← same.1]; exact hq))⟩
      · rw [keyed_old hne]
        exact (h.mr.bl K C hk).mono (fun b z hb => hold b (h.mr.lt hk hb)) mono
    · rcases alive e1 with ⟨j, c, hj, hc, rfl, _, hg⟩ | ⟨hne, hk⟩ <;> rcases alive e2 with ⟨j', c', hj', hc', rfl, _, hg'⟩ | ⟨hne', hk'⟩
      · rw [keyed_new hj] at e3
        rw [keyed_new hj'] at e4
        have := hmr.inj _ _ c c' b z z' hg hg' e3 e4
        rw [show j = j' by omega]
      · rw [keyed_new hj] at e3
        rw [keyed_old hne'] at e4
        have h1 := h.mr.lt hk' e4
        rcases hmr.ow _ c b z hg e3 with hb | hb
        · exact absurd hb (hbor b)
        · simp only at hb; omega
      · rw [keyed_old hne] at e3
        rw [keyed_new hj'] at e4
        have h1 := h.mr.lt hk e3
        rcases hmr.ow _ c' b z' hg' e4 with hb | hb
        · exact absurd hb (hbor b)
        · simp only at hb; omega
      · rw [keyed_old hne] at e3
        rw [keyed_old hne'] at e4
        exact h.mr.inj K K' C C' b z z' hk hk' e3 e4
    · rcases alive e1 with ⟨j, c, hj, hc, rfl, _, hg⟩ | ⟨hne, hk⟩
      · rw [keyed_new hj] at e2
        rcases hmr.ow _ c b z hg e2 with hb | hb
        · exact absurd hb (hbor b)
        · right; simp only at hb; omega
      · rw [keyed_old hne] at e2
        exact h.mr.ow K C b z hk e2
    · refine ⟨hmr.fr.os.trans h.mr.fr.os, hmr.fr.tape.trans h.mr.fr.tape, hmr.fr.output.trans h.mr.fr.output, h.mr.fr.hB, Nat.le_trans hBw hsz, fun b hb hn => ?_, h.mr.fr.offs⟩
      rw [hold b (by omega)]
      exact h.mr.fr.keep b hb hn
  exact hbase.put hd (turn alK 3 _ _ hres hv)

def callOk (P : Program) (o : Oper) : MOp → Bool
  | .call mu f args => match o.op with
    | .call { callee := .value (.func g), args := xs, argTypes := _ } => !mu && f == g && opdsOk xs.toList (args.map (·.1)) && (P.funcs[f]?).any fun fn => fn.name != "runtime.NumGoroutine" && fn.body.isSome
    | _ => false
  | _ => false

theorem good_call (h : Rep nt F s β a w) (hd : ∀ t, o.dst = some t → t < nt) {m : MOp} (hok : callOk P o m = true) (hΓ : ∀ f, Meets P Γ f) (hΓm : ∀ f args, (Γ f args []).mem = []) {d : Nat} (hp : (core Γ d m s.tm (mget s.me)).pre) :
    Good P nt F s a w Q o (core Γ d m s.tm (mget s.me)) := by
  cases m <;> simp only [callOk, Bool.false_eq_true] at hok
  rename_i mu f args
  split at hok
  · rename_i g xs ts ho
    simp only [Bool.and_eq_true, Bool.not_eq_true', beq_iff_eq] at hok
    obtain ⟨⟨⟨rfl, rfl⟩, hx⟩, hfn⟩ := hok
    simp only [core, callR, Bool.false_eq_true, if_false] at hp ⊢
    obtain ⟨p1, p2, p3, p4, p5, p6⟩ := hp
    obtain ⟨hl, hrv⟩ := opdsOk_rv h hx
    generalize hKK : ((args.map fun x => (ev s.tm x.1, x.2)).flatMap fun x => keysOf (mget s.me) 3 x.1) = K at p4
    have hmr0 : MR ⟨w.heap.size, Owned (meOf []) bt0, w, offOf F s.me β K⟩ (meOf []) bt0 w :=
      ⟨fun _ _ => rfl, fun k c hk => by simp [meOf, mget] at hk, fun k k' c c' b z z' hk => by simp [meOf, mget] at hk, fun k c b z hk => by simp [meOf, mget] at hk,
        ⟨rfl, rfl, rfl, rfl, Nat.le_refl _, fun _ _ _ => rfl, fun b hb => ⟨by
          rcases hb.1 with ⟨k, c, sz, h1, h2⟩ | h1
          · exact h.mr.lt h1 h2
          · exact Nat.lt_of_lt_of_le (h.mr.fr.offs b h1).1 h.mr.fr.size, by rintro ⟨k, c, sz, h1, _⟩; simp [meOf, mget] at h1⟩⟩⟩
    have hO0 : Own ⟨w.heap.size, Owned (meOf []) bt0, w, offOf F s.me β K⟩ (meOf []) bt0 = offOf F s.me β K := by
      funext b
      apply propext
      constructor
      · rintro (⟨k, c, sz, h1, _⟩ | hh)
        · simp [meOf, mget] at h1
        · exact hh
      · intro hh; exact .inr hh
    generalize hvals : (args.map fun x => (ev s.tm x.1, x.2)) = vals at *
    have hlen : vals.length = args.length := by rw [← hvals]; simp
    have hcall := hΓ f _ _ p3 (offOf F s.me β K) bt0 (xs.toList.map a.eval) w (by simp [hl, hlen]) hmr0 (fun j hj => by
      simp only [List.length_map] at hj
      have hj2 : j < args.length := by omega
      have hr := hrv j (by simpa using hj2)
      rw [hO0]
      simp only [List.map_map] at hr ⊢
      rw [getD_map_lt _ _ _ (.any, none) _ hj]
      have hm : vals.getD j (.any, none) ∈ vals := by simp [List.getD_eq_getElem?_getD, hj]
      have he : (vals.getD j (.any, none)).1 = (args.map ((ev s.tm) ∘ (·.1))).getD j .any := by
        rw [← hvals, getD_map_lt _ _ _ (.c .any, none) _ hj2, getD_map_lt _ _ _ (.c .any, none) _ hj2]; rfl
      rw [← he] at hr
      have h2 := pur_rv h (K := K) 3 _ _ (fun k hk => by rw [← hKK]; exact List.mem_flatMap.2 ⟨_, hm, hk⟩) (p1 _ hm) hr
      exact coe_rv (p2 _ (List.mem_map.2 ⟨_, hm, rfl⟩)) h2)
    unfold Good Oper.wp
    have hrun : (execOp a.eval o).run P w = .ok (.enter f (xs.toList.map a.eval).toArray) w := by
      cases hF : P.funcs[f]? with
      | none => simp [hF] at hfn
      | some fn =>
        simp only [hF, Option.any_some, Bool.and_eq_true, bne_iff_ne] at hfn
        have hb : fn.body.isNone = false := by cases hbb : fn.body <;> simp [hbb] at hfn ⊢
        have hmapE : xs.map a.eval = (xs.toList.map a.eval).toArray := by apply Array.ext'; simp
        have hbb : ¬ (fn.body = none) := by intro e; rw [e] at hb; cases hb
        simp [execOp, ho, resolve, Deferred.ofValue, Act.eval, invoke, callFunc, hF, hfn.1, hbb]
        exact hmapE
    rw [hrun]
    simp only [Oper.upon]
    refine hcall.mono fun e w' he => ?_
    obtain ⟨v, β', rfl, hv, hm, _⟩ := he
    exact h.ret (hΓm _ _) p6 p4 p5 hv hm hd
  · cases hok
end
end Go.Vc

/-! Vc9 -/
set_option linter.unusedVariables false
set_option linter.unusedSimpArgs false
namespace Go.Vc

def moOk (P : Program) (nt : Nat) (ops : Array Oper) (o : Oper) (mo : MO) : Bool :=
  o.dst == mo.d && guardOk ops o.guard mo.g && (match mo.d with | some d => decide (d < nt) | none => true) && (match mo.g with | some (g, _) => decide (g < nt) | none => true) && (mopOk P o mo.op || callOk P o mo.op)
def opsOk (P : Program) (nt : Nat) (ops : Array Oper) : List Oper → List MO → Bool
  | [], [] => true
  | o :: r, m :: r' => moOk P nt ops o m && opsOk P nt ops r r'
  | _, _ => false

def aftOk (o : Oper) (mo : MO) : Bool := (o.after.toList.filterMap fun e => if Region.binds .any e = true then some e.on else none) == mo.aft
def aftsOk : List Oper → List MO → Bool
  | [], [] => true
  | o :: r, m :: r' => aftOk o m && aftsOk r r'
  | _, _ => false

/-- the program's code, held against the compiled one -/
def codeOk (P : Program) (nt : Nat) : Code → MC → Bool
  | c, .cut b => codeOk P nt c b
  | .skip, .skip => true
  | .label _, .skip => true
  | .region _ ops false, .region _ mos false _ => opsOk P nt ops ops.toList mos
  | .region _ ops true, .region _ mos true _ => P.follows .mixedOrders && opsOk P nt ops ops.toList mos && aftsOk ops.toList mos && drawOk [] mos
  | .seq a b, .seq a' b' => codeOk P nt a a' && codeOk P nt b b'
  | .cond c x y, .cond c' x' y' => opdOk c c' && codeOk P nt x x' && codeOk P nt y y'
  | .block id b, .block id' b' => id == id' && codeOk P nt b b'
  | .loop b, .loop b' => codeOk P nt b b'
  | .exit id, .exit id' => id == id'
  | .ret, .ret => true
  | _, .bad => true
  | _, _ => false

section
variable {P : Program} {nt : Nat} {F : Fr} {s : St} {β : Bt} {a : Act} {w : World} {Q : Exit → Act → World → Prop} {Γ : Ctr}

theorem opsOk_get {ops : Array Oper} : ∀ {l : List Oper} {mos : List MO}, opsOk P nt ops l mos = true → l.length = mos.length ∧ ∀ (k : Nat) (mo : MO), mos[k]? = some mo → ∃ o : Oper, l[k]? = some o ∧ moOk P nt ops o mo = true
  | [], [], _ => ⟨rfl, fun k mo hk => by simp at hk⟩
  | o :: r, m :: r', h => by
    simp only [opsOk, Bool.and_eq_true] at h
    obtain ⟨h1, h2⟩ := opsOk_get h.2
    refine ⟨by simp [h1], fun k mo hk => ?_⟩
    cases k with
    | zero => simp at hk; subst hk; exact ⟨o, rfl, h.1⟩
    | succ k => simpa using h2 k mo (by simpa using hk)
  | [], _ :: _, h => by simp [opsOk] at h
  | _ :: _, [], h => by simp [opsOk] at h

theorem aftsOk_get : ∀ {l : List Oper} {mos : List MO}, aftsOk l mos = true → ∀ (k : Nat) (o : Oper) (mo : MO), l[k]? = some o → mos[k]? = some mo → aftOk o mo = true
  | [], [], _, k, o, mo, hk, _ => by simp at hk
  | o :: r, m :: r', h, k, o', mo, hk, hm => by
    simp only [aftsOk, Bool.and_eq_true] at h
    cases k with
    | zero => simp at hk hm; subst hk; subst hm; exact h.1
    | succ k => exact aftsOk_get h.2 k o' mo (by simpa using hk) (by simpa using hm)
  | [], _ :: _, h, _, _, _, _, _ => by simp [aftsOk] at h
  | _ :: _, [], h, _, _, _, _, _ => by simp [aftsOk] at h

theorem moOk_right {ops : Array Oper} {o : Oper} {mo : MO} (h : moOk P nt ops o mo = true) (hΓ : ∀ f, Meets P Γ f) (hΓm : ∀ f args, (Γ f args []).mem = []) : OpRight P nt F Γ ops o mo ∧ ∀ g b, mo.g = some (g, b) → g < nt := by
  unfold moOk at h
  simp only [Bool.and_eq_true, beq_iff_eq, Bool.or_eq_true] at h
  obtain ⟨⟨⟨⟨h1, h2⟩, h3⟩, h4⟩, h5⟩ := h
  have hlt : ∀ d, mo.d = some d → d < nt := by intro d hd; rw [hd] at h3; simpa using h3
  refine ⟨⟨h1, h2, hlt, fun s β a w Q hr hp => ?_⟩, fun g b hg => by rw [hg] at h4; simpa using h4⟩
  have hd : ∀ t, o.dst = some t → t < nt := fun t ht => hlt t (by rw [← h1]; exact ht)
  rcases h5 with h5 | h5
  · exact mop_sound hr hd h5 hp
  · exact good_call hr hd h5 hΓ hΓm hp

theorem vc_sound (hΓ : ∀ f, Meets P Γ f) (hΓm : ∀ f args, (Γ f args []).mem = []) {pf : Prop} (hpf : pf → ∀ b, ¬ F.bor b) : ∀ (mc : MC) (c : Code) (Qv : Ex → St → Prop) (Q : Exit → Act → World → Prop) (s : St) (β : Bt) (a : Act) (w : World), codeOk P nt c mc = true → vc Γ pf mc Qv s →
    Rep nt F s β a w → (∀ e s β a w, Rep nt F s β a w → Qv e s → Q e.to a w) → c.wp P Q a w
  | .skip, c, Qv, Q, s, β, a, w, hc, hv, h, hQ => by
    cases c <;> simp only [codeOk, Bool.false_eq_true] at hc
    · exact wp_skip (hQ .normal s β a w h hv)
    · exact wp_label (hQ .normal s β a w h hv)
  | .region id mos false live, c, Qv, Q, s, β, a, w, hc, hv, h, hQ => by
    cases c <;> first | (simp only [codeOk, Bool.false_eq_true] at hc; done) | skip
    rename_i id' ops draw'
    cases draw' <;> simp only [codeOk, Bool.false_eq_true] at hc
    obtain ⟨h1, h2⟩ := opsOk_get hc
    refine wp_region ?_
    rw [List.range_eq_range', show ops.size = mos.length by rw [← h1]; simp]
    refine vcOps_sound (ops := ops) (fun s β a w hr hk => hQ .normal _ β a w (hr.keep live) hk) mos 0 s β a w (fun k mo hk => ?_) (fun mo hm g b hg => ?_) hv h
    · obtain ⟨o, ho, hmo⟩ := h2 k mo hk
      exact ⟨o, by simpa using ho, (moOk_right hmo hΓ hΓm).1⟩
    · obtain ⟨k, hk⟩ := List.mem_iff_getElem?.1 hm
      obtain ⟨o, ho, hmo⟩ := h2 k mo hk
      exact (moOk_right (F := F) hmo hΓ hΓm).2 g b hg
  | .region id mos true live, c, Qv, Q, s, β, a, w, hc, hv, h, hQ => by
    cases c <;> first | (simp only [codeOk, Bool.false_eq_true] at hc; done) | skip
    rename_i id' ops draw'
    cases draw' <;> simp only [codeOk, Bool.false_eq_true, Bool.and_eq_true] at hc
    obtain ⟨⟨⟨hm, hops⟩, haf⟩, hdr⟩ := hc
    obtain ⟨h1, h2⟩ := opsOk_get hops
    refine wp_region_any hm ?_
    refine vcOpsD_sound (ops := ops) (fun s β a w hr hk => hQ .normal _ β a w (hr.keep live) hk) (by rw [← h1]; simp) (fun k mo hk => ?_) (fun mo hm g b hg => ?_) hdr hv ⟨h.nt, h.df, h.drew.tm, h.drew.mr⟩
    · obtain ⟨o, ho, hmo⟩ := h2 k mo hk
      refine ⟨o, by simpa using ho, (moOk_right hmo hΓ hΓm).1, fun e => ?_⟩
      have := aftsOk_get haf k o mo ho hk
      simp only [aftOk, beq_iff_eq] at this
      rw [← this, List.mem_filterMap]
      constructor
      · rintro ⟨z, hz, hz'⟩
        split at hz'
        · rename_i hb; exact ⟨z, by simpa using hz, hb, by simpa using hz'⟩
        · cases hz'
      · rintro ⟨z, hz, hb, rfl⟩
        exact ⟨z, by simpa using hz, by rw [if_pos hb]⟩
    · obtain ⟨k, hk⟩ := List.mem_iff_getElem?.1 hm
      obtain ⟨o, ho, hmo⟩ := h2 k mo hk
      exact (moOk_right (F := F) hmo hΓ hΓm).2 g b hg
  | .seq x y, c, Qv, Q, s, β, a, w, hc, hv, h, hQ => by
    cases c <;> simp only [codeOk, Bool.false_eq_true] at hc
    simp only [Bool.and_eq_true] at hc
    refine wp_seq (vc_sound hΓ hΓm hpf x _ _ _ s β a w hc.1 hv h fun e s β a w hr hq => ?_)
    cases e with
    | normal => exact vc_sound hΓ hΓm hpf y _ Qv Q s β a w hc.2 hq hr hQ
    | exit id => exact hQ (.exit id) s β a w hr hq
    | ret => exact hQ .ret s β a w hr hq
  | .cond c0 x y, c, Qv, Q, s, β, a, w, hc, hv, h, hQ => by
    cases c <;> simp only [codeOk, Bool.false_eq_true] at hc
    simp only [Bool.and_eq_true] at hc
    have he := h.ev hc.1.1
    simp only [vc] at hv
    cases hev : ev s.tm c0 <;> rw [hev] at hv he <;> simp only at hv
    rename_i b
    rename_i co cx cy
    generalize hce : a.eval co = vcond at he
    cases he
    exact wp_cond_split hce (fun hb => vc_sound hΓ hΓm hpf x _ Qv Q s β a w hc.1.2 (hv.1 hb) h hQ) (fun hb => vc_sound hΓ hΓm hpf y _ Qv Q s β a w hc.2 (hv.2 hb) h hQ)
  | .block id b, c, Qv, Q, s, β, a, w, hc, hv, h, hQ => by
    cases c <;> simp only [codeOk, Bool.false_eq_true] at hc
    simp only [Bool.and_eq_true, beq_iff_eq] at hc
    obtain ⟨rfl, hc⟩ := hc
    refine wp_block (vc_sound hΓ hΓm hpf b _ _ _ s β a w hc hv h fun e s β a w hr hq => ?_)
    cases e with
    | normal => exact hQ .normal s β a w hr hq
    | exit id' =>
      simp only [Ex.to, Exit.inBlock]
      simp only [Ex.blk] at hq
      split
      · rename_i e; rw [if_pos e] at hq; exact hQ .normal s β a w hr hq
      · rename_i e; rw [if_neg e] at hq; exact hQ (.exit id') s β a w hr hq
    | ret => exact hQ .ret s β a w hr hq
  | .loop b, c, Qv, Q, s, β, a, w, hc, hv, h, hQ => by
    cases c <;> simp only [codeOk, Bool.false_eq_true] at hc
    rename_i cb
    obtain ⟨ι, G, S, μ, i0, ρ0, hG, hle, hround⟩ := hv
    obtain ⟨β0, h0⟩ := h.le hpf hle
    refine wp_loop_n (fun n a w => ∃ i β, μ i = n ∧ G i ∧ Rep nt F (S i) β a w) (μ i0) ⟨i0, β0, rfl, hG, h0⟩ ?_
    rintro n a w ⟨i, β, rfl, hGi, hr⟩
    refine vc_sound hΓ hΓm hpf b _ _ _ (S i) β a w hc (hround i hGi) hr fun e s β a w hr hq => ?_
    cases e with
    | normal =>
      obtain ⟨j, ρ, hj, hlt, hle⟩ := hq
      obtain ⟨β', hr'⟩ := hr.le hpf hle
      exact ⟨μ j, hlt, j, β', rfl, hj, hr'⟩
    | exit id => exact hQ (.exit id) s β a w hr hq
    | ret => exact hQ .ret s β a w hr hq
  | .exit id, c, Qv, Q, s, β, a, w, hc, hv, h, hQ => by
    cases c <;> simp only [codeOk, Bool.false_eq_true] at hc
    simp only [beq_iff_eq] at hc
    subst hc
    exact wp_exit (hQ (.exit _) s β a w h hv)
  | .ret, c, Qv, Q, s, β, a, w, hc, hv, h, hQ => by
    cases c <;> simp only [codeOk, Bool.false_eq_true] at hc
    exact wp_ret (hQ .ret s β a w h hv)
  | .bad, c, Qv, Q, s, β, a, w, hc, hv, h, hQ => hv.elim
  | .cut b, c, Qv, Q, s, β, a, w, hc, hv, h, hQ => by
    have hc' : codeOk P nt c b = true := by unfold codeOk at hc; exact hc
    obtain ⟨S, ρ, hle, hv⟩ := hv
    obtain ⟨β', hr⟩ := h.le hpf hle
    exact vc_sound hΓ hΓm hpf b c Qv Q S β' a w hc' hv hr hQ

/-- a result: a slot, or a variable's cells -/
def rv1 (s : St) : Nat × Option (Option Nat) → R
  | (t, none) => okv True (tget s.tm t)
  | (t, some sz) => match tget s.tm t with
    | .ptr k o => match mget s.me k with
      | some (some c) => okv (c.has o (sz.getD 1)) (c.rd o sz)
      | _ => fail
    | _ => fail
def resT (n : Nat) (res : AV) : Tm := if n = 1 then [(0, res)] else match res with
  | .tup l => l.mapIdx fun i x => (i, x)
  | _ => []
/-- what stands at the end is what the contract says -/
def Out (rs : List (Nat × Option (Option Nat))) (cr : CR) (s : St) : Prop :=
  (∀ r ∈ rs, (rv1 s r).pre) ∧ (rs.length = 1 ∨ ∃ l, cr.res = .tup l ∧ l.length = rs.length) ∧ ∃ ρ, LE True ρ ⟨rs.mapIdx fun i r => (i, (rv1 s r).v), s.me⟩ ⟨resT rs.length cr.res, meBack cr⟩

def resultsOk (P : Program) : List ResultVar → List (Nat × Option (Option Nat)) → Bool
  | [], [] => true
  | .tmp t :: r, (t', none) :: r' => t == t' && resultsOk P r r'
  | .cell t ty :: r, (t', some sz) :: r' => t == t' && tyAg P ty == some sz && resultsOk P r r'
  | _, _ => false

theorem run_results (h : Rep nt F s β a w) : ∀ {rv : List ResultVar} {rs : List (Nat × Option (Option Nat))}, resultsOk P rv rs = true → (∀ r ∈ rs, (rv1 s r).pre) →
    ∃ vs : List Value, (rv.mapM (fun | .tmp t => pure (a.tmps.getD t undef) | .cell x t => do loadVar t (← asAddr (a.tmps.getD x undef)) : ResultVar → Sem Value)).run P w = .ok vs w ∧ vs.length = rs.length ∧
      ∀ j, j < rs.length → RV F.B (Own F s.me β) w β ((rs.map fun r => (rv1 s r).v).getD j .any) (vs.getD j undef)
  | [], [], _, _ => ⟨[], by simp, rfl, fun j hj => by simp at hj⟩
  | .tmp t :: r, (t', none) :: r', hok, hp => by
    simp only [resultsOk, Bool.and_eq_true, beq_iff_eq] at hok
    obtain ⟨rfl, hok⟩ := hok
    obtain ⟨vs, h1, h2, h3⟩ := run_results h hok (fun r hr => hp r (List.mem_cons_of_mem _ hr))
    refine ⟨a.tmps.getD t undef :: vs, ?_, by simp [h2], fun j hj => ?_⟩
    · rw [List.mapM_cons]; simp only [Sem.run_bind, Sem.run_pure, Result.andThen_ok, h1]
    · cases j with
      | zero => exact h.tm t
      | succ j => have := h3 j (by simpa using hj); simpa using this
  | .cell t ty :: r, (t', some sz) :: r', hok, hp => by
    simp only [resultsOk, Bool.and_eq_true, beq_iff_eq] at hok
    obtain ⟨⟨rfl, hty⟩, hok⟩ := hok
    obtain ⟨vs, h1, h2, h3⟩ := run_results h hok (fun r hr => hp r (List.mem_cons_of_mem _ hr))
    have hp0 := hp (t, some sz) (List.mem_cons_self ..)
    have ht := h.tm t
    simp only [rv1] at hp0
    cases hev : tget s.tm t <;> simp only [hev, fail] at hp0
    rename_i k off
    cases hk : mget s.me k with
    | none => simp [hk] at hp0
    | some y0 =>
      cases y0 with
      | none => simp [hk] at hp0
      | some c =>
        simp only [hk] at hp0
        have hh : c.has off (sz.getD 1) := hp0
        rw [hev] at ht
        generalize hae : a.tmps.getD t undef = ve at ht
        cases ht with
        | ptr hb =>
        rename_i b z
        have hbl := h.mr.bl k c hk
        rw [hb] at hbl
        obtain ⟨cs, T, g1, g2, g3, g4, g5⟩ := hbl
        have key : ∃ v, (loadVar ty ⟨b, off, none⟩).run P w = .ok v w ∧ RV F.B (Own F s.me β) w β (c.rd off sz) v := by
          cases sz with
          | none =>
            have hlt : off < cs.size := by have := hh.1; simp at this; omega
            have hc : w.cell? ⟨b, off, none⟩ = some (cs.getD off undef) := by
              rw [cell_of_row w b off cs T _ g1]; simp [Array.getD, hlt]
            exact ⟨_, run_loadVar_one hty hc, g5 off (by have := hh.1; simp at this; omega)⟩
          | some m =>
            simp only [Option.getD_some] at hh
            have q := rv_sub (w := w) (us := cs.toList) (by simp; omega) g4 (fun j hj => by have := g5 j hj; simpa using this) hh
            have hc : ∀ j u, ((cs.toList.drop off).take m)[j]? = some u → w.cell? ((⟨b, off, none⟩ : Addr).add j) = some u := by
              intro j u hu
              rw [add_cell, cell_of_row w b _ cs T _ g1]
              rw [List.getElem?_take] at hu
              split at hu
              · simpa [List.getElem?_drop] using hu
              · cases hu
            exact ⟨_, run_loadVar_agg (P := P) (w := w) (t := ty) (by rw [q.2]; exact hty) hc, q.1⟩
        obtain ⟨v, hv1, hv2⟩ := key
        refine ⟨v :: vs, ?_, by simp [h2], fun j hj => ?_⟩
        · have hea : (asAddr (a.tmps.getD t undef)).run P w = .ok ⟨b, off, none⟩ w := by rw [hae]; rfl
          rw [List.mapM_cons]; simp only [Sem.run_bind, hea, Result.andThen_ok, hv1, h1, Sem.run_pure]
        · cases j with
          | zero =>
            have e : (rv1 s (t, some sz)).v = c.rd off sz := by simp only [rv1, hev, hk, okv]
            show RV _ _ _ _ ((rv1 s (t, some sz)).v) v
            rw [e]; exact hv2
          | succ j => have := h3 j (by simpa using hj); simpa using this
  | [], _ :: _, hok, _ => by simp [resultsOk] at hok
  | .tmp _ :: _, [], hok, _ => by simp [resultsOk] at hok
  | .cell _ _ :: _, [], hok, _ => by simp [resultsOk] at hok
  | .tmp _ :: _, (_, some _) :: _, hok, _ => by simp [resultsOk] at hok
  | .cell _ _ :: _, (_, none) :: _, hok, _ => by simp [resultsOk] at hok

theorem tget_idx (l : List AV) (t : Nat) : tget (l.mapIdx fun i x => (i, x)) t = l.getD t .any := by
  have : ∀ (l : List AV) (i0 t : Nat), tget (l.mapIdx fun i x => (i0 + i, x)) (i0 + t) = l.getD t .any := by
    intro l
    induction l with
    | nil => intro i0 t; rfl
    | cons x r ih =>
      intro i0 t
      simp only [List.mapIdx_cons, tget]
      have e2 : (fun (i : Nat) (x : AV) => (i0 + (i + 1), x)) = fun i x => (i0 + 1 + i, x) := by funext i x; congr 1; omega
      cases t with
      | zero => simp
      | succ t =>
        rw [if_neg (by omega), e2, show i0 + (t + 1) = i0 + 1 + t by omega, ih (i0 + 1) t]; simp
  have := this l 0 t
  simpa using this

/-- what a function's compiled code must show for a call of it -/
def VcFn (Γ : Ctr) (rs : List (Nat × Option (Option Nat))) (mc : MC) (args : List AV) (cr : CR) : Prop :=
  cr.mem = [] ∧ vc Γ True mc (fun e s => match e with | .exit _ => False | _ => Out rs cr s) ⟨args.mapIdx fun i x => (i, x), []⟩

/-- the program's function is the compiled one -/
def fnOk (P : Program) (f : Nat) (mc : MC) (rs : List (Nat × Option (Option Nat))) : Bool :=
  match P.funcs[f]? with
  | some fn => (match fn.body with | some c => codeOk P fn.ntmps c mc | none => false) && resultsOk P fn.results.toList rs
  | none => false

theorem callSat_of_vc (hΓ : ∀ f, Meets P Γ f) (hΓm : ∀ f args, (Γ f args []).mem = []) {f : Nat} {mc : MC} {rs : List (Nat × Option (Option Nat))} (hok : fnOk P f mc rs = true) {args : List AV} {cr : CR} (hv : VcFn Γ rs mc args cr)
    (hn : ∀ fn, P.funcs[f]? = some fn → args.length ≤ fn.ntmps) : CallSat P f args [] cr := by
  intro off β vs w hlen hmr hargs
  obtain ⟨hmem, hv⟩ := hv
  unfold fnOk at hok
  cases hF : P.funcs[f]? with
  | none => rw [hF] at hok; cases hok
  | some fn =>
    rw [hF] at hok
    simp only [Bool.and_eq_true] at hok
    obtain ⟨hok, hres⟩ := hok
    have hn := hn fn hF
    cases hB : fn.body with
    | none => rw [hB] at hok; cases hok
    | some c =>
      rw [hB] at hok
      have hbor : True → ∀ b, ¬ (⟨w.heap.size, Owned (meOf []) β, w, off⟩ : Fr).bor b := by rintro - b ⟨k, c, sz, h1, h2⟩; simp [meOf, mget] at h1
      refine calls_of_wp hF hB ?_
      have hrep : Rep fn.ntmps ⟨w.heap.size, Owned (meOf []) β, w, off⟩ ⟨args.mapIdx fun i x => (i, x), []⟩ β { tmps := vs.toArray ++ Array.replicate (fn.ntmps - vs.toArray.size) undef, defers := [] } w := by
        refine ⟨by simp; omega, rfl, fun t => ?_, hmr⟩
        rw [tget_idx]
        by_cases ht : t < args.length
        · have := hargs t ht
          have e : (vs.toArray ++ Array.replicate (fn.ntmps - vs.toArray.size) undef).getD t undef = vs.getD t undef := by
            simp [Array.getD_eq_getD_getElem?, List.getD_eq_getElem?_getD, Array.getElem?_append, show t < vs.length by omega]
          rw [e]; exact this
        · have e : args.getD t .any = .any := by simp [List.getD_eq_getElem?_getD, show ¬ t < args.length by omega]
          rw [e]; exact .any
      refine vc_sound hΓ hΓm hbor mc c _ _ _ β _ w hok hv hrep fun e s' β' a' w' hr hq => ?_
      have fin : Out rs cr s' → a'.defers = [] ∧ ∃ v, (results fn a'.tmps).run P w' = .ok v w' ∧ ∃ v0 β2, Ending.returned v = .returned v0 ∧ RV w.heap.size (Own ⟨w.heap.size, Owned (meOf []) β, w, off⟩ (meBack cr) β2) w' β2 cr.res v0 ∧ MR ⟨w.heap.size, Owned (meOf []) β, w, off⟩ (meBack cr) β2 w' ∧ (∀ j, j < ([] : List Cells).length → β2 (1000 + j) = β (1000 + j)) := by
        rintro ⟨o1, o2, ρ, o3⟩
        refine ⟨hr.df, ?_⟩
        obtain ⟨us, h1, h2, h3⟩ := run_results (P := P) hr hres o1
        have hps : Rep us.length ⟨w.heap.size, Owned (meOf []) β, w, off⟩ ⟨rs.mapIdx fun i r => (i, (rv1 s' r).v), s'.me⟩ β' ⟨us.toArray, []⟩ w' := by
          refine ⟨by simp, rfl, fun t => ?_, hr.mr⟩
          have e0 : (rs.mapIdx fun i r => (i, (rv1 s' r).v)) = (rs.map fun r => (rv1 s' r).v).mapIdx fun i x => (i, x) := by
            apply List.ext_getElem?; intro j; simp [List.getElem?_mapIdx]; cases rs[j]? <;> rfl
          simp only [e0, tget_idx]
          by_cases ht : t < rs.length
          · have := h3 t ht
            have e : us.toArray.getD t undef = us.getD t undef := by simp [List.getD_eq_getElem?_getD]
            rw [e]; exact this
          · have e : (rs.map fun r => (rv1 s' r).v).getD t .any = .any := by simp [List.getD_eq_getElem?_getD, show ¬ t < rs.length by omega]
            rw [e]; exact .any
        obtain ⟨β2, h4⟩ := hps.le hbor o3
        have hmapM : (results fn a'.tmps).run P w' = .ok (if h : us.length = 1 then us.getD 0 undef else .tuple us.toArray) w' := by
          unfold results
          rw [Array.mapM_eq_mapM_toList]
          simp only [Sem.run_bind, Sem.run_map]
          refine (congrArg (fun r : Result (List Value) => ((r.andThen fun a w' => Result.ok a.toArray w').andThen fun a w' => Sem.run P (pure (if h : a.size = 1 then a[0] else Value.tuple a)) w')) h1).trans ?_
          simp only [Result.andThen_ok, Sem.run_pure]
          by_cases hu : us.length = 1
          · obtain ⟨u, rfl⟩ := List.length_eq_one_iff.1 hu
            rfl
          · rw [dif_neg hu]
            simp [hu]
        refine ⟨_, hmapM, _, β2, rfl, ?_, h4.mr, fun j hj => by simp at hj⟩
        have ht := h4.tm
        simp only [resT] at ht
        by_cases hu : us.length = 1
        · rw [dif_pos hu]
          rw [if_pos (by omega)] at ht
          have := ht 0
          simpa [tget, List.getD_eq_getElem?_getD] using this
        · rw [dif_neg hu]
          rw [if_neg (by omega)] at ht
          rcases o2 with o2 | ⟨l, hl, hll⟩
          · omega
          · rw [hl] at ht ⊢
            refine .tup (by omega) (fun j hj => ?_)
            have := ht j
            simp only at this
            rw [tget_idx] at this
            simpa [List.getD_eq_getElem?_getD] using this
      cases e with
      | normal => exact fin hq
      | ret => exact fin hq
      | exit id => exact hq.elim
end
end Go.Vc

/-! Vc11 -/
set_option linter.unusedVariables false
namespace Go.Vc

def noCon : CR := ⟨False, .any, [], []⟩
def Ctr.none_ : Ctr := fun _ _ _ => noCon
/-- f's contract comes to the table (it hands no memory over) -/
def Ctr.add (Γ : Ctr) (f : Nat) (con : List AV → CR) : Ctr := fun g args L => if g = f then (match L with | [] => con args | _ => noCon) else Γ g args L

structure Sound (P : Program) (Γ : Ctr) : Prop where
  meets : ∀ f, Meets P Γ f
  nomem : ∀ f args, (Γ f args []).mem = []

theorem Sound.none_ (P : Program) : Sound P Ctr.none_ := ⟨fun f args L h => h.elim, fun f args => rfl⟩

theorem Sound.add {P : Program} {Γ : Ctr} (h : Sound P Γ) {f : Nat} {con : List AV → CR} (hm : ∀ args, (con args).mem = []) (hc : ∀ args, (con args).pre → CallSat P f args [] (con args)) : Sound P (Γ.add f con) := by
  refine ⟨fun g args L hp => ?_, fun g args => ?_⟩
  · unfold Ctr.add at hp ⊢
    split
    · rename_i e; subst e
      cases L with
      | nil => exact hc args (by simpa using hp)
      | cons x r => simp [noCon] at hp
    · rename_i e; rw [if_neg e] at hp; exact h.meets g args L hp
  · unfold Ctr.add
    split
    · exact hm args
    · exact h.nomem g args

def ntOk (P : Program) (f n : Nat) : Bool := match P.funcs[f]? with
  | some fn => decide (n ≤ fn.ntmps)
  | none => false

theorem Sound.call {P : Program} {Γ : Ctr} (h : Sound P Γ) {f : Nat} {mc : MC} {rs : List (Nat × Option (Option Nat))} (hok : fnOk P f mc rs = true) {args : List AV} {cr : CR} (hn : ntOk P f args.length = true) (hv : VcFn Γ rs mc args cr) : CallSat P f args [] cr :=
  callSat_of_vc h.meets h.nomem hok hv fun fn hfn => by simpa [ntOk, hfn] using hn
end Go.Vc
