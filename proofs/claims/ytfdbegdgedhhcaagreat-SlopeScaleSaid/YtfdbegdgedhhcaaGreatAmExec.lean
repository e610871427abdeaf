import Derived.Test.YtfdbegdgedhhcaaGreatAmData
set_option linter.all false
/- The same meaning, with a name for each place where it may stand still; and how to go on from there. -/
namespace Go.AM

/-- What is to come: left alone until it is asked. -/
class Kt (α : Type) where
  run : α
/-- The same, out of its shell. -/
def hid {α : Type} [k : Kt α] : α := k.run

section
variable {R : Type}
def idxK (s : Nat) (v : AV) (i : Int) (K : AV → Option R) : Option R :=
  match v with
  | .imm n cs => if 0 ≤ i ∧ i < (n : Int) then K (.iptr cs (i.toNat * s)) else none
  | .ref l g off n => if 0 ≤ i ∧ i < (n : Int) then K (.ptr l g (off + i.toNat * s)) else none
  | _ => none
def fldK (o : Nat) (v : AV) (K : AV → Option R) : Option R :=
  match v with
  | .ptr l g off => K (.ptr l g (off + o))
  | .iptr cs off => K (.iptr cs (off + o))
  | _ => none
def cutK (s : Nat) (h : Heap) (v : AV) (a b : Int) (K : AV → Option R) : Option R :=
  match v with
  | .nil => K .nil
  | .imm _ cs => K (.imm (b.toNat - a.toNat) ((cs.drop (a.toNat * s)).take ((b.toNat - a.toNat) * s)))
  | .ref l g off _ => blockK h l g fun s' _ => if s' = s then K (.ref l g (off + a.toNat * s) (b.toNat - a.toNat)) else none
  | _ => none
def storeK (base n : Nat) (h : Heap) (p : AV) (x : AV) (K : Heap → Option R) : Option R :=
  match p with
  | .ptr l g off => if base ≤ l then cellsK x fun vs => if vs.length = n then blockK h l g fun s cs => if off + n ≤ cs.length then K (h.set l (.cells g s (layAt cs off vs))) else none else none else none
  | _ => none
def appK (base s bytes : Nat) (h : Heap) (x : AV) (ys : List AV) (m : Nat) (K : AV → Heap → Option R) : Option R :=
  match x with
  | .nil => if m * bytes ≤ 140737488355328 ∧ m ≤ 140737488355328 then (if m = 0 then K .nil h else K (.ref h.length 0 0 m) (h ++ [.cells 0 s ys])) else none
  | .ref l g off n => if base ≤ l ∧ off = 0 ∧ (n + m) * bytes ≤ 140737488355328 ∧ n + m ≤ 140737488355328 then
      blockK h l g fun s' cs => if s' = s ∧ n * s = cs.length then K (.ref l (g + 1) 0 (n + m)) (h.set l (.cells (g + 1) s (cs ++ ys))) else none
      else none
  | _ => none
def copyK (base s : Nat) (h : Heap) (x : AV) (ys : List AV) (m : Nat) (K : AV → Heap → Option R) : Option R :=
  match x with
  | .ref l g off n => if base ≤ l ∧ m * s = ys.length then blockK h l g fun s' cs => if s' = s ∧ off + n * s ≤ cs.length then K (.int .i64 ((Nat.min m n : Nat) : Int)) (h.set l (.cells g s (layAt cs off (ys.take (Nat.min m n * s))))) else none else none
  | _ => none
def clearK (base s : Nat) (zs : List AV) (h : Heap) (x : AV) (K : Heap → Option R) : Option R :=
  match x with
  | .nil => K h
  | .ref l g off n => if base ≤ l then blockK h l g fun s' cs => if s' = s ∧ off + n * s ≤ cs.length then K (h.set l (.cells g s (layAt cs off ((List.replicate n zs).flatten)))) else none else none
  | _ => none
def mapAtK (h : Heap) (m : AV) (K : Nat → List (ByteArray × AV) → Option R) : Option R :=
  match m with
  | .map l => (match h[l]? with
    | some (.map es) => K l es
    | _ => none)
  | _ => none
def callK (C : CallT) (b g : Nat) (as : List AV) (h : Heap) (K : AV → Heap → Option R) : Option R := (C b g as h).bind fun p => K p.1 p.2
def loopH (L : LoopT) (b : Nat) (c : ACode) (e : Env) (h : Heap) (K : AExit → Env → Heap → Option R) : Option R := (L b c e h).bind fun r => K r.1 r.2.1 r.2.2
/-- One cell. -/
def readK1 (h : Heap) (p : AV) (n : Nat) (K : AV → Option R) : Option R := readK h p n fun cs => match cs with
  | [v] => K v
  | _ => none
/-- Only so. -/
def guardK (c : Prop) [Decidable c] (x : Option R) : Option R := if c then x else none
def grdK (v : AV) (F : Bool → Option R) (z : Option R) : Option R :=
  match v with
  | .bool b => F b
  | .tup [] => z
  | _ => none
def fnK (v : AV) (K : Nat → List AV → Option R) : Option R :=
  match v with
  | .fn g cap => K g cap
  | _ => none
def nilK (v : AV) (K : AV → Option R) : Option R :=
  match v with
  | .ptr l g off => K (.ptr l g off)
  | .iptr cs off => K (.iptr cs off)
  | _ => none
def fieldK (off n : Nat) (whole : Bool) (v : AV) (K : AV → Option R) : Option R :=
  match v with
  | .agg cs => guardK (off + n ≤ cs.length) (match whole, (cs.drop off).take n with
      | true, ds => K (.agg ds)
      | false, [v] => K v
      | false, _ => none)
  | _ => none
def extrK (i : Nat) (v : AV) (K : AV → Option R) : Option R :=
  match v with
  | .tup vs => (vs[i]?).bind K
  | _ => none
def strK (v : AV) (K : ByteArray → Option R) : Option R :=
  match v with
  | .str t => K t
  | _ => none
def nextK (base : Nat) (h : Heap) (v : AV) (K : AV → Heap → Option R) : Option R :=
  match v with
  | .iter l => guardK (base ≤ l) (match h[l]? with
    | some (.iter s pos) => if pos < s.size then K (.tup [.bool true, .int .i64 (pos : Int), .int .i32 ((Utf8.decode s pos).1 : Int)]) (h.set l (.iter s (pos + (Utf8.decode s pos).2))) else K (.tup [.bool false]) h
    | _ => none)
  | _ => none
/-- Go on behind what is told. -/
def joinK {A : Type} (x : Option A) (K : A → Option R) : Option R := x.bind K
/-- The right one of two. -/
def iteK (b : Bool) (x y : Option R) : Option R := if b = true then x else y
end

section
variable {R : Type} (base : Nat) (C : CallT)
def execN (op : AOp) (e : Env) (h : Heap) (K : AV → Heap → Option R) : Option R :=
  match op with
  | .fieldAddr o x => fldK o (e.ev x) (@hid _ ⟨fun v => K v h⟩)
  | .indexAddr s x i => intK (e.ev i) (@hid _ ⟨fun _ i => idxK s (e.ev x) i (@hid _ ⟨fun v => K v h⟩)⟩)
  | .cut s x lo hi => lenK (e.ev x) (@hid _ ⟨fun n =>
      intK (match hi with | some y => e.ev y | none => .int .i64 (n : Int)) (@hid _ ⟨fun _ b => intK (match lo with | some y => e.ev y | none => .int .i64 0) (@hid _ ⟨fun _ a =>
        guardK (0 ≤ a ∧ a ≤ b ∧ b ≤ (n : Int)) (cutK s h (e.ev x) a b (@hid _ ⟨fun v => K v h⟩))⟩)⟩)⟩)
  | .store n a x => storeK base n h (e.ev a) (e.ev x) (@hid _ ⟨fun h => K (.tup []) h⟩)
  | .append s bytes x y => sliceK h s (e.ev y) (@hid _ ⟨fun ys => lenK (e.ev y) (@hid _ ⟨fun m => guardK (m * s = ys.length) (appK base s bytes h (e.ev x) ys m K)⟩)⟩)
  | .copy s x y => sliceK h s (e.ev y) (@hid _ ⟨fun ys => lenK (e.ev y) (@hid _ ⟨fun m => copyK base s h (e.ev x) ys m K⟩)⟩)
  | .clear s zs x => clearK base s zs h (e.ev x) (@hid _ ⟨fun h => K (.tup []) h⟩)
  | .call q ty g as => callK C (if q = true then h.length else base) g (evs e as) h (@hid _ ⟨fun v h => castK ty v (@hid _ ⟨fun v => K v h⟩)⟩)
  | .load n true ty x => readK h (e.ev x) n (@hid _ ⟨fun cs => castK ty (.agg cs) (@hid _ ⟨fun v => K v h⟩)⟩)
  | .load n false ty x => readK1 h (e.ev x) n (@hid _ ⟨fun v => castK ty v (@hid _ ⟨fun v => K v h⟩)⟩)
  | .callv q ty x as => fnK (e.ev x) (@hid _ ⟨fun g cap => callK C (if q = true then h.length else base) g (evs e as ++ cap) h (@hid _ ⟨fun v h => castK ty v (@hid _ ⟨fun v => K v h⟩)⟩)⟩)
  | .nilCheck x => nilK (e.ev x) (@hid _ ⟨fun v => K v h⟩)
  | .field off n whole x => fieldK off n whole (e.ev x) (@hid _ ⟨fun v => K v h⟩)
  | .extract x i => extrK i (e.ev x) (@hid _ ⟨fun v => K v h⟩)
  | .index x i => intK (e.ev i) (@hid _ ⟨fun _ i => strK (e.ev x) (@hid _ ⟨fun t => guardK (0 ≤ i ∧ i < (t.size : Int)) (K (.int .u8 ((t.get! i.toNat).toNat : Int)) h)⟩)⟩)
  | .lenStr x => strK (e.ev x) (@hid _ ⟨fun t => K (.int .i64 (t.size : Int)) h⟩)
  | .range x => strK (e.ev x) (@hid _ ⟨fun t => K (.iter h.length) (h ++ [.iter t 0])⟩)
  | .next x => nextK base h (e.ev x) K
  | .lookup zero ty m k => mapAtK h (e.ev m) (@hid _ ⟨fun _ es => strK (e.ev k) (@hid _ ⟨fun s => castK ty ((findIn s es).getD zero) (@hid _ ⟨fun v => K v h⟩)⟩)⟩)
  | .mapUpdate m k v => mapAtK h (e.ev m) (@hid _ ⟨fun l es => strK (e.ev k) (@hid _ ⟨fun s => guardK (base ≤ l) (guardK ((e.ev v).one = true) (K (.tup []) (h.set l (.map (putIn s (e.ev v) es)))))⟩)⟩)
  | .makeSlice s bytes zs x => intK (e.ev x) (@hid _ ⟨fun _ n => guardK (0 ≤ n ∧ n * bytes ≤ 140737488355328 ∧ n ≤ 140737488355328) (K (.ref h.length 0 0 n.toNat) (h ++ [.cells 0 s ((List.replicate n.toNat zs).flatten)]))⟩)
  | .pick c a b => boolK (e.ev c) (@hid _ ⟨fun q => iteK q (K (e.ev a) h) (K (e.ev b) h)⟩)
  | .bin op q x y => binK op q (e.ev x) (e.ev y) (@hid _ ⟨fun v => K v h⟩)
  | .un op x => unK op (e.ev x) (@hid _ ⟨fun v => K v h⟩)
  | .conv k x => intK (e.ev x) (@hid _ ⟨fun _ n => K (.int k (k.wrap n)) h⟩)
  | .box x => cellsK (e.ev x) (@hid _ ⟨fun cs => K (.ptr h.length 0 0) (h ++ [.cells 0 1 cs])⟩)
  | .build zs ps => layParts e zs ps (@hid _ ⟨fun cs => K (.agg cs) h⟩)
  | .buildSlice s len zs ps => layParts e ((List.replicate len zs).flatten) (ps.map fun p => (p.1 * s, s, p.2)) (@hid _ ⟨fun cs => K (.ref h.length 0 0 len) (h ++ [.cells 0 s cs])⟩)
  | .len x => lenK (e.ev x) (@hid _ ⟨fun n => K (.int .i64 (n : Int)) h⟩)
  | .max x y => intK (e.ev x) (@hid _ ⟨fun k a => intK (e.ev y) (@hid _ ⟨fun _ b => K (.int k (if b > a then b else a)) h⟩)⟩)
  | .min x y => intK (e.ev x) (@hid _ ⟨fun k a => intK (e.ev y) (@hid _ ⟨fun _ b => K (.int k (if b < a then b else a)) h⟩)⟩)
  | op => execK base C op e h K
theorem execN_eq (op : AOp) (e : Env) (h : Heap) (K : AV → Heap → Option R) : execN base C op e h K = execK base C op e h K := by
  cases op <;> try rfl
  case mapUpdate m k v =>
    simp only [execN, execK, mapAtK, strK, guardK]
    cases e.ev m <;> try rfl
    rename_i l
    cases e.ev k <;> dsimp only <;> generalize h[l]? = o <;> cases o <;> try rfl
    all_goals first | (rename_i o; cases o <;> first | rfl | (by_cases hb : base ≤ l <;> simp [hb])) | (by_cases hb : base ≤ l <;> simp [hb])
  case lookup zero ty m k =>
    simp only [execN, execK, mapAtK, strK]
    cases e.ev m <;> try rfl
    rename_i l
    cases e.ev k <;> dsimp only <;> generalize h[l]? = o <;> cases o <;> try rfl
    all_goals (rename_i o; cases o <;> rfl)
  rename_i n whole ty x
  cases whole
  · simp only [execN, execK, readK1]
    congr 1
    funext cs
    cases cs with
    | nil => rfl
    | cons c cs => cases cs <;> rfl
  · rfl

def runOpsN : List AOper → Env → Heap → (Env → Heap → Option R) → Option R
  | [], e, h, K => K e h
  | o :: os, e, h, K => execN base C o.op e h (@hid _ ⟨fun v h => runOpsN os (e.put o.dst v) h K⟩)
def runItemsN : List AItem → Env → Heap → (Env → Heap → Option R) → Option R
  | [], e, h, K => K e h
  | .one o :: r, e, h, K => execN base C o.op e h (@hid _ ⟨fun v h => runItemsN r (e.put o.dst v) h K⟩)
  | .grd s want os :: r, e, h, K =>
    joinK (grdK (e s) (@hid _ ⟨fun b =>
      iteK b
        (match want with
        | true => runOpsN base C os (e.put (some s) (.bool true)) h (@hid _ ⟨fun e h => some (e, h)⟩)
        | false => some (passOver os (e.put (some s) (.bool true)), h))
        (match want with
        | true => some (passOver os (e.put (some s) (.bool false)), h)
        | false => runOpsN base C os (e.put (some s) (.bool false)) h (@hid _ ⟨fun e h => some (e, h)⟩))⟩)
      (some (passOver os e, h))) (@hid _ ⟨fun p => runItemsN r p.1 p.2 K⟩)
theorem runOpsN_eq : ∀ (os : List AOper) (e : Env) (h : Heap) (K : Env → Heap → Option R), runOpsN base C os e h K = runOps base C os e h K
  | [], _, _, _ => rfl
  | o :: os, e, h, K => by
      rw [runOpsN, runOps, execN_eq]
      congr 1
      funext v h
      exact runOpsN_eq os _ _ _
theorem runItemsN_eq : ∀ (its : List AItem) (e : Env) (h : Heap) (K : Env → Heap → Option R), runItemsN base C its e h K = runItems base C its e h K
  | [], _, _, _ => rfl
  | .one o :: r, e, h, K => by
      rw [runItemsN, runItems, execN_eq]
      congr 1
      funext v h
      exact runItemsN_eq r _ _ _
  | .grd s want os :: r, e, h, K => by
      have ih := fun e h => runItemsN_eq r e h K
      have hj : ∀ (e : Env) (h : Heap), joinK (runOpsN base C os e h fun e h => some (e, h)) (fun p => runItemsN base C r p.1 p.2 K) = runOps base C os e h fun e h => runItems base C r e h K := fun e h => by
        unfold joinK
        rw [runOpsN_eq, runOps_nat]
        simp only [Option.bind_some, ih]
      simp only [runItemsN, runItems, grdK]
      split
      · rename_i b hb
        rw [hb]
        cases b <;> cases want <;> first | exact hj _ _ | exact ih _ _
      · rename_i hb
        rw [hb]
        exact ih _ _
      · rename_i h1 h2
        split
        · rename_i b hb; exact absurd hb (h1 b)
        · rename_i hb; exact absurd hb h2
        · rfl

end
section
variable (base : Nat) (C : CallT)
def denN (L : LoopT) : ACode → ∀ {R : Type}, Env → Heap → (AExit → Env → Heap → Option R) → Option R
  | .skip, _, e, h, K => K .normal e h
  | .region its, _, e, h, K => runItemsN base C its e h (@hid _ ⟨fun e h => K .normal e h⟩)
  | .seq a b, _, e, h, K => denN L a e h (@hid _ ⟨fun x e h => match x with
    | .normal => denN L b e h K
    | .exit j => K (.exit j) e h
    | .ret => K .ret e h⟩)
  | .cond c a b, _, e, h, K => joinK (boolK (e.ev c) (@hid _ ⟨fun q => iteK q (denN L a e h (@hid _ ⟨fun x e h => some (x, e, h)⟩)) (denN L b e h (@hid _ ⟨fun x e h => some (x, e, h)⟩))⟩)) (@hid _ ⟨fun p => K p.1 p.2.1 p.2.2⟩)
  | .block id a, _, e, h, K => denN L a e h (@hid _ ⟨fun x e h => match x with
    | .normal => K .normal e h
    | .exit j => if j = id then K .normal e h else K (.exit j) e h
    | .ret => K .ret e h⟩)
  | .loop live outs rets c, _, e, h, K => castEnv live e (@hid _ ⟨fun e => loopH L base (.loop live outs rets c) e h K⟩)
  | .exit id, _, e, h, K => K (.exit id) e h
  | .ret, _, e, h, K => K .ret e h
  | .bad, _, _, _, _ => none
theorem denN_eq (L : LoopT) : ∀ (c : ACode) {R : Type} (e : Env) (h : Heap) (K : AExit → Env → Heap → Option R), denN base C L c e h K = den base C L c e h K
  | .skip, _, _, _, _ => rfl
  | .region its, R, e, h, K => by
      rw [denN, den, runItemsN_eq]
      rfl
  | .seq a b, R, e, h, K => by
      rw [denN, den, denN_eq L a]
      congr 1
      funext x e h
      cases x <;> first | exact denN_eq L b _ _ _ | rfl
  | .cond c a b, R, e, h, K => by
      have hj : ∀ c, (∀ (e : Env) (h : Heap) (K : AExit → Env → Heap → Option (AExit × Env × Heap)), denN base C L c e h K = den base C L c e h K) → ∀ (e : Env) (h : Heap), joinK (denN base C L c e h fun x e h => some (x, e, h)) (fun p => K p.1 p.2.1 p.2.2) = den base C L c e h K := fun c hc e h => by
        unfold joinK
        rw [hc, den_nat]
        rfl
      have h1 := hj a (fun e h K => denN_eq L a e h K) e h
      have h2 := hj b (fun e h K => denN_eq L b e h K) e h
      rw [denN, den]
      unfold boolK
      split
      · rename_i q hq
        cases q
        · exact h2
        · exact h1
      · rfl
  | .block id a, R, e, h, K => by
      rw [denN, den, denN_eq L a]
      rfl
  | .loop live outs rets c, R, e, h, K => rfl
  | .exit id, _, _, _, _ => rfl
  | .ret, _, _, _, _ => rfl
  | .bad, _, _, _, _ => rfl
end

/-- A function's body, entered and left. -/
def bodyN (C : CallT) (L : LoopT) (base : Nat) (fn : AFunc) (args : List AV) (h : Heap) : Option (AV × Heap) :=
  castL fn.params args fun args => denN base C L fn.body (argEnv args) h (@hid _ ⟨fun x e h => match x with
    | .normal => resK fn.results e h
    | .ret => resK fn.results e h
    | .exit _ => none⟩)
theorem bodyN_eq (C : CallT) (L : LoopT) (base : Nat) (fn : AFunc) (args : List AV) (h : Heap) : bodyN C L base fn args h = bodyK C L base fn args h := by
  unfold bodyN bodyK
  simp only [denN_eq]
  rfl

/-- It goes through, and this holds of what it tells. -/
def WP {R : Type} (x : Option R) (Q : R → Prop) : Prop := ∃ r, x = some r ∧ Q r

section
variable {A : AProg} {R : Type} {Q : R → Prop}
theorem wp_some {r : R} (h : Q r) : WP (some r) Q := ⟨r, rfl, h⟩
theorem wp_some_iff {r : R} : WP (some r) Q ↔ Q r := ⟨fun ⟨_, h, q⟩ => by cases h; exact q, wp_some⟩
theorem wp_mono {Q' : R → Prop} {x : Option R} (h : WP x Q) (hq : ∀ r, Q r → Q' r) : WP x Q' := let ⟨r, a, b⟩ := h; ⟨r, a, hq r b⟩
theorem wp_eq {x y : Option R} (h : x = y) (k : WP y Q) : WP x Q := h ▸ k
/-- A call, entered. -/
theorem wp_enter {f : Nat} {fn : AFunc} (hf : A.fns f = some fn) {b : Nat} {as : List AV} {h : Heap} {Q : AV × Heap → Prop} (k : WP (bodyN (call A) (loop A) b fn as h) Q) : WP (call A b f as h) Q := by
  rw [call_eq A hf, ← bodyN_eq]
  exact k
theorem callK_eq {C : CallT} {b g : Nat} {as : List AV} {h h' : Heap} {v : AV} (H : C b g as h = some (v, h')) (K : AV → Heap → Option R) : callK C b g as h K = K v h' := by
  unfold callK
  rw [H]
  rfl
theorem callK_some {C : CallT} {b g : Nat} {as : List AV} {h : Heap} : callK C b g as h (fun v h => some (v, h)) = C b g as h := by
  unfold callK
  cases C b g as h <;> rfl
/-- A call, entered: what its body tells. -/
theorem enter {f : Nat} {fn : AFunc} (hf : A.fns f = some fn) {b : Nat} {as : List AV} {h : Heap} {r : Option (AV × Heap)} (k : bodyN (call A) (loop A) b fn as h = r) : call A b f as h = r := by
  rw [call_eq A hf, ← bodyN_eq]
  exact k
theorem wp_iff {x : Option R} {r : R} : WP x (fun q => q = r) ↔ x = some r := ⟨fun ⟨q, h, e⟩ => e ▸ h, fun h => ⟨r, h, rfl⟩⟩
/-- A call whose answer is known. -/
theorem wp_call {b g : Nat} {as : List AV} {h : Heap} {K : AV → Heap → Option R} {P : AV × Heap → Prop} (H : WP (call A b g as h) P) (k : ∀ v h', P (v, h') → WP (K v h') Q) : WP (callK (call A) b g as h K) Q := by
  obtain ⟨⟨v, h'⟩, e, p⟩ := H
  unfold callK
  rw [e]
  exact k v h' p
theorem wp_iteK {b : Bool} {x y : Option R} (h1 : b = true → WP x Q) (h2 : b = false → WP y Q) : WP (iteK b x y) Q := by
  cases b
  · exact h2 rfl
  · exact h1 rfl
theorem wp_ite {c : Prop} [Decidable c] {x y : Option R} (hc : c) (h1 : WP x Q) : WP (if c then x else y) Q := by rw [if_pos hc]; exact h1
theorem wp_len {S : Nat → Prop} {h : Heap} {v : AV} {s n : Nat} {ds : List AV} (H : SliceAt S h v s n ds) {K : Nat → Option R} (k : WP (K n) Q) : WP (lenK v K) Q := by rw [lenK_at H]; exact k
theorem wp_slice {S : Nat → Prop} {h : Heap} {v : AV} {s n : Nat} {ds : List AV} (H : SliceAt S h v s n ds) {K : List AV → Option R} (k : WP (K ds) Q) : WP (sliceK h s v K) Q := by rw [sliceK_at H]; exact k
theorem wp_idx {S : Nat → Prop} {h : Heap} {v : AV} {s n : Nat} {ds : List AV} (H : SliceAt S h v s n ds) {i : Int} {j : Nat} (hi : i = (j : Int)) (hj : j < n) {K : AV → Option R} (k : WP (K (addrOf v s j 0)) Q) : WP (idxK s v i K) Q := by
  subst hi
  unfold SliceAt at H
  replace H := H.2
  unfold idxK
  have h0 : (0 : Int) ≤ (j : Int) := Int.natCast_nonneg j
  split at H
  · omega
  · obtain ⟨rfl, rfl, _⟩ := H
    show WP (if 0 ≤ (j : Int) ∧ (j : Int) < _ then _ else none) Q
    rw [if_pos ⟨h0, Int.ofNat_lt.2 hj⟩]
    exact k
  · obtain ⟨_, rfl, _⟩ := H
    show WP (if 0 ≤ (j : Int) ∧ (j : Int) < _ then _ else none) Q
    rw [if_pos ⟨h0, Int.ofNat_lt.2 hj⟩]
    exact k
  · exact H.elim
theorem wp_fld {v : AV} {s i o o' : Nat} {K : AV → Option R} (k : WP (K (addrOf v s i (o + o'))) Q) : WP (fldK o' (addrOf v s i o) K) Q := by
  unfold addrOf at *
  cases v <;> simpa [fldK, Nat.add_assoc] using k
theorem wp_read {S : Nat → Prop} {h : Heap} {v : AV} {s n : Nat} {ds : List AV} (H : SliceAt S h v s n ds) {i o m : Nat} (hi : i < n) (hm : o + m ≤ s) {K : List AV → Option R} (k : WP (K ((ds.drop (i * s + o)).take m)) Q) :
    WP (readK h (addrOf v s i o) m K) Q := by rw [readK_at H hi hm]; exact k
theorem wp_block {h : Heap} {l g s : Nat} {cs : List AV} (H : h[l]? = some (.cells g s cs)) {K : Nat → List AV → Option R} (k : WP (K s cs) Q) : WP (blockK h l g K) Q := by
  unfold blockK
  rw [H]
  simpa using k
theorem SliceAt.one {S : Nat → Prop} {h : Heap} {v : AV} {s n : Nat} {ds : List AV} (H : SliceAt S h v s n ds) : v.one = true := by
  unfold SliceAt at H
  cases v <;> first | rfl | exact H.2.elim
theorem wp_cells {v : AV} (H : v.one = true) {K : List AV → Option R} (k : WP (K [v]) Q) : WP (cellsK v K) Q := by
  cases v <;> first | exact k | cases H

/-- A loop: what holds ahead of each round, with a number that falls; N: what comes with the next round. -/
theorem wp_loop {b : Nat} {live : List (Nat × Ty)} {outs : List (Nat × List (Nat × Ty))} {rets : List (Nat × Ty)} {c : ACode} {K : AExit → Env → Heap → Option R} (I : Nat → Env → Heap → Prop)
    (step : ∀ (N : Env → Heap → Option R) m e h, I m e h → (∀ m' e' h', m' < m → I m' e' h' → WP (N e' h') Q) → WP (denN b (call A) (loop A) c e h (roundK live outs rets N K)) Q) :
    ∀ {m : Nat} {e : Env} {h : Heap}, I m e h → WP (loopH (loop A) b (.loop live outs rets c) e h K) Q := by
  intro m
  induction m using Nat.strongRecOn with
  | _ m ih =>
    intro e h hI
    have := step (fun e h => loopH (loop A) b (.loop live outs rets c) e h K) m e h hI fun m' e' h' hm' hI' => ih m' hm' hI'
    rw [denN_eq] at this
    have e1 := loopK_eq A b live outs rets c e h K
    unfold loopH
    unfold loopK at e1
    rw [e1]
    exact this
theorem wp_dec {c : Prop} [Decidable c] {x y : Option R} (h1 : c → WP x Q) (h2 : ¬ c → WP y Q) : WP (iteK (decide c) x y) Q := by
  by_cases hc : c
  · rw [decide_eq_true hc]; exact h1 hc
  · rw [decide_eq_false hc]; exact h2 hc
theorem wp_ndec {c : Prop} [Decidable c] {x y : Option R} (h1 : ¬ c → WP x Q) (h2 : c → WP y Q) : WP (iteK (!decide c) x y) Q := by
  by_cases hc : c
  · rw [decide_eq_true hc]; exact h2 hc
  · rw [decide_eq_false hc]; exact h1 hc
/-- A cell of an element. -/
theorem wp_cell {S : Nat → Prop} {h : Heap} {v : AV} {s n : Nat} {ds : List AV} (H : SliceAt S h v s n ds) {i o : Nat} (hi : i < n) {cs : List AV} (hc : (ds.drop (i * s)).take s = cs) {u : AV} (ho : cs[o]? = some u) {K : AV → Option R} (k : WP (K u) Q) :
    WP (readK1 h (addrOf v s i o) 1 K) Q := by
  subst hc
  rw [List.getElem?_take] at ho
  split at ho
  · rename_i hos
    rw [List.getElem?_drop] at ho
    unfold readK1
    rw [readK_at H hi (by omega)]
    obtain ⟨hlt, rfl⟩ := List.getElem?_eq_some_iff.1 ho
    rw [List.drop_eq_getElem_cons hlt]
    exact k
  · cases ho
/-- A whole element. -/
theorem wp_elem {S : Nat → Prop} {h : Heap} {v : AV} {s n : Nat} {ds : List AV} (H : SliceAt S h v s n ds) {i : Nat} (hi : i < n) {cs : List AV} (hc : (ds.drop (i * s)).take s = cs) {K : List AV → Option R} (k : WP (K cs) Q) :
    WP (readK h (addrOf v s i 0) s K) Q := by
  subst hc
  rw [readK_at H hi (by omega)]
  exact k
end

section
variable {R : Type} {Q : R → Prop}
/-- A cell behind a pointer. -/
theorem wp_ptr1 {h : Heap} {l g off s : Nat} {cs : List AV} (hb : h[l]? = some (.cells g s cs)) {v : AV} (ho : cs[off]? = some v) {K : AV → Option R} (k : WP (K v) Q) : WP (readK1 h (.ptr l g off) 1 K) Q := by
  obtain ⟨hlt, rfl⟩ := List.getElem?_eq_some_iff.1 ho
  unfold readK1 readK blockK
  dsimp only
  rw [hb]
  simp only [if_true]
  rw [if_pos (by omega), List.drop_eq_getElem_cons hlt]
  exact k
theorem wp_new1 {h : Heap} {g off s : Nat} {cs : List AV} {v : AV} (ho : cs[off]? = some v) {K : AV → Option R} (k : WP (K v) Q) : WP (readK1 (h ++ [.cells g s cs]) (.ptr h.length g off) 1 K) Q :=
  wp_ptr1 (s := s) (by simp) ho k
/-- Cells behind a pointer. -/
theorem wp_ptrs {h : Heap} {l g off s n : Nat} {cs : List AV} (hb : h[l]? = some (.cells g s cs)) (ho : off + n ≤ cs.length) {K : List AV → Option R} (k : WP (K ((cs.drop off).take n)) Q) : WP (readK h (.ptr l g off) n K) Q := by
  unfold readK blockK
  dsimp only
  rw [hb]
  simp only [if_true]
  rw [if_pos ho]
  exact k
end
/-! The words' rules, for simp. -/
@[simp] theorem hid1 {A B : Type} (f : A → B) (a : A) : @hid (A → B) ⟨f⟩ a = f a := congrFun (f := @hid (A → B) ⟨f⟩) (g := f) (id rfl) a
@[simp] theorem hid2 {A B C : Type} (f : A → B → C) (a : A) (b : B) : @hid (A → B → C) ⟨f⟩ a b = f a b := by rw [hid1]
@[simp] theorem hid3 {A B C D : Type} (f : A → B → C → D) (a : A) (b : B) (c : C) : @hid (A → B → C → D) ⟨f⟩ a b c = f a b c := by rw [hid1]
/-- A slot more. -/
def ea (j : Nat) (v : AV) (e : Env) : Env := fun i => if i = j then v else e i
/-- No slots. -/
def e0 : Env := fun _ => .undef
@[simp] theorem ea_at (j : Nat) (v : AV) (e : Env) (i : Nat) : ea j v e i = if i = j then v else e i := id rfl
@[simp] theorem e0_at (i : Nat) : e0 i = .undef := id rfl
@[simp] theorem put_some (e : Env) (d : Nat) (v : AV) (i : Nat) : Env.put e (some d) v i = if i = d then v else e i := id rfl
@[simp] theorem put_none (e : Env) (v : AV) : Env.put e none v = e := id rfl
@[simp] theorem argEnv_at (vs : List AV) (i : Nat) : argEnv vs i = (vs[i]?).getD .undef := id rfl
@[simp ↓] theorem castEnv_nil' {R : Type} (e : Env) (K : Env → Option R) : castEnv [] e K = K e0 := id rfl
@[simp ↓] theorem castEnv_cons' {R : Type} (j : Nat) (t : Ty) (r : List (Nat × Ty)) (e : Env) (K : Env → Option R) : castEnv ((j, t) :: r) e K = castK t (e j) fun v => castEnv r e fun e' => K (ea j v e') := id rfl
@[simp ↓] theorem castK_any {R : Type} (v : AV) (K : AV → Option R) : castK .any v K = K v := id rfl
@[simp ↓] theorem castL_nil {R : Type} (K : List AV → Option R) : castL [] [] K = K [] := id rfl
@[simp ↓] theorem castL_cons {R : Type} (t : Ty) (ts : List Ty) (c : AV) (cs : List AV) (K : List AV → Option R) : castL (t :: ts) (c :: cs) K = castK t c fun c => castL ts cs fun cs => K (c :: cs) := id rfl
section
variable {R : Type} {base : Nat} {C : CallT} {L : LoopT} {e : Env} {h : Heap} {K : AExit → Env → Heap → Option R} {K2 : Env → Heap → Option R}
@[simp] theorem denN_skip : denN base C L .skip e h K = K .normal e h := by rw [denN]
@[simp] theorem denN_region (its : List AItem) : denN base C L (.region its) e h K = runItemsN base C its e h (@hid _ ⟨fun e h => K .normal e h⟩) := by rw [denN]
@[simp] theorem denN_seq (a b : ACode) : denN base C L (.seq a b) e h K = denN base C L a e h (@hid _ ⟨fun x e h => match x with
    | .normal => denN base C L b e h K
    | .exit j => K (.exit j) e h
    | .ret => K .ret e h⟩) := by rw [denN]
@[simp] theorem denN_cond (c : Opd) (a b : ACode) : denN base C L (.cond c a b) e h K = joinK (boolK (e.ev c) (@hid _ ⟨fun q => iteK q (denN base C L a e h (@hid _ ⟨fun x e h => some (x, e, h)⟩)) (denN base C L b e h (@hid _ ⟨fun x e h => some (x, e, h)⟩))⟩)) (@hid _ ⟨fun p => K p.1 p.2.1 p.2.2⟩) := by rw [denN]
@[simp] theorem denN_block (id : Nat) (a : ACode) : denN base C L (.block id a) e h K = denN base C L a e h (@hid _ ⟨fun x e h => match x with
    | .normal => K .normal e h
    | .exit j => if j = id then K .normal e h else K (.exit j) e h
    | .ret => K .ret e h⟩) := by rw [denN]
@[simp] theorem denN_loop (live : List (Nat × Ty)) (outs : List (Nat × List (Nat × Ty))) (rets : List (Nat × Ty)) (c : ACode) : denN base C L (.loop live outs rets c) e h K = castEnv live e (@hid _ ⟨fun e => loopH L base (.loop live outs rets c) e h K⟩) := by rw [denN]
@[simp] theorem denN_exit (id : Nat) : denN base C L (.exit id) e h K = K (.exit id) e h := by rw [denN]
@[simp] theorem denN_ret : denN base C L .ret e h K = K .ret e h := by rw [denN]
@[simp] theorem runOpsN_nil : runOpsN base C [] e h K2 = K2 e h := by rw [runOpsN]
@[simp] theorem runOpsN_cons (o : AOper) (os : List AOper) : runOpsN base C (o :: os) e h K2 = execN base C o.op e h (@hid _ ⟨fun v h => runOpsN base C os (e.put o.dst v) h K2⟩) := by rw [runOpsN]
@[simp] theorem runItemsN_nil : runItemsN base C [] e h K2 = K2 e h := by rw [runItemsN]
@[simp] theorem runItemsN_one (o : AOper) (r : List AItem) : runItemsN base C (.one o :: r) e h K2 = execN base C o.op e h (@hid _ ⟨fun v h => runItemsN base C r (e.put o.dst v) h K2⟩) := by rw [runItemsN]
@[simp] theorem runItemsN_grdT (s : Nat) (os : List AOper) (r : List AItem) : runItemsN base C (.grd s true os :: r) e h K2 = joinK (grdK (e s) (@hid _ ⟨fun b =>
      iteK b (runOpsN base C os (e.put (some s) (.bool true)) h (@hid _ ⟨fun e h => some (e, h)⟩)) (some (passOver os (e.put (some s) (.bool false)), h))⟩) (some (passOver os e, h))) (@hid _ ⟨fun p => runItemsN base C r p.1 p.2 K2⟩) := by simp only [runItemsN]
@[simp] theorem runItemsN_grdF (s : Nat) (os : List AOper) (r : List AItem) : runItemsN base C (.grd s false os :: r) e h K2 = joinK (grdK (e s) (@hid _ ⟨fun b =>
      iteK b (some (passOver os (e.put (some s) (.bool true)), h)) (runOpsN base C os (e.put (some s) (.bool false)) h (@hid _ ⟨fun e h => some (e, h)⟩))⟩) (some (passOver os e, h))) (@hid _ ⟨fun p => runItemsN base C r p.1 p.2 K2⟩) := by simp only [runItemsN]
end
section
variable {R : Type} {base : Nat} {C : CallT} {e : Env} {h : Heap} {K : AV → Heap → Option R}
@[simp] theorem execN_fieldAddr (o : Nat) (x : Opd) : execN base C (.fieldAddr o x) e h K = fldK o (e.ev x) (@hid _ ⟨fun v => K v h⟩) := id rfl
@[simp] theorem execN_indexAddr (s : Nat) (x : Opd) (i : Opd) : execN base C (.indexAddr s x i) e h K = intK (e.ev i) (@hid _ ⟨fun _ i => idxK s (e.ev x) i (@hid _ ⟨fun v => K v h⟩)⟩) := id rfl
@[simp] theorem execN_cut (s : Nat) (x : Opd) (lo : Option Opd) (hi : Option Opd) : execN base C (.cut s x lo hi) e h K = lenK (e.ev x) (@hid _ ⟨fun n =>
      intK (match hi with | some y => e.ev y | none => .int .i64 (n : Int)) (@hid _ ⟨fun _ b => intK (match lo with | some y => e.ev y | none => .int .i64 0) (@hid _ ⟨fun _ a =>
        guardK (0 ≤ a ∧ a ≤ b ∧ b ≤ (n : Int)) (cutK s h (e.ev x) a b (@hid _ ⟨fun v => K v h⟩))⟩)⟩)⟩) := id rfl
@[simp] theorem execN_store (n : Nat) (a : Opd) (x : Opd) : execN base C (.store n a x) e h K = storeK base n h (e.ev a) (e.ev x) (@hid _ ⟨fun h => K (.tup []) h⟩) := id rfl
@[simp] theorem execN_append (s : Nat) (bytes : Nat) (x : Opd) (y : Opd) : execN base C (.append s bytes x y) e h K = sliceK h s (e.ev y) (@hid _ ⟨fun ys => lenK (e.ev y) (@hid _ ⟨fun m => guardK (m * s = ys.length) (appK base s bytes h (e.ev x) ys m K)⟩)⟩) := id rfl
@[simp] theorem execN_copy (s : Nat) (x : Opd) (y : Opd) : execN base C (.copy s x y) e h K = sliceK h s (e.ev y) (@hid _ ⟨fun ys => lenK (e.ev y) (@hid _ ⟨fun m => copyK base s h (e.ev x) ys m K⟩)⟩) := id rfl
@[simp] theorem execN_clear (s : Nat) (zs : List AV) (x : Opd) : execN base C (.clear s zs x) e h K = clearK base s zs h (e.ev x) (@hid _ ⟨fun h => K (.tup []) h⟩) := id rfl
@[simp] theorem execN_call (q : Bool) (ty : Ty) (g : Nat) (as : List Opd) : execN base C (.call q ty g as) e h K = callK C (if q = true then h.length else base) g (evs e as) h (@hid _ ⟨fun v h => castK ty v (@hid _ ⟨fun v => K v h⟩)⟩) := id rfl
@[simp] theorem execN_loadT (n : Nat) (ty : Ty) (x : Opd) : execN base C (.load n true ty x) e h K = readK h (e.ev x) n (@hid _ ⟨fun cs => castK ty (.agg cs) (@hid _ ⟨fun v => K v h⟩)⟩) := id rfl
@[simp] theorem execN_loadF (n : Nat) (ty : Ty) (x : Opd) : execN base C (.load n false ty x) e h K = readK1 h (e.ev x) n (@hid _ ⟨fun v => castK ty v (@hid _ ⟨fun v => K v h⟩)⟩) := id rfl
@[simp] theorem execN_callv (q : Bool) (ty : Ty) (x : Opd) (as : List Opd) : execN base C (.callv q ty x as) e h K = fnK (e.ev x) (@hid _ ⟨fun g cap => callK C (if q = true then h.length else base) g (evs e as ++ cap) h (@hid _ ⟨fun v h => castK ty v (@hid _ ⟨fun v => K v h⟩)⟩)⟩) := id rfl
@[simp] theorem execN_nilCheck (x : Opd) : execN base C (.nilCheck x) e h K = nilK (e.ev x) (@hid _ ⟨fun v => K v h⟩) := id rfl
@[simp] theorem execN_field (off : Nat) (n : Nat) (whole : Bool) (x : Opd) : execN base C (.field off n whole x) e h K = fieldK off n whole (e.ev x) (@hid _ ⟨fun v => K v h⟩) := id rfl
@[simp] theorem execN_extract (x : Opd) (i : Nat) : execN base C (.extract x i) e h K = extrK i (e.ev x) (@hid _ ⟨fun v => K v h⟩) := id rfl
@[simp] theorem execN_index (x : Opd) (i : Opd) : execN base C (.index x i) e h K = intK (e.ev i) (@hid _ ⟨fun _ i => strK (e.ev x) (@hid _ ⟨fun t => guardK (0 ≤ i ∧ i < (t.size : Int)) (K (.int .u8 ((t.get! i.toNat).toNat : Int)) h)⟩)⟩) := id rfl
@[simp] theorem execN_lenStr (x : Opd) : execN base C (.lenStr x) e h K = strK (e.ev x) (@hid _ ⟨fun t => K (.int .i64 (t.size : Int)) h⟩) := id rfl
@[simp] theorem execN_range (x : Opd) : execN base C (.range x) e h K = strK (e.ev x) (@hid _ ⟨fun t => K (.iter h.length) (h ++ [.iter t 0])⟩) := id rfl
@[simp] theorem execN_next (x : Opd) : execN base C (.next x) e h K = nextK base h (e.ev x) K := id rfl
@[simp] theorem execN_lookup (zero : AV) (ty : Ty) (m : Opd) (k : Opd) : execN base C (.lookup zero ty m k) e h K = mapAtK h (e.ev m) (@hid _ ⟨fun _ es => strK (e.ev k) (@hid _ ⟨fun s => castK ty ((findIn s es).getD zero) (@hid _ ⟨fun v => K v h⟩)⟩)⟩) := id rfl
@[simp] theorem execN_mapUpdate (m : Opd) (k : Opd) (v : Opd) : execN base C (.mapUpdate m k v) e h K = mapAtK h (e.ev m) (@hid _ ⟨fun l es => strK (e.ev k) (@hid _ ⟨fun s => guardK (base ≤ l) (guardK ((e.ev v).one = true) (K (.tup []) (h.set l (.map (putIn s (e.ev v) es)))))⟩)⟩) := id rfl
@[simp] theorem execN_makeSlice (s : Nat) (bytes : Nat) (zs : List AV) (x : Opd) : execN base C (.makeSlice s bytes zs x) e h K = intK (e.ev x) (@hid _ ⟨fun _ n => guardK (0 ≤ n ∧ n * bytes ≤ 140737488355328 ∧ n ≤ 140737488355328) (K (.ref h.length 0 0 n.toNat) (h ++ [.cells 0 s ((List.replicate n.toNat zs).flatten)]))⟩) := id rfl
@[simp] theorem execN_pick (c : Opd) (a : Opd) (b : Opd) : execN base C (.pick c a b) e h K = boolK (e.ev c) (@hid _ ⟨fun q => iteK q (K (e.ev a) h) (K (e.ev b) h)⟩) := id rfl
@[simp] theorem execN_bin (op : BinOp) (q : Nat) (x : Opd) (y : Opd) : execN base C (.bin op q x y) e h K = binK op q (e.ev x) (e.ev y) (@hid _ ⟨fun v => K v h⟩) := id rfl
@[simp] theorem execN_un (op : UnOp) (x : Opd) : execN base C (.un op x) e h K = unK op (e.ev x) (@hid _ ⟨fun v => K v h⟩) := id rfl
@[simp] theorem execN_conv (k : IntKind) (x : Opd) : execN base C (.conv k x) e h K = intK (e.ev x) (@hid _ ⟨fun _ n => K (.int k (k.wrap n)) h⟩) := id rfl
@[simp] theorem execN_box (x : Opd) : execN base C (.box x) e h K = cellsK (e.ev x) (@hid _ ⟨fun cs => K (.ptr h.length 0 0) (h ++ [.cells 0 1 cs])⟩) := id rfl
@[simp] theorem execN_build (zs : List AV) (ps : List (Nat × Nat × Opd)) : execN base C (.build zs ps) e h K = layParts e zs ps (@hid _ ⟨fun cs => K (.agg cs) h⟩) := id rfl
@[simp] theorem execN_buildSlice (s : Nat) (len : Nat) (zs : List AV) (ps : List (Nat × Opd)) : execN base C (.buildSlice s len zs ps) e h K = layParts e ((List.replicate len zs).flatten) (ps.map fun p => (p.1 * s, s, p.2)) (@hid _ ⟨fun cs => K (.ref h.length 0 0 len) (h ++ [.cells 0 s cs])⟩) := id rfl
@[simp] theorem execN_len (x : Opd) : execN base C (.len x) e h K = lenK (e.ev x) (@hid _ ⟨fun n => K (.int .i64 (n : Int)) h⟩) := id rfl
@[simp] theorem execN_max (x : Opd) (y : Opd) : execN base C (.max x y) e h K = intK (e.ev x) (@hid _ ⟨fun k a => intK (e.ev y) (@hid _ ⟨fun _ b => K (.int k (if b > a then b else a)) h⟩)⟩) := id rfl
@[simp] theorem execN_min (x : Opd) (y : Opd) : execN base C (.min x y) e h K = intK (e.ev x) (@hid _ ⟨fun k a => intK (e.ev y) (@hid _ ⟨fun _ b => K (.int k (if b < a then b else a)) h⟩)⟩) := id rfl
@[simp] theorem execN_move (x : Opd) : execN base C (.move x) e h K = K (e.ev x) h := id rfl
@[simp] theorem execN_alloc (zs : List AV) : execN base C (.alloc zs) e h K = K (.ptr h.length 0 0) (h ++ [.cells 0 1 zs]) := id rfl
@[simp] theorem execN_mkfn (g : Nat) (cap : List Opd) : execN base C (.mkfn g cap) e h K = K (.fn g (evs e cap)) h := id rfl
@[simp] theorem execN_bytes (x : Opd) : execN base C (.bytesToStr x) e h K = sliceK h 1 (e.ev x) fun cs => (bytesOf cs).bind fun bs => K (.str ⟨bs.toArray⟩) h := id rfl
@[simp] theorem execN_map : execN base C .makeMap e h K = K (.map h.length) (h ++ [.map []]) := id rfl
@[simp] theorem boolK_bool (b : Bool) (K : Bool → Option R) : boolK (.bool b) K = K b := id rfl
@[simp] theorem intK_int (k : IntKind) (n : Int) (K : IntKind → Int → Option R) : intK (.int k n) K = K k n := id rfl
@[simp] theorem unK_not (b : Bool) (K : AV → Option R) : unK .not (.bool b) K = K (.bool (!b)) := id rfl
@[simp] theorem unK_neg (k : IntKind) (n : Int) (K : AV → Option R) : unK .neg (.int k n) K = K (.int k (k.wrap (0 - n))) := id rfl
@[simp] theorem ev_t (i : Nat) : Env.ev e (.t i) = e i := id rfl
@[simp] theorem ev_c (v : AV) : Env.ev e (.c v) = v := id rfl
end
attribute [simp] resK resList resOne evs passOver roundK outK
@[simp] theorem guardK_true {R : Type} (x : Option R) : guardK True x = x := by simp [guardK]
@[simp] theorem grdK_bool {R : Type} (b : Bool) (F : Bool → Option R) (z : Option R) : grdK (.bool b) F z = F b := id rfl
@[simp] theorem grdK_tup {R : Type} (F : Bool → Option R) (z : Option R) : grdK (.tup []) F z = z := id rfl
@[simp] theorem fnK_fn {R : Type} (g : Nat) (cap : List AV) (K : Nat → List AV → Option R) : fnK (.fn g cap) K = K g cap := id rfl
@[simp] theorem nilK_ptr {R : Type} (l g o : Nat) (K : AV → Option R) : nilK (.ptr l g o) K = K (.ptr l g o) := id rfl
@[simp] theorem nilK_addr {R : Type} (v : AV) (s i o : Nat) (K : AV → Option R) : nilK (addrOf v s i o) K = K (addrOf v s i o) := by cases v <;> rfl
@[simp] theorem extrK_0 {R : Type} (a : AV) (r : List AV) (K : AV → Option R) : extrK 0 (.tup (a :: r)) K = K a := id rfl
@[simp] theorem extrK_1 {R : Type} (a b : AV) (r : List AV) (K : AV → Option R) : extrK 1 (.tup (a :: b :: r)) K = K b := id rfl
@[simp] theorem extrK_2 {R : Type} (a b c : AV) (r : List AV) (K : AV → Option R) : extrK 2 (.tup (a :: b :: c :: r)) K = K c := id rfl
@[simp] theorem strK_str {R : Type} (t : ByteArray) (K : ByteArray → Option R) : strK (.str t) K = K t := id rfl
@[simp] theorem fldK_ptr {R : Type} (l g o o' : Nat) (K : AV → Option R) : fldK o' (.ptr l g o) K = K (.ptr l g (o + o')) := id rfl
@[simp] theorem fldK_addr {R : Type} (v : AV) (s i o o' : Nat) (K : AV → Option R) : fldK o' (addrOf v s i o) K = K (addrOf v s i (o + o')) := by
  unfold addrOf
  cases v <;> simp [fldK, Nat.add_assoc]
@[simp] theorem fieldK_agg {R : Type} (off n : Nat) (whole : Bool) (cs : List AV) (K : AV → Option R) : fieldK off n whole (.agg cs) K = guardK (off + n ≤ cs.length) (match whole, (cs.drop off).take n with
      | true, ds => K (.agg ds)
      | false, [v] => K v
      | false, _ => none) := rfl
theorem wp_guard {R : Type} {Q : R → Prop} {c : Prop} [Decidable c] {x : Option R} (hc : c) (h : WP x Q) : WP (guardK c x) Q := by
  unfold guardK
  rw [if_pos hc]
  exact h
@[simp] theorem layParts_nil {R : Type} (e : Env) (cs : List AV) (K : List AV → Option R) : layParts e cs [] K = K cs := id rfl
@[simp] theorem layParts_cons {R : Type} (e : Env) (cs : List AV) (p : Nat × Nat × Opd) (r : List (Nat × Nat × Opd)) (K : List AV → Option R) : layParts e cs (p :: r) K = cellsK (e.ev p.2.2) (@hid _ ⟨fun vs => guardK (vs.length = p.2.1 ∧ p.1 + vs.length ≤ cs.length) (layParts e (layAt cs p.1 vs) r K)⟩) := id rfl
@[simp] theorem intBin_quo {R : Type} (k : IntKind) (a b : Int) (K : AV → Option R) : intBin .quo k a b K = guardK (¬ b = 0) (K (.int k (k.wrap (a.tdiv b)))) := by
  simp only [intBin, guardK]
  split <;> simp_all
@[simp] theorem intBin_rem {R : Type} (k : IntKind) (a b : Int) (K : AV → Option R) : intBin .rem k a b K = guardK (¬ b = 0) (K (.int k (a.tmod b))) := by
  simp only [intBin, guardK]
  split <;> simp_all
@[simp] theorem intBin_add {R : Type} (k : IntKind) (a b : Int) (K : AV → Option R) : intBin .add k a b K = K (.int k (k.wrap (a + b))) := id rfl
@[simp] theorem intBin_sub {R : Type} (k : IntKind) (a b : Int) (K : AV → Option R) : intBin .sub k a b K = K (.int k (k.wrap (a - b))) := id rfl
@[simp] theorem intBin_mul {R : Type} (k : IntKind) (a b : Int) (K : AV → Option R) : intBin .mul k a b K = K (.int k (k.wrap (a * b))) := id rfl
@[simp] theorem intBin_eql {R : Type} (k : IntKind) (a b : Int) (K : AV → Option R) : intBin .eql k a b K = K (.bool (decide (a = b))) := id rfl
@[simp] theorem intBin_neq {R : Type} (k : IntKind) (a b : Int) (K : AV → Option R) : intBin .neq k a b K = K (.bool (!decide (a = b))) := id rfl
@[simp] theorem intBin_lss {R : Type} (k : IntKind) (a b : Int) (K : AV → Option R) : intBin .lss k a b K = K (.bool (decide (a < b))) := id rfl
@[simp] theorem intBin_leq {R : Type} (k : IntKind) (a b : Int) (K : AV → Option R) : intBin .leq k a b K = K (.bool (decide (a ≤ b))) := id rfl
@[simp] theorem intBin_gtr {R : Type} (k : IntKind) (a b : Int) (K : AV → Option R) : intBin .gtr k a b K = K (.bool (decide (a > b))) := id rfl
@[simp] theorem intBin_geq {R : Type} (k : IntKind) (a b : Int) (K : AV → Option R) : intBin .geq k a b K = K (.bool (decide (a ≥ b))) := id rfl
/-! What comes behind goes in. -/
section
variable {R R' : Type} (F : R → Option R')
@[simp] theorem joinK_some {A : Type} (a : A) (F : A → Option R') : joinK (some a) F = F a := id rfl
@[simp] theorem joinK_none : joinK none F = none := id rfl
@[simp] theorem joinK_join {A : Type} (x : Option A) (K : A → Option R) : joinK (joinK x K) F = joinK x (@hid _ ⟨fun a => joinK (K a) F⟩) := by
  unfold joinK
  rw [Option.bind_assoc]
  rfl
@[simp] theorem joinK_len (v : AV) (K : Nat → Option R) : joinK (lenK v K) F = lenK v (@hid _ ⟨fun n => joinK (K n) F⟩) := lenK_nat F v K
@[simp] theorem joinK_slice (h : Heap) (s : Nat) (v : AV) (K : List AV → Option R) : joinK (sliceK h s v K) F = sliceK h s v (@hid _ ⟨fun n => joinK (K n) F⟩) := sliceK_nat F h s v K
@[simp] theorem joinK_cells (v : AV) (K : List AV → Option R) : joinK (cellsK v K) F = cellsK v (@hid _ ⟨fun n => joinK (K n) F⟩) := cellsK_nat F v K
@[simp] theorem joinK_bin (op : BinOp) (q : Nat) (x y : AV) (K : AV → Option R) : joinK (binK op q x y K) F = binK op q x y (@hid _ ⟨fun n => joinK (K n) F⟩) := binK_nat F op q x y K
@[simp] theorem joinK_guard (c : Prop) [Decidable c] (x : Option R) : joinK (guardK c x) F = guardK c (joinK x F) := by unfold guardK joinK; split <;> rfl
@[simp] theorem joinK_idx (s : Nat) (v : AV) (i : Int) (K : AV → Option R) : joinK (idxK s v i K) F = idxK s v i (@hid _ ⟨fun n => joinK (K n) F⟩) := by
  unfold idxK joinK
  cases v <;> simp only [Option.bind_none] <;> split <;> rfl
@[simp] theorem joinK_fld (o : Nat) (v : AV) (K : AV → Option R) : joinK (fldK o v K) F = fldK o v (@hid _ ⟨fun n => joinK (K n) F⟩) := by
  unfold fldK joinK
  cases v <;> rfl
@[simp] theorem joinK_block (h : Heap) (l g : Nat) (K : Nat → List AV → Option R) : joinK (blockK h l g K) F = blockK h l g (@hid _ ⟨fun a b => joinK (K a b) F⟩) := blockK_nat F h l g K
@[simp] theorem joinK_cut (s : Nat) (h : Heap) (v : AV) (a b : Int) (K : AV → Option R) : joinK (cutK s h v a b K) F = cutK s h v a b (@hid _ ⟨fun n => joinK (K n) F⟩) := by
  unfold cutK
  cases v <;> try rfl
  rw [joinK_block]
  unfold hid
  congr 1
  funext s' cs
  dsimp only
  split <;> rfl
@[simp] theorem joinK_read (h : Heap) (p : AV) (n : Nat) (K : List AV → Option R) : joinK (readK h p n K) F = readK h p n (@hid _ ⟨fun a => joinK (K a) F⟩) := readK_nat F h p n K
@[simp] theorem joinK_read1 (h : Heap) (p : AV) (n : Nat) (K : AV → Option R) : joinK (readK1 h p n K) F = readK1 h p n (@hid _ ⟨fun a => joinK (K a) F⟩) := by
  unfold readK1
  rw [joinK_read]
  unfold hid
  congr 1
  funext cs
  cases cs with
  | nil => rfl
  | cons c cs => cases cs <;> rfl
@[simp] theorem joinK_store (base n : Nat) (h : Heap) (p x : AV) (K : Heap → Option R) : joinK (storeK base n h p x K) F = storeK base n h p x (@hid _ ⟨fun a => joinK (K a) F⟩) := by
  unfold storeK
  cases p <;> try rfl
  dsimp only
  split
  · rw [joinK_cells]
    unfold hid
    congr 1
    funext vs
    dsimp only
    split
    · rw [joinK_block]
      unfold hid
      congr 1
      funext s cs
      dsimp only
      split <;> rfl
    · rfl
  · rfl
@[simp] theorem joinK_app (base s bytes : Nat) (h : Heap) (x : AV) (ys : List AV) (m : Nat) (K : AV → Heap → Option R) : joinK (appK base s bytes h x ys m K) F = appK base s bytes h x ys m (@hid _ ⟨fun a b => joinK (K a b) F⟩) := by
  unfold appK
  cases x <;> try rfl
  · dsimp only
    split
    · split <;> rfl
    · rfl
  · dsimp only
    split
    · rw [joinK_block]
      unfold hid
      congr 1
      funext s cs
      dsimp only
      split <;> rfl
    · rfl
@[simp] theorem joinK_copy (base s : Nat) (h : Heap) (x : AV) (ys : List AV) (m : Nat) (K : AV → Heap → Option R) : joinK (copyK base s h x ys m K) F = copyK base s h x ys m (@hid _ ⟨fun a b => joinK (K a b) F⟩) := by
  unfold copyK
  cases x <;> try rfl
  dsimp only
  split
  · rw [joinK_block]
    unfold hid
    congr 1
    funext s cs
    dsimp only
    split <;> rfl
  · rfl
@[simp] theorem joinK_call (C : CallT) (b g : Nat) (as : List AV) (h : Heap) (K : AV → Heap → Option R) : joinK (callK C b g as h K) F = callK C b g as h (@hid _ ⟨fun a b => joinK (K a b) F⟩) := by
  unfold callK joinK
  rw [Option.bind_assoc]
  rfl
@[simp] theorem joinK_loop (L : LoopT) (b : Nat) (c : ACode) (e : Env) (h : Heap) (K : AExit → Env → Heap → Option R) : joinK (loopH L b c e h K) F = loopH L b c e h (@hid _ ⟨fun x e h => joinK (K x e h) F⟩) := by
  unfold loopH joinK
  rw [Option.bind_assoc]
  rfl
@[simp] theorem joinK_map (h : Heap) (m : AV) (K : Nat → List (ByteArray × AV) → Option R) : joinK (mapAtK h m K) F = mapAtK h m (@hid _ ⟨fun a b => joinK (K a b) F⟩) := by
  unfold mapAtK
  cases m <;> try rfl
  dsimp only
  split <;> rfl
@[simp] theorem joinK_next (base : Nat) (h : Heap) (v : AV) (K : AV → Heap → Option R) : joinK (nextK base h v K) F = nextK base h v (@hid _ ⟨fun a b => joinK (K a b) F⟩) := by
  unfold nextK
  cases v <;> try rfl
  dsimp only
  rw [joinK_guard]
  congr 1
  split
  · split <;> rfl
  · rfl
@[simp] theorem wp_join_ite {A : Type} (b : Bool) (x y : Option A) (K : A → Option R) (Q : R → Prop) : WP (joinK (iteK b x y) K) Q = WP (iteK b (joinK x K) (joinK y K)) Q := by cases b <;> rfl
end
@[congr] theorem joinK_congr {A R : Type} {x x' : Option A} {K : A → Option R} (e : x = x') : joinK x K = joinK x' K := by rw [e]
/-! What stands still is not looked into: its continuation is left as it is. -/
section
variable {R : Type} {base : Nat} {C : CallT} {L : LoopT}
@[congr] theorem intK_congr {v v' : AV} {K : IntKind → Int → Option R} (e : v = v') : intK v K = intK v' K := by rw [e]
@[congr] theorem boolK_congr {v v' : AV} {K : Bool → Option R} (e : v = v') : boolK v K = boolK v' K := by rw [e]
@[congr] theorem lenK_congr {v v' : AV} {K : Nat → Option R} (e : v = v') : lenK v K = lenK v' K := by rw [e]
@[congr] theorem cellsK_congr {v v' : AV} {K : List AV → Option R} (e : v = v') : cellsK v K = cellsK v' K := by rw [e]
@[congr] theorem castK_congr {t t' : Ty} {v v' : AV} {K : AV → Option R} (e : v = v') (et : t = t') : castK t v K = castK t' v' K := by rw [e, et]
@[congr] theorem castL_congr {t t' : List Ty} {v v' : List AV} {K : List AV → Option R} (e : v = v') (et : t = t') : castL t v K = castL t' v' K := by rw [e, et]
@[congr] theorem castEnv_congr {t t' : List (Nat × Ty)} {e e' : Env} {K : Env → Option R} (q : e = e') (et : t = t') : castEnv t e K = castEnv t' e' K := by rw [q, et]
@[congr] theorem sliceK_congr {h h' : Heap} {s : Nat} {v v' : AV} {K : List AV → Option R} (e : v = v') (eh : h = h') : sliceK h s v K = sliceK h' s v' K := by rw [e, eh]
@[congr] theorem idxK_congr {s : Nat} {v v' : AV} {i i' : Int} {K : AV → Option R} (e : v = v') (ei : i = i') : idxK s v i K = idxK s v' i' K := by rw [e, ei]
@[congr] theorem fldK_congr {o : Nat} {v v' : AV} {K : AV → Option R} (e : v = v') : fldK o v K = fldK o v' K := by rw [e]
@[congr] theorem cutK_congr {s : Nat} {h h' : Heap} {v v' : AV} {a a' b b' : Int} {K : AV → Option R} (e : v = v') (eh : h = h') (ea : a = a') (eb : b = b') : cutK s h v a b K = cutK s h' v' a' b' K := by rw [e, eh, ea, eb]
@[congr] theorem storeK_congr {n : Nat} {h h' : Heap} {p p' x x' : AV} {K : Heap → Option R} (ep : p = p') (ex : x = x') (eh : h = h') : storeK base n h p x K = storeK base n h' p' x' K := by rw [ep, ex, eh]
@[congr] theorem appK_congr {s bytes : Nat} {h h' : Heap} {x x' : AV} {ys ys' : List AV} {m m' : Nat} {K : AV → Heap → Option R} (ex : x = x') (ey : ys = ys') (em : m = m') (eh : h = h') : appK base s bytes h x ys m K = appK base s bytes h' x' ys' m' K := by rw [ex, ey, em, eh]
@[congr] theorem copyK_congr {s : Nat} {h h' : Heap} {x x' : AV} {ys ys' : List AV} {m m' : Nat} {K : AV → Heap → Option R} (ex : x = x') (ey : ys = ys') (em : m = m') (eh : h = h') : copyK base s h x ys m K = copyK base s h' x' ys' m' K := by rw [ex, ey, em, eh]
@[congr] theorem clearK_congr {s : Nat} {zs : List AV} {h h' : Heap} {x x' : AV} {K : Heap → Option R} (ex : x = x') (eh : h = h') : clearK base s zs h x K = clearK base s zs h' x' K := by rw [ex, eh]
@[congr] theorem readK_congr {h h' : Heap} {p p' : AV} {n : Nat} {K : List AV → Option R} (ep : p = p') (eh : h = h') : readK h p n K = readK h' p' n K := by rw [ep, eh]
@[congr] theorem readK1_congr {h h' : Heap} {p p' : AV} {n : Nat} {K : AV → Option R} (ep : p = p') (eh : h = h') : readK1 h p n K = readK1 h' p' n K := by rw [ep, eh]
@[congr] theorem blockK_congr {h h' : Heap} {l l' g g' : Nat} {K : Nat → List AV → Option R} (el : l = l') (eg : g = g') (eh : h = h') : blockK h l g K = blockK h' l' g' K := by rw [el, eg, eh]
@[congr] theorem mapAtK_congr {h h' : Heap} {m m' : AV} {K : Nat → List (ByteArray × AV) → Option R} (em : m = m') (eh : h = h') : mapAtK h m K = mapAtK h' m' K := by rw [em, eh]
@[congr] theorem binK_congr {op : BinOp} {q : Nat} {x x' y y' : AV} {K : AV → Option R} (ex : x = x') (ey : y = y') : binK op q x y K = binK op q x' y' K := by rw [ex, ey]
@[congr] theorem unK_congr {op : UnOp} {x x' : AV} {K : AV → Option R} (ex : x = x') : unK op x K = unK op x' K := by rw [ex]
@[congr] theorem intBin_congr {op : BinOp} {k : IntKind} {a a' b b' : Int} {K : AV → Option R} (ea : a = a') (eb : b = b') : intBin op k a b K = intBin op k a' b' K := by rw [ea, eb]
@[congr] theorem callK_congr {b b' g : Nat} {as as' : List AV} {h h' : Heap} {K : AV → Heap → Option R} (eb : b = b') (ea : as = as') (eh : h = h') : callK C b g as h K = callK C b' g as' h' K := by rw [eb, ea, eh]
@[congr] theorem loopH_congr {b : Nat} {c : ACode} {e e' : Env} {h h' : Heap} {K : AExit → Env → Heap → Option R} (ee : e = e') (eh : h = h') : loopH L b c e h K = loopH L b c e' h' K := by rw [ee, eh]
@[congr] theorem iteK_congr {b b' : Bool} {x y : Option R} (e : b = b') : iteK b x y = iteK b' x y := by rw [e]
@[congr] theorem layParts_congr {e e' : Env} {cs cs' : List AV} {ps : List (Nat × Nat × Opd)} {K : List AV → Option R} (ee : e = e') (ec : cs = cs') : layParts e cs ps K = layParts e' cs' ps K := by rw [ee, ec]
@[congr] theorem execN_congr {op : AOp} {e e' : Env} {h h' : Heap} {K : AV → Heap → Option R} (ee : e = e') (eh : h = h') : execN base C op e h K = execN base C op e' h' K := by rw [ee, eh]
@[congr] theorem runOpsN_congr {os : List AOper} {e e' : Env} {h h' : Heap} {K : Env → Heap → Option R} (ee : e = e') (eh : h = h') : runOpsN base C os e h K = runOpsN base C os e' h' K := by rw [ee, eh]
@[congr] theorem runItemsN_congr {os : List AItem} {e e' : Env} {h h' : Heap} {K : Env → Heap → Option R} (ee : e = e') (eh : h = h') : runItemsN base C os e h K = runItemsN base C os e' h' K := by rw [ee, eh]
@[congr] theorem denN_congr {c : ACode} {e e' : Env} {h h' : Heap} {K : AExit → Env → Heap → Option R} (ee : e = e') (eh : h = h') : denN base C L c e h K = denN base C L c e' h' K := by rw [ee, eh]
@[congr] theorem guardK_congr {c c' : Prop} [Decidable c] [Decidable c'] {x : Option R} (e : c = c') : guardK c x = guardK c' x := by
  subst e
  unfold guardK
  congr
@[congr] theorem grdK_congr {v v' : AV} {F : Bool → Option R} {z : Option R} (e : v = v') : grdK v F z = grdK v' F z := by rw [e]
@[congr] theorem fnK_congr {v v' : AV} {K : Nat → List AV → Option R} (e : v = v') : fnK v K = fnK v' K := by rw [e]
@[congr] theorem nilK_congr {v v' : AV} {K : AV → Option R} (e : v = v') : nilK v K = nilK v' K := by rw [e]
@[congr] theorem fieldK_congr {o n : Nat} {w : Bool} {v v' : AV} {K : AV → Option R} (e : v = v') : fieldK o n w v K = fieldK o n w v' K := by rw [e]
@[congr] theorem extrK_congr {i : Nat} {v v' : AV} {K : AV → Option R} (e : v = v') : extrK i v K = extrK i v' K := by rw [e]
@[congr] theorem strK_congr {v v' : AV} {K : ByteArray → Option R} (e : v = v') : strK v K = strK v' K := by rw [e]
@[congr] theorem nextK_congr {h h' : Heap} {v v' : AV} {K : AV → Heap → Option R} (e : v = v') (eh : h = h') : nextK base h v K = nextK base h' v' K := by rw [e, eh]
@[congr] theorem wp_congr {x x' : Option R} {Q : R → Prop} (e : x = x') : WP x Q = WP x' Q := by rw [e]
end
@[simp ↓] theorem iteK_true {R : Type} (x y : Option R) : iteK true x y = x := id rfl
@[simp ↓] theorem iteK_false {R : Type} (x y : Option R) : iteK false x y = y := id rfl
@[simp] theorem cellsK_agg {R : Type} (cs : List AV) (K : List AV → Option R) : cellsK (.agg cs) K = K cs := id rfl
@[simp] theorem cellsK_int {R : Type} (k : IntKind) (n : Int) (K : List AV → Option R) : cellsK (.int k n) K = K [.int k n] := id rfl
@[simp] theorem cellsK_bool {R : Type} (b : Bool) (K : List AV → Option R) : cellsK (.bool b) K = K [.bool b] := id rfl
@[simp] theorem cellsK_str {R : Type} (b : ByteArray) (K : List AV → Option R) : cellsK (.str b) K = K [.str b] := id rfl
@[simp] theorem cellsK_nil {R : Type} (K : List AV → Option R) : cellsK .nil K = K [.nil] := id rfl
@[simp] theorem cellsK_ref {R : Type} (l g o n : Nat) (K : List AV → Option R) : cellsK (.ref l g o n) K = K [.ref l g o n] := id rfl
@[simp] theorem cellsK_ptr {R : Type} (l g o : Nat) (K : List AV → Option R) : cellsK (.ptr l g o) K = K [.ptr l g o] := id rfl
@[simp] theorem binK_int {R : Type} (op : BinOp) (q : Nat) (k : IntKind) (a b : Int) (K : AV → Option R) (h1 : op ≠ .shl) (h2 : op ≠ .shr) : binK op q (.int k a) (.int k b) K = intBin op k a b K := by
  cases op <;> simp [binK] at *
@[simp] theorem binK_nilnil {R : Type} (K : AV → Option R) : binK .eql 2 .nil .nil K = K (.bool true) := id rfl
theorem wp_isnil {R : Type} {Q : R → Prop} {S : Nat → Prop} {h : Heap} {v : AV} {s n : Nat} {ds : List AV} (H : SliceAt S h v s n ds) {K : AV → Option R} (k : ∀ b : Bool, (b = true → n = 0) → WP (K (.bool b)) Q) : WP (binK .eql 2 v .nil K) Q := by
  unfold SliceAt at H
  cases v <;> first | exact H.2.elim | exact k true (fun _ => H.2.1) | exact k false (fun e => by cases e)
theorem wp_isnt {R : Type} {Q : R → Prop} {S : Nat → Prop} {h : Heap} {v : AV} {s n : Nat} {ds : List AV} (H : SliceAt S h v s n ds) {K : AV → Option R} (k : ∀ b : Bool, (b = false → n = 0) → WP (K (.bool b)) Q) : WP (binK .neq 2 v .nil K) Q := by
  unfold SliceAt at H
  cases v <;> first | exact H.2.elim | exact k false (fun _ => H.2.1) | exact k true (fun e => by cases e)
end Go.AM
