import Derived.Tactics
import Derived.Scope
/- A VC generator over the model: 'gen' runs a Sem over the known blocks of memory, 'vc' lies in the next text; both are sound for the machine. -/
set_option linter.unusedVariables false
set_option linter.unusedSimpArgs false
namespace Go.Vc
open Go

abbrev Heap := Nat → Option Obj
abbrev Env := Nat → Value
def hset (h : Heap) (b : Nat) (o : Obj) : Heap := fun k => if k = b then some o else h k
def upd (e : Env) (d : Nat) (v : Value) : Env := fun i => bif Nat.beq i d then v else e i
def evalE (e : Env) : Operand → Value
  | .tmp t => e t
  | .const v => v
  | .global g => .pointer (some ⟨g, 0, none⟩)
  | .func f => .func (.func f) #[] #[]
def putE (e : Env) (dst : Option Tmp) (v : Value) : Env :=
  match dst with
  | some d => upd e d v
  | none => e

/-- The known part of memory. -/
structure Rel (g : World) (h : Heap) (t : Nat) (w : World) : Prop where
  os : w.os = g.os
  tape : w.tape = g.tape
  output : w.output = g.output
  blk : ∀ b o, h b = some o → w.heap[b]? = some o
  dom : ∀ b o, h b = some o → b < t
  top : t ≤ w.heap.size

def Dom (h : Heap) (t : Nat) : Prop := ∀ b o, h b = some o → b < t

def fz (f : Nat × Nat) (i : Nat) : Bool := f.1 ≤ i && i < f.2
def Cell (h : Heap) (a : Addr) (v : Value) : Prop := ∃ c T f, h a.block = some (.cells c T f) ∧ a.spot = none ∧ c[a.off]? = some v
def oneC : Value → Bool
  | .agg _ => false
  | .tuple _ => false
  | _ => true
def shapeO : Obj → Option (TypeId × Nat)
  | .cells c elem _ => some (elem, c.size)
  | _ => none
def notCells : Obj → Bool
  | .cells .. => false
  | _ => true
def frozenO (o : Obj) (i : Nat) : Bool :=
  match o with
  | .cells _ _ (lo, hi) => lo ≤ i && i < hi
  | _ => false
def freezeO (o : Obj) (off n : Nat) : Obj :=
  match o with
  | .cells c elem (lo, hi) => .cells c elem (if lo == hi then (off, off + n) else (min lo off, max hi (off + n)))
  | o => o

/-- What must hold of the known heap for 'k' to run through and meet K. -/
def gen (P : Program) {α : Type} : Sem α → (α → Heap → Nat → Prop) → Heap → Nat → Prop
  | .pure a, K, h, t => K a h t
  | .load _ a k, K, h, t => ∃ v, Cell h a v ∧ gen P (k v) K h t
  | .store _ a v k, K, h, t => oneC v = true ∧ ∃ c T f, h a.block = some (.cells c T f) ∧ a.spot = none ∧ a.off < c.size ∧ fz f a.off = false ∧
      gen P k K (hset h a.block (.cells (c.setIfInBounds a.off v) T f)) t
  | .new o k, K, h, t => ∀ r, t ≤ r → gen P (k r) K (hset h r o) (r + 1)
  | .shape r k, K, h, t => ∃ o, h r = some o ∧ gen P (k (shapeO o)) K h t
  | .freeze a n k, K, h, t => n ≠ 0 ∧ ∃ o, h a.block = some o ∧ gen P k K (hset h a.block (freezeO o a.off n)) t
  | .frozen a k, K, h, t => ∃ o, h a.block = some o ∧ gen P (k (frozenO o a.off)) K h t
  | .getObj r k, K, h, t => ∃ o, h r = some o ∧ notCells o = true ∧ gen P (k o) K h t
  | .setObj r o k, K, h, t => ∃ o0, h r = some o0 ∧ notCells o0 = true ∧ gen P k K (hset h r o) t
  | .choose q k, K, h, t => ∀ n, (q.forced = true → n = 0) → (q.forced = false → ∃ m, n = q.cut m) → gen P (k n) K h t
  | .sys _ _, _, _, _ => False
  | .program k, K, h, t => gen P (k P) K h t
  | .mark _ k, K, h, t => gen P k K h t
  | .halt _, _, _, _ => False

theorem hset_same (h : Heap) (b : Nat) (o : Obj) : hset h b o b = some o := by simp [hset]
theorem hset_ne (h : Heap) {b k : Nat} (o : Obj) (hk : k ≠ b) : hset h b o k = h k := by simp [hset, hk]

theorem Rel.setBlock {g h t w w'} (hr : Rel g h t w) {b : Nat} {o : Obj} (hos : w'.os = w.os) (htape : w'.tape = w.tape) (hout : w'.output = w.output)
    (hsz : w'.heap.size = w.heap.size) (hb : w'.heap[b]? = some o) (hbt : b < t) (hoth : ∀ k, k ≠ b → w'.heap[k]? = w.heap[k]?) : Rel g (hset h b o) t w' := by
  refine ⟨hos.trans hr.os, htape.trans hr.tape, hout.trans hr.output, ?_, ?_, by rw [hsz]; exact hr.top⟩
  · intro k x hx
    by_cases e : k = b
    · subst e; rw [hset_same] at hx; cases hx; exact hb
    · rw [hset_ne _ _ e] at hx; rw [hoth k e]; exact hr.blk k x hx
  · intro k x hx
    by_cases e : k = b
    · subst e; exact hbt
    · rw [hset_ne _ _ e] at hx; exact hr.dom k x hx

theorem Rel.new {g h t w} (hr : Rel g h t w) (o : Obj) : Rel g (hset h w.heap.size o) (w.heap.size + 1) { w with heap := w.heap.push o } := by
  refine ⟨hr.os, hr.tape, hr.output, ?_, ?_, by simp⟩
  · intro k x hx
    by_cases e : k = w.heap.size
    · subst e; rw [hset_same] at hx; cases hx; simp
    · rw [hset_ne _ _ e] at hx
      have h1 := hr.blk k x hx
      have h2 := hr.dom k x hx
      have h3 := hr.top
      show (w.heap.push o)[k]? = _
      rw [Array.getElem?_push, if_neg e]; exact h1
  · intro k x hx
    by_cases e : k = w.heap.size
    · omega
    · rw [hset_ne _ _ e] at hx
      have h2 := hr.dom k x hx
      have h3 := hr.top
      omega

theorem Rel.drawn {g h t w} (hr : Rel g h t w) (n : Nat) : Rel g h t { w with drawn := n } := ⟨hr.os, hr.tape, hr.output, hr.blk, hr.dom, hr.top⟩

theorem cell_of_rel {g h t w} (hr : Rel g h t w) {a : Addr} {c : Array Value} {T : TypeId} {f : Nat × Nat} (hb : h a.block = some (.cells c T f)) (hs : a.spot = none) : w.cell? a = c[a.off]? := by
  have := hr.blk _ _ hb
  simp [World.cell?, this, hs]

theorem gen_sound {P : Program} {g : World} {α : Type} (s : Sem α) : ∀ {K : α → Heap → Nat → Prop} {h : Heap} {t : Nat} {w : World}, gen P s K h t → Rel g h t w →
    ∃ a w' h' t', s.run P w = .ok a w' ∧ Rel g h' t' w' ∧ t ≤ t' ∧ K a h' t' := by
  induction s with
  | pure a => intro K h t w hg hr; exact ⟨a, w, h, t, rfl, hr, Nat.le_refl _, hg⟩
  | load m a k ih =>
    intro K h t w ⟨v, ⟨c, T, f, hb, hs, hv⟩, hg⟩ hr
    obtain ⟨x, w', h', t', h1, h2, h3, h4⟩ := ih v hg hr
    refine ⟨x, w', h', t', ?_, h2, h3, h4⟩
    have hc := (cell_of_rel hr hb hs).trans hv
    simp only [Sem.run, hc]; exact h1
  | store m a v k ih =>
    intro K h t w ⟨h1c, c, T, f, hb, hs, hlt, hfz, hg⟩ hr
    have hblk := hr.blk _ _ hb
    have hset : Rel g (hset h a.block (.cells (c.setIfInBounds a.off v) T f)) t (w.setCell a v) := by
      refine hr.setBlock rfl rfl rfl (by simp [World.setCell]) ?_ (hr.dom _ _ hb) ?_
      · simp [World.setCell, Array.getElem?_modify, hblk, hs]
      · intro k hk; simp only [World.setCell, Array.getElem?_modify]; rw [if_neg (fun e => hk e.symm)]
    obtain ⟨x, w', h', t', e1, e2, e3, e4⟩ := ih hg hset
    refine ⟨x, w', h', t', ?_, e2, e3, e4⟩
    have hc : w.cell? a = some c[a.off] := (cell_of_rel hr hb hs).trans (by simp [hlt])
    have hf : w.frozen? a = false := by
      obtain ⟨lo, hi⟩ := f
      simpa [World.frozen?, hblk, fz] using hfz
    cases v <;> first | (simp [oneC] at h1c; done) | (simp only [Sem.run, hc, hf, Bool.false_eq_true, if_false]; exact e1)
  | new o k ih =>
    intro K h t w hg hr
    obtain ⟨x, w', h', t', e1, e2, e3, e4⟩ := ih w.heap.size (hg _ hr.top) (hr.new o)
    exact ⟨x, w', h', t', e1, e2, Nat.le_trans hr.top (by omega), e4⟩
  | shape r k ih =>
    intro K h t w ⟨o, hb, hg⟩ hr
    obtain ⟨x, w', h', t', e1, e2, e3, e4⟩ := ih _ hg hr
    refine ⟨x, w', h', t', ?_, e2, e3, e4⟩
    have hblk := hr.blk _ _ hb
    have : w.shape? r = shapeO o := by cases o <;> simp [World.shape?, hblk, shapeO]
    simp only [Sem.run, this]; exact e1
  | freeze a n k ih =>
    intro K h t w ⟨hn, o, hb, hg⟩ hr
    have hblk := hr.blk _ _ hb
    have hset : Rel g (hset h a.block (freezeO o a.off n)) t (w.freeze a n) := by
      refine hr.setBlock (by simp [World.freeze, hn]) (by simp [World.freeze, hn]) (by simp [World.freeze, hn]) (by simp [World.freeze, hn]) ?_ (hr.dom _ _ hb) ?_
      · simp only [World.freeze, hn, if_false, Array.getElem?_modify, hblk, if_true]
        cases o <;> simp [freezeO]
      · intro k hk; simp only [World.freeze, hn, if_false, Array.getElem?_modify]; rw [if_neg (fun e => hk e.symm)]
    obtain ⟨x, w', h', t', e1, e2, e3, e4⟩ := ih hg hset
    exact ⟨x, w', h', t', e1, e2, e3, e4⟩
  | frozen a k ih =>
    intro K h t w ⟨o, hb, hg⟩ hr
    obtain ⟨x, w', h', t', e1, e2, e3, e4⟩ := ih _ hg hr
    refine ⟨x, w', h', t', ?_, e2, e3, e4⟩
    have hblk := hr.blk _ _ hb
    have : w.frozen? a = frozenO o a.off := by cases o <;> simp [World.frozen?, hblk, frozenO]
    simp only [Sem.run, this]; exact e1
  | getObj r k ih =>
    intro K h t w ⟨o, hb, hn, hg⟩ hr
    obtain ⟨x, w', h', t', e1, e2, e3, e4⟩ := ih _ hg hr
    refine ⟨x, w', h', t', ?_, e2, e3, e4⟩
    have hblk := hr.blk _ _ hb
    cases o <;> first | (simp [notCells] at hn; done) | (simp only [Sem.run, hblk]; exact e1)
  | setObj r o k ih =>
    intro K h t w ⟨o0, hb, hn, hg⟩ hr
    have hblk := hr.blk _ _ hb
    have hlt : r < w.heap.size := Nat.lt_of_lt_of_le (hr.dom _ _ hb) hr.top
    have hset : Rel g (hset h r o) t { w with heap := w.heap.setIfInBounds r o } := by
      refine hr.setBlock rfl rfl rfl (by simp) ?_ (hr.dom _ _ hb) ?_
      · simp [hlt]
      · intro k hk; simp [Ne.symm hk]
    obtain ⟨x, w', h', t', e1, e2, e3, e4⟩ := ih hg hset
    refine ⟨x, w', h', t', ?_, e2, e3, e4⟩
    cases o0 <;> first | (simp [notCells] at hn; done) | (simp only [Sem.run, hblk]; exact e1)
  | choose q k ih =>
    intro K h t w hg hr
    cases hq : q.forced with
    | true =>
      obtain ⟨x, w', h', t', e1, e2, e3, e4⟩ := ih 0 (hg 0 (fun _ => rfl) (fun e => by rw [hq] at e; cases e)) hr
      exact ⟨x, w', h', t', by simp only [Sem.run, hq, if_true]; exact e1, e2, e3, e4⟩
    | false =>
      obtain ⟨x, w', h', t', e1, e2, e3, e4⟩ := ih _ (hg (q.cut (w.tape w.drawn q)) (fun e => by rw [hq] at e; cases e) (fun _ => ⟨_, rfl⟩)) (hr.drawn (w.drawn + 1))
      exact ⟨x, w', h', t', by simp only [Sem.run, hq, Bool.false_eq_true, if_false]; exact e1, e2, e3, e4⟩
  | sys c k ih => intro K h t w hg hr; exact hg.elim
  | program k ih =>
    intro K h t w hg hr
    obtain ⟨x, w', h', t', e1, e2, e3, e4⟩ := ih P hg hr
    exact ⟨x, w', h', t', e1, e2, e3, e4⟩
  | mark m k ih =>
    intro K h t w hg hr
    obtain ⟨x, w', h', t', e1, e2, e3, e4⟩ := ih hg hr
    exact ⟨x, w', h', t', e1, e2, e3, e4⟩
  | halt x => intro K h t w hg hr; exact hg.elim

theorem gen_mono {P : Program} {α : Type} (s : Sem α) : ∀ {K K' : α → Heap → Nat → Prop} {h : Heap} {t : Nat}, gen P s K h t → (∀ a h' t', K a h' t' → K' a h' t') → gen P s K' h t := by
  induction s with
  | pure a => intro K K' h t hg hk; exact hk _ _ _ hg
  | load m a k ih => intro K K' h t ⟨v, hc, hg⟩ hk; exact ⟨v, hc, ih v hg hk⟩
  | store m a v k ih => intro K K' h t ⟨h1, c, T, f, h2, h3, h4, h5, hg⟩ hk; exact ⟨h1, c, T, f, h2, h3, h4, h5, ih hg hk⟩
  | new o k ih => intro K K' h t hg hk; exact fun r hr => ih r (hg r hr) hk
  | shape r k ih => intro K K' h t ⟨o, ho, hg⟩ hk; exact ⟨o, ho, ih _ hg hk⟩
  | freeze a n k ih => intro K K' h t ⟨hn, o, ho, hg⟩ hk; exact ⟨hn, o, ho, ih hg hk⟩
  | frozen a k ih => intro K K' h t ⟨o, ho, hg⟩ hk; exact ⟨o, ho, ih _ hg hk⟩
  | getObj r k ih => intro K K' h t ⟨o, ho, hn, hg⟩ hk; exact ⟨o, ho, hn, ih _ hg hk⟩
  | setObj r o k ih => intro K K' h t ⟨o0, ho, hn, hg⟩ hk; exact ⟨o0, ho, hn, ih hg hk⟩
  | choose q k ih => intro K K' h t hg hk; exact fun n a b => ih n (hg n a b) hk
  | sys c k ih => intro K K' h t hg hk; exact hg.elim
  | program k ih => intro K K' h t hg hk; exact ih P hg hk
  | mark m k ih => intro K K' h t hg hk; exact ih hg hk
  | halt x => intro K K' h t hg hk; exact hg.elim

theorem gen_bind {P : Program} {α β : Type} (s : Sem α) (f : α → Sem β) : ∀ {K : β → Heap → Nat → Prop} {h : Heap} {t : Nat},
    gen P (s.bind f) K h t = gen P s (fun a h t => gen P (f a) K h t) h t := by
  induction s with
  | pure a => intros; rfl
  | load m a k ih => intro K h t; simp only [Sem.bind, gen, ih]
  | store m a v k ih => intro K h t; simp only [Sem.bind, gen, ih]
  | new o k ih => intro K h t; simp only [Sem.bind, gen, ih]
  | shape r k ih => intro K h t; simp only [Sem.bind, gen, ih]
  | freeze a n k ih => intro K h t; simp only [Sem.bind, gen, ih]
  | frozen a k ih => intro K h t; simp only [Sem.bind, gen, ih]
  | getObj r k ih => intro K h t; simp only [Sem.bind, gen, ih]
  | setObj r o k ih => intro K h t; simp only [Sem.bind, gen, ih]
  | choose q k ih => intro K h t; simp only [Sem.bind, gen, ih]
  | sys c k ih => intro K h t; simp only [Sem.bind, gen]
  | program k ih => intro K h t; simp only [Sem.bind, gen, ih]
  | mark m k ih => intro K h t; simp only [Sem.bind, gen, ih]
  | halt x => intro K h t; simp only [Sem.bind, gen]
end Go.Vc

namespace Go.Vc
open Go
/-! ### Code -/

def Callable (P : Program) (f : FuncId) : Prop := ∀ args w, (callFunc f args).run P w = .ok (.enter f args) w

/-- A contract over the known heap. -/
structure CallSpec (P : Program) (f : FuncId) (args : Array Value) (h : Heap) (t : Nat) (K : Value → Heap → Nat → Prop) : Prop where
  callable : Callable P f
  runs : ∀ g w, Rel g h t w → Calls P f args w (fun e w' => ∃ v h' t', e = .returned v ∧ Rel g h' t' w' ∧ t ≤ t' ∧ K v h' t')

theorem CallSpec.mono {P f args h t} {K K' : Value → Heap → Nat → Prop} (s : CallSpec P f args h t K)
    (hk : ∀ v h' t', Dom h' t' → t ≤ t' → K v h' t' → K' v h' t') : CallSpec P f args h t K' :=
  ⟨s.callable, fun g w hr => (s.runs g w hr).mono fun _ _ ⟨v, h', t', e, r, ht, k⟩ => ⟨v, h', t', e, r, ht, hk v h' t' r.dom ht k⟩⟩

def bsel (b : Bool) (X Y : Prop) : Prop := match b with | true => X | false => Y
theorem bsel_intro {b : Bool} {X Y : Prop} (hx : b = true → X) (hy : b = false → Y) : bsel b X Y := by
  cases b
  · exact hy rfl
  · exact hx rfl
theorem bsel_t {b : Bool} {X Y : Prop} (hb : b = true) (hx : X) : bsel b X Y := by subst hb; exact hx
theorem bsel_f {b : Bool} {X Y : Prop} (hb : b = false) (hy : Y) : bsel b X Y := by subst hb; exact hy

def nextK (P : Program) (K : Value → Heap → Nat → Prop) : Next → Heap → Nat → Prop
  | .value v, h, t => K v h t
  | .skip, h, t => K undef h t
  | .enter f args, h, t => CallSpec P f args h t K
  | _, _, _ => False

/-- Go on with a value whose head is laid open. -/
def force (v : Value) (K : Value → Prop) : Prop :=
  match v with
  | .bool b => K (.bool b)
  | .int k n => K (.int k n)
  | .float k n => K (.float k n)
  | .complex k a b => K (.complex k a b)
  | .string s => K (.string s)
  | .pointer none => K (.pointer none)
  | .pointer (some ⟨b, off, s⟩) => K (.pointer (some ⟨b, off, s⟩))
  | .slice a n c => K (.slice a n c)
  | .map none => K (.map none)
  | .map (some r) => K (.map (some r))
  | .chan r => K (.chan r)
  | .func f a b => K (.func f a b)
  | .nilFunc => K .nilFunc
  | .iface T v => K (.iface T v)
  | .nilIface => K .nilIface
  | .agg c => K (.agg c)
  | .tuple c => K (.tuple c)
theorem force_eq (v : Value) (K : Value → Prop) : force v K = K v := by
  unfold force; split <;> rfl
def forceL : List Value → (List Value → Prop) → Prop
  | [], K => K []
  | v :: r, K => force v fun v => forceL r fun l => K (v :: l)
theorem forceL_eq (l : List Value) : ∀ (K : List Value → Prop), forceL l K = K l := by
  induction l with
  | nil => intro K; rfl
  | cons v r ih => intro K; simp only [forceL, force_eq, ih]

/-- A truth that is not reckoned while a proof walks. -/
noncomputable def opqS : { f : Bool → Bool // ∀ b, f b = b } := Classical.choice ⟨⟨id, fun _ => rfl⟩⟩
@[irreducible] noncomputable def opq (b : Bool) : Bool := opqS.1 b
theorem opq_eq (b : Bool) : opq b = b := by unfold opq; exact opqS.2 b
theorem br {p : Prop} {inst : Decidable p} {X Y : Prop} (hx : p → X) (hy : ¬ p → Y) : bsel (opq (decide p)) X Y := by
  rw [opq_eq]
  by_cases h : p
  · rw [decide_eq_true h]; exact hx h
  · rw [decide_eq_false h]; exact hy h
theorem brn {p : Prop} {inst : Decidable p} {X Y : Prop} (hx : ¬ p → X) (hy : p → Y) : bsel (!opq (decide p)) X Y := by
  rw [opq_eq]
  by_cases h : p
  · rw [decide_eq_true h]; exact hy h
  · rw [decide_eq_false h]; exact hx h
theorem br_t {p : Prop} {inst : Decidable p} {X Y : Prop} (h : p) (hx : X) : bsel (opq (decide p)) X Y := br (fun _ => hx) (fun n => absurd h n)
theorem br_f {p : Prop} {inst : Decidable p} {X Y : Prop} (h : ¬ p) (hy : Y) : bsel (opq (decide p)) X Y := br (fun n => absurd n h) (fun _ => hy)
theorem brn_t {p : Prop} {inst : Decidable p} {X Y : Prop} (h : ¬ p) (hx : X) : bsel (!opq (decide p)) X Y := brn (fun _ => hx) (fun n => absurd n h)
theorem brn_f {p : Prop} {inst : Decidable p} {X Y : Prop} (h : p) (hy : Y) : bsel (!opq (decide p)) X Y := brn (fun n => absurd h n) (fun _ => hy)

def byteAt (s : ByteArray) (i : Nat) : Int := (s.data.getD i 0).toNat
def shlV (k : IntKind) (x y : Int) : Int := k.wrap (x * 2 ^ (min y.toNat k.bits))
def shrV (k : IntKind) (x y : Int) : Int := x.fdiv (2 ^ (min y.toNat k.bits))
def zcells (z : Array Value) (n : Nat) : Array Value := (Array.range n).map (z[· % z.size]!)
/-- The address of a slice from 'l' on: where the capacity is used up it stays. -/
def cutA (a : Option Addr) (l size cap : Nat) : Option Addr := if cap = l then a else a.map (·.add (l * size))
def bytesVals (s : ByteArray) : Array Value := s.data.map fun b => .int .u8 b.toNat
def ReadB (h : Heap) (a : Addr) (n : Nat) (l : List UInt8) : Prop := l.length = n ∧ ∀ i, i < n → Cell h (a.add i) (.int .u8 ((l.getD i 0).toNat : Nat))

def idxAddrVC (P : Program) (T : TypeId) (x ix : Value) (K : Value → Prop) : Prop :=
  match P.underlying T, x, ix with
  | some (.slice elem), .slice a len _, .int _ i =>
    match P.info? elem with
    | some inf => (0 ≤ i ∧ i < len) ∧ ∃ b off, a = some ⟨b, off, none⟩ ∧ K (.pointer (some ⟨b, off + i.toNat * inf.size, none⟩))
    | none => False
  | some (.array len elem), .pointer (some ⟨b, off, none⟩), .int _ i =>
    match P.info? elem with
    | some inf => (0 ≤ i ∧ i < len) ∧ K (.pointer (some ⟨b, off + i.toNat * inf.size, none⟩))
    | none => False
  | _, _, _ => False

def idxVC (P : Program) (T : TypeId) (x ix : Value) (K : Value → Prop) : Prop :=
  match P.underlying T, x, ix with
  | some .string, .string s, .int _ i => (0 ≤ i ∧ i < s.size) ∧ (0 ≤ byteAt s i.toNat → byteAt s i.toNat ≤ 255 → K (.int .u8 (byteAt s i.toNat)))
  | _, _, _ => False

def sliceVC (P : Program) (T : TypeId) (x : Value) (lo hi : Option Value) (K : Value → Prop) : Prop :=
  match P.underlying T, x with
  | some .string, .string s =>
    match lo, hi with
    | none, none => K (.string (s.extract 0 s.size))
    | none, some (.int _ j) => (0 ≤ j ∧ j ≤ s.size) ∧ K (.string (s.extract 0 j.toNat))
    | some (.int _ i), none => (0 ≤ i ∧ i ≤ s.size) ∧ K (.string (s.extract i.toNat s.size))
    | some (.int _ i), some (.int _ j) => (0 ≤ i ∧ i ≤ j ∧ j ≤ s.size) ∧ K (.string (s.extract i.toNat j.toNat))
    | _, _ => False
  | some (.slice elem), .slice a len cap =>
    match P.info? elem with
    | none => False
    | some inf =>
      match lo, hi with
      | none, none => K (.slice a len cap)
      | none, some (.int _ j) => (0 ≤ j ∧ j ≤ cap) ∧ K (.slice a j.toNat cap)
      | some (.int _ i), none => (0 ≤ i ∧ i ≤ len) ∧ ∀ a', a' = cutA a i.toNat inf.size cap → K (.slice a' (len - i.toNat) (cap - i.toNat))
      | some (.int _ i), some (.int _ j) => (0 ≤ i ∧ i ≤ j ∧ j ≤ cap) ∧ ∀ a', a' = cutA a i.toNat inf.size cap → K (.slice a' (j.toNat - i.toNat) (cap - i.toNat))
      | _, _ => False
  | some (.array n elem), .pointer (some ⟨b, off, none⟩) =>
    match P.info? elem with
    | none => False
    | some inf =>
      match lo, hi with
      | none, none => K (.slice (some ⟨b, off, none⟩) n n)
      | none, some (.int _ j) => (0 ≤ j ∧ j ≤ n) ∧ K (.slice (some ⟨b, off, none⟩) j.toNat n)
      | some (.int _ i), none => (0 ≤ i ∧ i ≤ n) ∧ ∀ a', a' = cutA (some ⟨b, off, none⟩) i.toNat inf.size n → K (.slice a' (n - i.toNat) (n - i.toNat))
      | some (.int _ i), some (.int _ j) => (0 ≤ i ∧ i ≤ j ∧ j ≤ n) ∧ ∀ a', a' = cutA (some ⟨b, off, none⟩) i.toNat inf.size n → K (.slice a' (j.toNat - i.toNat) (n - i.toNat))
      | _, _ => False
  | _, _ => False

def makeSliceVC (P : Program) (T : TypeId) (n c : Value) (K : Value → Heap → Nat → Prop) (h : Heap) (t : Nat) : Prop :=
  match P.underlying T, n, c with
  | some (.slice elem), .int _ n, .int _ c =>
    match P.info? elem with
    | some inf =>
      match inf.zero with
      | some z => (0 ≤ n ∧ n ≤ c ∧ c * inf.bytes ≤ 2 ^ 46 ∧ c ≤ 2 ^ 46) ∧ ∀ r cs, t ≤ r → cs = zcells z.cells (c.toNat * inf.size) → K (.slice (some ⟨r, 0, none⟩) n.toNat c.toNat) (hset h r (.cells cs elem)) (r + 1)
      | none => False
    | none => False
  | _, _, _ => False

/-- A built-in 'append': met by a lemma. -/
structure AppVC (P : Program) (ats : Array TypeId) (ty : TypeId) (s x : Value) (K : Value → Heap → Nat → Prop) (h : Heap) (t : Nat) : Prop where
  run : gen P (Builtin.append_ ats ty #[s, x]) K h t
structure CopyVC (P : Program) (ats : Array TypeId) (ty : TypeId) (s x : Value) (K : Value → Heap → Nat → Prop) (h : Heap) (t : Nat) : Prop where
  run : gen P (Builtin.copy_ ats ty #[s, x]) K h t
structure LookVC (P : Program) (T : TypeId) (x k : Value) (ok : Bool) (K : Value → Heap → Nat → Prop) (h : Heap) (t : Nat) : Prop where
  run : gen P (Instr.lookup T x k ok) K h t
structure MapUpVC (P : Program) (T : TypeId) (m k x : Value) (K : Value → Heap → Nat → Prop) (h : Heap) (t : Nat) : Prop where
  run : gen P (Instr.mapUpdate T m k x) (fun _ => K undef) h t
structure MapEntVC (P : Program) (T : TypeId) (m k : Value) (K : Value → Heap → Nat → Prop) (h : Heap) (t : Nat) : Prop where
  run : gen P (Instr.mapEntry T m k) K h t
structure EntStVC (P : Program) (T : TypeId) (m k x : Value) (K : Value → Heap → Nat → Prop) (h : Heap) (t : Nat) : Prop where
  run : gen P (Instr.entryStore T m k x) (fun _ => K undef) h t
structure NextVC (P : Program) (it : Value) (s : Bool) (T : TypeId) (K : Value → Heap → Nat → Prop) (h : Heap) (t : Nat) : Prop where
  run : gen P (Instr.next it s T) K h t
def cellsL : Value → List Value
  | .agg cs => cs.toList
  | v => [v]
def setR (cells : List Value) (off : Nat) : List Value → List Value
  | [] => cells
  | v :: r => setR (cells.set off v) (off + 1) r
def fillL (place : Nat → Option (Nat × Nat)) : List Value → List (Nat × Value) → Option (List Value)
  | cells, [] => some cells
  | cells, (i, v) :: rest =>
    match place i with
    | none => none
    | some (off, size) => bif Nat.beq (cellsL v).length size && Nat.ble (off + size) cells.length then fillL place (setR cells off (cellsL v)) rest else none
def fieldsKnown (P : Program) : List Field → Bool
  | [] => true
  | f :: r => (P.info? f.type).isSome && fieldsKnown P r
def placeF (P : Program) (fields : List Field) (i : Nat) : Option (Nat × Nat) :=
  match fields[i]? with
  | some f => match P.info? f.type with | some inf => some (f.offset, inf.size) | none => none
  | none => none

def BuildVC (P : Program) (T : TypeId) (parts : List (Nat × Value)) (K : Value → Prop) : Prop :=
  match P.info? T with
  | none => False
  | some inf =>
    match inf.zero with
    | none => False
    | some z =>
      match P.underlying T with
      | some (.struct fields) =>
        match fieldsKnown P fields.toList, fillL (placeF P fields.toList) (cellsL z) parts with
        | true, some l => forceL l fun l => K (.agg l.toArray)
        | _, _ => False
      | some (.array _ elem) =>
        match P.info? elem with
        | none => False
        | some ie =>
          match fillL (fun i => some (i * ie.size, ie.size)) (cellsL z) parts with
          | some l => forceL l fun l => K (.agg l.toArray)
          | none => False
      | _ => False
/-- A great row is met by a lemma. -/
structure BuildS (P : Program) (T : TypeId) (parts : List (Nat × Value)) (K : Value → Prop) : Prop where
  run : BuildVC P T parts K
def bigT (P : Program) (T : TypeId) : Bool :=
  match P.info? T with
  | some inf => Nat.blt 40 inf.size
  | none => false
def BuildX (P : Program) (T : TypeId) (parts : List (Nat × Value)) (K : Value → Prop) : Prop := bif bigT P T then BuildS P T parts K else BuildVC P T parts K
theorem buildX_vc {P : Program} {T : TypeId} {parts : List (Nat × Value)} {K : Value → Prop} (h : BuildX P T parts K) : BuildVC P T parts K := by
  unfold BuildX at h
  cases hb : bigT P T with
  | true => rw [hb] at h; exact h.run
  | false => rw [hb] at h; exact h
theorem build_i {P : Program} {T : TypeId} {parts : List (Nat × Value)} {K : Value → Prop} {inf : TypeInfo} {z : Value} {fields : Array Field} {l : List Value} (h1 : P.info? T = some inf) (h2 : inf.zero = some z) (h3 : P.underlying T = some (.struct fields))
    (h4 : fieldsKnown P fields.toList = true) (h5 : fillL (placeF P fields.toList) (cellsL z) parts = some l) (hk : K (.agg l.toArray)) : BuildS P T parts K := by
  refine ⟨?_⟩
  unfold BuildVC
  simp only [h1, h2, h3, h4, h5, forceL_eq]
  exact hk
def BuildSlVC (P : Program) (T : TypeId) (len : Nat) (parts : List (Nat × Value)) (K : Value → Heap → Nat → Prop) (h : Heap) (t : Nat) : Prop :=
  match P.underlying T with
  | some (.slice elem) =>
    match P.info? elem with
    | none => False
    | some ie =>
      match ie.zero with
      | none => False
      | some z =>
        match Nat.ble (len * ie.size) 16777216, fillL (fun i => some (i * ie.size, ie.size)) ((List.range (len * ie.size)).map fun i => (cellsL z).getD (i % (cellsL z).length) default) parts with
        | true, some l => forceL l fun l => ∀ r, t ≤ r → K (.slice (some ⟨r, 0, none⟩) len len) (hset h r (.cells l.toArray elem)) (r + 1)
        | _, _ => False
  | _ => False
def LoadRowVC (P : Program) (T : TypeId) (x : Value) (K : Value → Prop) (h : Heap) : Prop :=
  match x, P.info? T with
  | .pointer (some ⟨b, off, none⟩), some inf => ∃ c T' f, h b = some (.cells c T' f) ∧ off + inf.size ≤ c.size ∧ ∀ l, l = (c.toList.drop off).take inf.size → forceL l fun l => K (.agg l.toArray)
  | _, _ => False
def StoreRowVC (P : Program) (T : TypeId) (x v : Value) (K : Heap → Prop) (h : Heap) : Prop :=
  match x, v, P.info? T with
  | .pointer (some ⟨b, off, none⟩), .agg cs, some inf => cs.size = inf.size ∧ (∀ u ∈ cs.toList, oneC u = true) ∧ ∃ c T' f, h b = some (.cells c T' f) ∧ off + inf.size ≤ c.size ∧ (∀ i, i < inf.size → fz f (off + i) = false) ∧
      ∀ c', c' = (setR c.toList off cs.toList).toArray → K (hset h b (.cells c' T' f))
  | _, _, _ => False

def fAddrVC (P : Program) (T : TypeId) (x : Value) (i : Nat) (K : Value → Prop) : Prop :=
  match P.underlying T, x with
  | some (.struct fields), .pointer (some ⟨b, off, none⟩) =>
    match fields.toList[i]? with
    | none => False
    | some f =>
      match P.info? f.type with
      | none => False
      | some inf =>
        match inf.size, f.offset with
        | 0, _ => False
        | _ + 1, 0 => K (.pointer (some ⟨b, off, none⟩))
        | _ + 1, o + 1 => K (.pointer (some ⟨b, off + (o + 1), none⟩))
  | _, _ => False
def LoadVC (x : Value) (K : Value → Prop) (h : Heap) : Prop :=
  match x with
  | .pointer (some ⟨b, off, none⟩) => ∃ v, Cell h ⟨b, off, none⟩ v ∧ K v
  | _ => False
def StoreVC (P : Program) (T : TypeId) (x v : Value) (K : Heap → Prop) (h : Heap) : Prop :=
  match x, P.info? T with
  | .pointer (some ⟨b, off, none⟩), some inf =>
    match inf.size with
    | 1 => oneC v = true ∧ ∃ c T f, h b = some (.cells c T f) ∧ off < c.size ∧ fz f off = false ∧ ∀ c', c' = c.setIfInBounds off v → K (hset h b (.cells c' T f))
    | _ => False
  | _, _ => False

def isRow (P : Program) (T : TypeId) : Bool :=
  match P.underlying T with
  | some (.struct _) | some (.array _ _) => true
  | _ => false

def isNRow (P : Program) (T : TypeId) : Bool :=
  match P.underlying T with
  | some (.struct _) | some (.array _ _) | none => false
  | _ => true

def convertVC (P : Program) (S T : TypeId) (x : Value) (K : Value → Heap → Nat → Prop) (h : Heap) (t : Nat) : Prop :=
  match P.underlying S, P.underlying T, x with
  | some _, some (.int k), .int _ n => ∃ z, z = k.wrap n ∧ K (.int k z) h t
  | some _, some (.slice e), .string s =>
    match P.underlying e with
    | some (.int .u8) => ∀ r c, t ≤ r → s.size ≤ c → K (.slice (some ⟨r, 0, none⟩) s.size c) (hset h r (.cells (bytesVals s ++ Array.replicate (c - s.size) (.int .u8 0)) e (c, c + 1))) (r + 1)
    | _ => False
  | some (.slice e), some .string, .slice none _ _ =>
    match P.underlying e with
    | some (.int .u8) => K (.string ByteArray.empty) h t
    | _ => False
  | some (.slice e), some .string, .slice (some a) n _ =>
    match P.underlying e with
    | some (.int .u8) => ∃ l, ReadB h a n l ∧ K (.string ⟨l.toArray⟩) h t
    | _ => False
  | _, _, _ => gen P (convert S T x) K h t

def idxAggVC (P : Program) (T : TypeId) (cs : Array Value) (ix : Value) (K : Value → Prop) : Prop :=
  match P.underlying T, ix with
  | some (.array len elem), .int _ i =>
    match P.info? elem with
    | some inf => bif isNRow P elem then (0 ≤ i ∧ i < len) ∧ ∃ v, cs[i.toNat * inf.size]? = some v ∧ K v else False
    | none => False
  | _, _ => False

/-- A slice that is cut with a capacity: met by a lemma. -/
structure Slice3VC (P : Program) (T : TypeId) (x : Value) (lo hi mx : Option Value) (K : Value → Heap → Nat → Prop) (h : Heap) (t : Nat) : Prop where
  run : gen P (Instr.sliceAt T x lo hi mx) K h t
/-- Structs compared: met by a lemma. -/
structure AggEqVC (P : Program) (op : BinOp) (T : TypeId) (xo yo : Operand) (x y : Value) (K : Value → Heap → Nat → Prop) (h : Heap) (t : Nat) : Prop where
  run : gen P (do eqGuard op T xo yo x y; binOp op T x y) K h t
def binVC (P : Program) (op : BinOp) (T : TypeId) (xo yo : Operand) (x y : Value) (K : Value → Heap → Nat → Prop) (h : Heap) (t : Nat) : Prop :=
  match op, x, y with
  | .add, .string a, .string b => a.size + b.size ≤ 2 ^ 62 ∧ K (.string (a ++ b)) h t
  | .eql, .string a, .string b => K (.bool (opq (decide (a = b)))) h t
  | .neq, .string a, .string b => K (.bool (opq (decide (a ≠ b)))) h t
  | .lss, .string a, .string b => K (.bool (opq (Op.bytesLess a.toList b.toList))) h t
  | .geq, .string a, .string b => K (.bool (!opq (Op.bytesLess a.toList b.toList))) h t
  | .eql, .int k a, .int k' b => bif k == k' then K (.bool (opq (decide (a = b)))) h t else False
  | .neq, .int k a, .int k' b => bif k == k' then K (.bool (opq (decide (a ≠ b)))) h t else False
  | .lss, .int k a, .int k' b => bif k == k' then K (.bool (opq (decide (a < b)))) h t else False
  | .leq, .int k a, .int k' b => bif k == k' then K (.bool (opq (decide (a ≤ b)))) h t else False
  | .gtr, .int k a, .int k' b => bif k == k' then K (.bool (opq (decide (a > b)))) h t else False
  | .geq, .int k a, .int k' b => bif k == k' then K (.bool (opq (decide (a ≥ b)))) h t else False
  | .shl, .int k a, .int _ b => 0 ≤ b ∧ ∃ z, z = shlV k a b ∧ K (.int k z) h t
  | .shr, .int k a, .int _ b => 0 ≤ b ∧ ∃ z, z = shrV k a b ∧ K (.int k z) h t
  | .quo, .int k a, .int k' b => k = k' ∧ b ≠ 0 ∧ ∃ z, z = k.wrap (a.tdiv b) ∧ K (.int k z) h t
  | .rem, .int k a, .int k' b => k = k' ∧ b ≠ 0 ∧ ∃ z, z = a.tmod b ∧ K (.int k z) h t
  | .add, .int k a, .int k' b => bif k == k' then (∃ z, z = k.wrap (a + b) ∧ K (.int k z) h t) else False
  | .sub, .int k a, .int k' b => bif k == k' then (∃ z, z = k.wrap (a - b) ∧ K (.int k z) h t) else False
  | .mul, .int k a, .int k' b => bif k == k' then (∃ z, z = k.wrap (a * b) ∧ K (.int k z) h t) else False
  | .and, .int k a, .int k' b => bif k == k' then (∃ z, z = k.wrap (BitVec.ofInt k.bits a &&& BitVec.ofInt k.bits b).toNat ∧ K (.int k z) h t) else False
  | .or, .int k a, .int k' b => bif k == k' then (∃ z, z = k.wrap (BitVec.ofInt k.bits a ||| BitVec.ofInt k.bits b).toNat ∧ K (.int k z) h t) else False
  | .xor, .int k a, .int k' b => bif k == k' then (∃ z, z = k.wrap (BitVec.ofInt k.bits a ^^^ BitVec.ofInt k.bits b).toNat ∧ K (.int k z) h t) else False
  | .andNot, .int k a, .int k' b => bif k == k' then (∃ z, z = k.wrap (BitVec.ofInt k.bits a &&& ~~~(BitVec.ofInt k.bits b)).toNat ∧ K (.int k z) h t) else False
  | .eql, .agg a, .agg b => AggEqVC P .eql T xo yo (.agg a) (.agg b) K h t
  | .neq, .agg a, .agg b => AggEqVC P .neq T xo yo (.agg a) (.agg b) K h t
  | _, _, _ => gen P (do eqGuard op T xo yo x y; binOp op T x y) K h t

def unVC (P : Program) (op : UnOp) (x : Value) (K : Value → Prop) : Prop :=
  match op, x with
  | .neg, .int k n => ∃ z, z = k.wrap (0 - n) ∧ K (.int k z)
  | .xor, .int k n => ∃ z, z = k.wrap (BitVec.ofInt k.bits (if k.signed then -1 else k.max) ^^^ BitVec.ofInt k.bits n).toNat ∧ K (.int k z)
  | .not, .bool b => K (.bool !b)
  | _, _ => False

/-- A function without a body: the model's own. -/
def isExt (P : Program) (k : FuncId) : Bool := match P.funcs[k]? with | some fn => fn.body.isNone | none => false
structure ExtVC (P : Program) (f : FuncId) (args : Array Value) (K : Value → Heap → Nat → Prop) (h : Heap) (t : Nat) : Prop where
  run : gen P (callFunc f args) (nextK P K) h t
def vcOp (P : Program) (e : Env) (o : Oper) (K : Value → Heap → Nat → Prop) (h : Heap) (t : Nat) : Prop :=
  match o.op with
  | .indexAddr T x ix => idxAddrVC P T (evalE e x) (evalE e ix) (fun v => K v h t)
  | .index T x ix =>
    match evalE e x with
    | .string _ => idxVC P T (evalE e x) (evalE e ix) (fun v => K v h t)
    | .agg cs => idxAggVC P T cs (evalE e ix) (fun v => K v h t)
    | _ => gen P (execOp (evalE e) o) (nextK P K) h t
  | .slice T x lo hi none => sliceVC P T (evalE e x) (lo.map (evalE e)) (hi.map (evalE e)) (fun v => K v h t)
  | .slice T x lo hi (some m) => force (evalE e x) fun x => Slice3VC P T x (lo.map (evalE e)) (hi.map (evalE e)) (some (evalE e m)) K h t
  | .makeSlice T n c => makeSliceVC P T (evalE e n) (evalE e c) K h t
  | .binOp op T x y _ => binVC P op T x y (evalE e x) (evalE e y) K h t
  | .unOp op _ x => unVC P op (evalE e x) (fun v => K v h t)
  | .convert S T x => convertVC P S T (evalE e x) K h t
  | .lookup T x ix ok => force (evalE e x) fun x => force (evalE e ix) fun k => LookVC P T x k ok K h t
  | .mapUpdate T m k x => force (evalE e m) fun m => force (evalE e k) fun k => force (evalE e x) fun x => MapUpVC P T m k x K h t
  | .insert T m k x => force (evalE e m) fun m => force (evalE e k) fun k => force (evalE e x) fun x => MapUpVC P T m k x K h t
  | .mapEntry T m k => force (evalE e m) fun m => force (evalE e k) fun k => MapEntVC P T m k K h t
  | .entryStore T m k x => force (evalE e m) fun m => force (evalE e k) fun k => force (evalE e x) fun x => EntStVC P T m k x K h t
  | .next it s => force (evalE e it) fun it => NextVC P it s o.type K h t
  | .build T parts => forceL (parts.toList.map fun p => evalE e p.2) fun vs => BuildX P T ((parts.toList.map (·.1)).zip vs) (fun v => K v h t)
  | .buildSlice T n parts => forceL (parts.toList.map fun p => evalE e p.2) fun vs => BuildSlVC P T n ((parts.toList.map (·.1)).zip vs) K h t
  | .makeFunc fn first captured => K (.func fn (first.toList.map (evalE e)).toArray (captured.toList.map (evalE e)).toArray) h t
  | .fieldAddr T x i => fAddrVC P T (evalE e x) i (fun v => K v h t)
  | .load T x => bif isRow P T then force (evalE e x) (fun x => LoadRowVC P T x (fun v => K v h t) h) else bif isNRow P T then LoadVC (evalE e x) (fun v => K v h t) h else False
  | .store T x v => bif isRow P T then force (evalE e x) (fun x => force (evalE e v) fun v => StoreRowVC P T x v (fun h => K undef h t) h) else force (evalE e v) fun v => StoreVC P T (evalE e x) v (fun h => K undef h t) h
  | .call ⟨.builtin .append, args, ats⟩ =>
    match args.toList.map (evalE e) with
    | [s, x] => force s fun s => force x fun x => AppVC P ats o.type s x K h t
    | _ => False
  | .call ⟨.builtin .copy, args, ats⟩ =>
    match args.toList.map (evalE e) with
    | [s, x] => force s fun s => force x fun x => CopyVC P ats o.type s x K h t
    | _ => False
  | .call ⟨.builtin .print, _, _⟩ => False
  | .call ⟨.builtin .println, _, _⟩ => False
  | .call ⟨.builtin b, args, ats⟩ => gen P (builtin b ats o.type #[] (args.toList.map (evalE e)).toArray) (nextK P K) h t
  | .call ⟨.value f, args, _⟩ =>
    match evalE e f with
    | .func (.func k) first captured => forceL (first.toList ++ args.toList.map (evalE e) ++ captured.toList) fun l => bif isExt P k then ExtVC P k l.toArray K h t else CallSpec P k l.toArray h t K
    | _ => False
  | _ => gen P (execOp (evalE e) o) (nextK P K) h t
end Go.Vc
