import Derived.Test.YtlkpgjicpjjlcaaGreatDoorTileKeep
/- Replacer.Replace. -/
set_option linter.unusedSimpArgs false
namespace Go.Vc
open Go
theorem method_i {P : Program} {T E : TypeId} {inf : TypeInfo} {m : Method} {f : FuncId} {n : Nat} {v : Value} {name : String} {K : FuncId × Value → Heap → Nat → Prop} {h : Heap} {t : Nat} (hi : P.info? T = some inf) (hm : inf.methods.find? (·.name == name) = some m) (hp : m.path.toList = []) (hf : m.func = some (f, true))
    (hu : P.underlying T = some (.pointer E)) (hK : K (f, v) h t) : gen P (method (n + 1) T v name) K h t := by
  unfold method
  simp only [gen_b, gen_typeInfo hi, hm, hp, follow, gen_p, hf, receiverAt, gen_underlying hu, Place.get]
  exact hK
theorem invoke_i {P : Program} {T E : TypeId} {inf : TypeInfo} {m : Method} {f : FuncId} {fn : Func} {v : Value} {name : String} {ρ : Operand → Value} {x : Operand} {args : Array Operand} {at' : Array TypeId} {o : Oper} {K : Value → Heap → Nat → Prop} {h : Heap} {t : Nat}
    (ho : o.op = .call { callee := .invoke x name, args := args, argTypes := at' }) (hx : ρ x = .iface T v) (hi : P.info? T = some inf) (hm : inf.methods.find? (·.name == name) = some m) (hp : m.path.toList = []) (hf : m.func = some (f, true))
    (hu : P.underlying T = some (.pointer E)) (hfn : P.funcs[f]? = some fn) (hn : (fn.name == "runtime.NumGoroutine") = false) (hb : fn.body.isNone = false) (hK : CallSpec P f (v :: args.toList.map ρ).toArray h t K) : gen P (execOp ρ o) (nextK P K) h t := by
  unfold execOp
  simp only [ho, gen_b, resolve, gen_p, invoke, hx]
  have e : (#[Value.iface T v] ++ args.map ρ)[0]? = some (.iface T v) := by rw [Array.getElem?_append_left (by simp)]; rfl
  have e2 : (#[Value.iface T v] ++ args.map ρ).extract 1 (#[Value.iface T v] ++ args.map ρ).size = args.map ρ := by
    apply Array.ext'
    simp
    exact List.take_of_length_le (by simp)
  simp only [e, e2, callMethod, gen_b, program, gen]
  refine method_i hi hm hp hf hu ?_
  simp only [callFunc, gen_b, program, gen, hfn, hn, hb, Bool.false_eq_true, if_false, gen_p, nextK]
  have e3 : #[v] ++ args.map ρ = (v :: args.toList.map ρ).toArray := by
    apply Array.ext'
    simp
  rw [e3]
  exact hK
end Go.Vc
namespace Go.Proofs.YtlkpgjicpjjlcaaGreatDoor
open Go Go.Vc Go.Tile
set_option maxRecDepth 20000
set_option linter.unusedVariables false
theorem rep_method : ∃ inf m, Tryz.prog.info? 194 = some inf ∧ inf.methods.find? (·.name == "Replace") = some m ∧ m.path.toList = [] ∧ m.func = some (177, true) :=
  ⟨Tryz.types[194], Tryz.types[194].methods[0]'(of_decide_eq_true (by kernel_rfl)), by kernel_rfl, by kernel_rfl, by kernel_rfl, by kernel_rfl⟩
theorem RepObj.upd {h : Heap} {q r c : Nat} {a : Option Addr} {T : TypeId} {o : Obj} (ho : RepObj h q) (hr : h r = some (.cells #[.int .u32 0, .int .i32 1, .int .u32 0, .nilIface, .slice a 4 c] T (0, 0))) (hq : q ≠ r) : RepObj (hset h r o) q := by
  obtain ⟨A, a2, c2, h1, h2, h3, h4, h5⟩ := ho
  refine ⟨A, a2, c2, by rw [hset_ne _ _ hq]; exact h1, h2, h3, ⟨h4.1, fun hn => ?_⟩, h5⟩
  obtain ⟨b, off, cs, T2, fr, e1, e2, e3⟩ := h4.2 hn
  have hb : b ≠ r := by
    rintro rfl
    rw [hr] at e2
    cases e2
    have := e3 0 (by decide)
    match off with
    | 0 => cases this
    | 1 => cases this
    | 2 => cases this
    | 3 => cases this
    | 4 => cases this
    | off + 5 => rw [Array.getElem?_eq_none (by show 5 ≤ _; omega)] at this; cases this
  exact ⟨b, off, cs, T2, fr, e1, by rw [hset_ne _ _ hb]; exact e2, e3⟩
theorem replace_spec {h : Heap} {t r c : Nat} {a : Option Addr} {T : TypeId} (s : ByteArray) (hs : s.size ≤ 1048576) (hr : h r = some (.cells #[.int .u32 0, .int .i32 0, .int .u32 0, .nilIface, .slice a 4 c] T (0, 0))) (hsl : Sl h a 4 Value.string oldL) (hc : 4 ≤ c) (ha : ∀ b, owner a = some b → b ≠ r) :
    CallSpec Tryz.prog 38 #[.pointer (some ⟨r, 0, none⟩), .string s] h t (fun v h' t' => v = .string ⟨(keptL s.data.toList).toArray⟩ ∧ (∀ b o, b ≠ r → h b = some o → h' b = some o) ∧ t ≤ t') := by
  refine Go.Vc.spec_of_vc (fn := Tryz.f38) Tryz.func38 rfl (by kernel_rfl) (by kernel_rfl) (Nat.le_of_ble_eq_true rfl) ?_
  intro hd
  have hrt := hd _ _ hr
  conv => whnf
  have hs0 : ∀ b o, b ≠ r → h b = some o → (hset h r (.cells (#[.int .u32 0, .int .i32 0, .int .u32 0, .nilIface, .slice a 4 c].setIfInBounds 1 (.int .i32 1)) T (0, 0))) b = some o := fun b o hb ho => by rw [hset_ne _ _ hb]; exact ho
  refine (do_spec (K := fun c' h' t' => ∃ (q : Nat) (h1 : Heap), RepObj h1 q ∧ t ≤ q ∧ q < t' ∧ (∀ b o, b ≠ r → h b = some o → h1 b = some o) ∧ h1 r = some (.cells #[.int .u32 0, .int .i32 1, .int .u32 0, .nilIface, .slice a 4 c] T (0, 0)) ∧ h' = hset h1 r (.cells c' T (0, 0)) ∧ c' = #[.int .u32 0, .int .i32 1, .int .u32 0, .iface 194 (.pointer (some ⟨q, 0, none⟩)), .slice none 0 0]) hr rfl rfl ?_).mono ?_
  · refine (buildonce_spec (c := c) (a := a) (hset_same _ _ _) ?_ hc).mono ?_
    · refine ⟨hsl.1, fun hn => ?_⟩
      obtain ⟨b, off, cs, T2, fr, e1, e2, e3⟩ := hsl.2 hn
      exact ⟨b, off, cs, T2, fr, e1, hs0 b _ (ha b (by rw [e1]; rfl)) e2, e3⟩
    · rintro v h' t' hd' ht' ⟨rfl, q, h1, hq, hq1, hq2, hs1, rfl⟩
      exact ⟨rfl, _, hset_same _ _ _, rfl, rfl, q, h1, hq, hq1, hq2, fun b o hb ho => hs1 _ _ (hs0 b o hb ho), hs1 _ _ (hset_same _ _ _), rfl, rfl⟩
  rintro v h'' t'' hd'' ht'' ⟨rfl, h', c', hrc, ⟨q, h1, hq, hq1, hq2, hs1, hrr, rfl, rfl⟩, rfl⟩
  conv => whnf
  repeat (first | ((with_reducible apply Go.Vc.ld_i); (focus ((repeat (first | with_reducible assumption | with_reducible exact Go.Vc.hset_same _ _ _ | with_reducible refine (Go.Vc.hset_ne _ _ (by omega)).trans ?_)); done)); (focus exact rfl); conv => whnf))
  obtain ⟨inf, m, m1, m2, m3, m4⟩ := rep_method
  refine invoke_i (name := "Replace") rfl rfl m1 m2 m3 m4 Tryz.underlying194 Tryz.func177 (by kernel_rfl) (by kernel_rfl) ?_
  refine CallSpec.args_eq (a := #[.pointer (some ⟨q, 0, none⟩), .string s]) rfl ?_
  have hqr : RepObj (hset (hset h1 r (.cells #[.int .u32 0, .int .i32 1, .int .u32 0, .iface 194 (.pointer (some ⟨q, 0, none⟩)), .slice none 0 0] T (0, 0))) r (.cells ((#[.int .u32 0, .int .i32 1, .int .u32 0, .iface 194 (.pointer (some ⟨q, 0, none⟩)), .slice none 0 0].setIfInBounds 0 (.int .u32 1)).setIfInBounds 1 (.int .i32 0)) T (0, 0))) q := by
    rw [hset_hset]
    exact hq.upd hrr (by omega)
  refine (keeps_spec s hs hqr).mono ?_
  rintro _ h5 t5 hd5 ht5 ⟨rfl, hs5, _⟩
  conv => whnf
  refine ⟨rfl, fun b o hb ho => ?_, by omega⟩
  refine hs5 _ _ ?_
  rw [hset_ne _ _ hb, hset_ne _ _ hb]
  exact hs1 _ _ hb ho
end Go.Proofs.YtlkpgjicpjjlcaaGreatDoor
