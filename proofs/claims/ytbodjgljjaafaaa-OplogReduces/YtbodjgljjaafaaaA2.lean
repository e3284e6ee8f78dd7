/- The abstract machine: a function's whole text, walked by computation along given hints; what the function comes to is computed. -/
import Derived.Test.YtbodjgljjaafaaaA1
import Derived.Test.YtbodjgljjaafaaaProg
import Derived.KernelRfl
namespace Go.AM
inductive Ty where
 | i | b | l | m
abbrev Ty.T : Ty → Type
 | .i => Int
 | .b => Bool
 | .l => DL
 | .m => DLL
abbrev Cur : List Ty → Type → Type
 | [], α => α
 | t :: ts, α => t.T → Cur ts α
inductive Lf where
 | i (x:Int)
 | b (x:Bool)
 | l (x : DL)
 | m (x : DLL)
def appC {α : Type} : (ts : List Ty) → Cur ts α → List Lf → Option α
 | [], f, [] => some f
 | .i :: ts, f, .i x :: xs => appC ts (f x) xs
 | .b :: ts, f, .b x :: xs => appC ts (f x) xs
 | .l :: ts, f, .l x :: xs => appC ts (f x) xs
 | .m :: ts, f, .m x :: xs => appC ts (f x) xs
 | _, _, _ => none
inductive Sh where
 | nil
 | st (σ:St) (k : Sh)
 | bo (b:Bool) (k : Sh)
 | pr (p:Prop) (k : Sh)
 | td (l : List Item) (k : Sh)
 | two (a b : Sh)
 | ai (f:Int → Sh)
 | ab (f:Bool → Sh)
 | al (f : DL → Sh)
 | am (f : DLL → Sh)
 | ad (f : List D → Sh)
 | af (f:FuncId → Sh)
 | aj (ts : List Ty) (f : Cur ts Prop → Cur ts Nat → Sh)
structure Q where
 prop : Prop
 l : Sh
 r : Sh
abbrev Q.fail : Q := ⟨False, .nil, .nil⟩
inductive Pr where
 | new
 | old (i:Nat)
 | rw (i j:Nat) (t w:Bool) (m:Bool → Prop)
structure Hd where
 c : Code
 σ : St
 σ' : St
def Hd.ok (P:Program) (h : Hd) : Prop := ∀ (I:Nat → Prop) (M:Mem) (a:Act) (w:World), Sim I M h.σ a w →
 h.c.wp P (fun e a' w' => e = .normal ∧ ∃ I' M', Sim I' M' h.σ' a' w' ∧ Nw M h.σ.h I w M' h.σ'.h I' w') a w
inductive Hn where
 | reg (cnt:Nat) (ins : List (Nat × In)) (live ids : List Nat) (pr : List Pr) (k : Hn)
 | drw (cnt:Nat) (ins : List (Nat × In × List Nat)) (live ids : List Nat) (pr : List Pr) (k : Hn)
 | drl (cnt:Nat) (ins : List (Nat × In × List Nat)) (live ids : List Nat) (pr : List Pr) (k : Hn)
 | ex (f:Int → Hn)
 | exb (f:Bool → Hn)
 | exl (f : DL → Hn)
 | exm (f : DLL → Hn)
 | exd (f : List D → Hn)
 | exf (f:FuncId → Hn)
 | c2 (a b : Hn)
 | ct (w:Bool) (i : Option Nat) (a : Hn)
 | spl (t:Bool) (a b : Hn)
 | ob (p:Prop) (k : Hn)
 | lp1 (k : Hn)
 | lp (ts : List Ty) (G : Cur ts St) (xs : List Lf) (body : Hn)
 | fi (f:Int → Hn)
 | fb (f:Bool → Hn)
 | fl (f : DL → Hn)
 | fm (f : DLL → Hn)
 | beg (k : Hn)
 | bk (n:Nat) (xs : List Lf)
 | frz (ids : List Nat) (k : Hn)
 | nrm (sl bx : List Nat) (k : Hn)
 | ado (sl bx : List Nat) (z:Nat) (k : Hn)
 | fwd (sl bx : List Nat) (k : Hn)
 | viw (live ids : List Nat) (k : Hn)
 | mv (o:Nat) (k : Hn)
 | hand (h : Hd) (k : Hn)
 | hwk (σ1 σ2:St) (k : Hn)
 | ret (ids : List Nat)
 | dead
abbrev Hn.r0 (live : List Nat) (k : Hn) : Hn := .reg 0 [] live [] [] k
abbrev Hn.r1 (live ids : List Nat) (k : Hn) : Hn := .reg 0 [] live ids [] k
structure Bk where
 todo : List Item
 G : List Lf → Option St
 ob : List Lf → Prop
inductive Mo where
 | run (todo : List Item) (σ:St) (env : List Prop) (bks : List Bk)
 | tele (ts : List Ty) (J : Cur ts Prop) (μ : Cur ts Nat) (G : Cur ts St) (JF : List Lf → Option Prop) (μF : List Lf → Option Nat) (GF : List Lf → Option St) (c : Code) (k : List Item) (env : List Prop) (bks : List Bk)
structure Cx where
 P : Program
 T : Tab
 f : FuncId
 res : List ResultVar
 R:V → Heap → Prop
 n0 : Nat
def adm:Nat → List Item → List Item
 | 0, t => t
 | n + 1, t =>
   match t with
   | .code .skip :: k => adm n k
   | .code (.label _) :: k => adm n k
   | .code (.seq a b) :: k => adm n (.code a :: .code b :: k)
   | .code (.block id c) :: k => adm n (.code c :: .inBlock id :: k)
   | .code (.scope c) :: k => adm n (.code c :: .inScope c :: k)
   | .code (.exit id) :: k => match exitTo id k with
     | some k' => adm n k'
     | none => t
   | .code (.goto l) :: k => match gotoIn l k with
     | some k' => adm n k'
     | none => t
   | .inBlock _ :: k => adm n k
   | .inScope _ :: k => adm n k
   | t => t
def obl : List Prop → List Pr → List Prop → (List Prop → Q) → Q
 | [], _, env, k => k env
 | o :: os, ps, env, k =>
   match ps with
   | [] => let q := obl os [] (o :: env) k; ⟨o ∧ q.prop, q.l, q.r⟩
   | .new :: ps => let q := obl os ps (o :: env) k; ⟨o ∧ q.prop, q.l, q.r⟩
   | .old i :: ps => match env[i]? with
     | some p => let q := obl os ps env k; ⟨q.prop, .pr p q.l, .pr o q.r⟩
     | none => .fail
   | .rw i j t w m :: ps => match env[i]?, env[j]? with
     | some p, some e => let q := obl os ps env k; ⟨q.prop, .pr p (.pr e (.pr o q.l)), .pr (m t) (.pr (t = w) (.pr (m w) q.r))⟩
     | _, _ => .fail
def mkIn:Nat → List Oper → List (Nat × In) → List In
 | _, [], _ => []
 | i, _ :: os, [] => (Or.none, 0, 0) :: mkIn (i + 1) os []
 | i, _ :: os, (j, x) :: l => if j == i then x :: mkIn (i + 1) os l else (Or.none, 0, 0) :: mkIn (i + 1) os ((j, x) :: l)
def mkTc:Nat → List Oper → List (Nat × In × List Nat) → List (In × List Nat)
 | _, [], _ => []
 | i, _ :: os, [] => ((Or.none, 0, 0), []) :: mkTc (i + 1) os []
 | i, _ :: os, (j, x) :: l => if j == i then x :: mkTc (i + 1) os l else ((Or.none, 0, 0), []) :: mkTc (i + 1) os ((j, x) :: l)
def uni : List Nat → List Nat → List Nat
 | [], m => m
 | x :: l, m => if m.contains x then uni l m else uni l (x :: m)
def forceN {α : Type} (n:Nat) (k:Nat → α) : α :=
 match n with
 | 0 => k 0
 | m + 1 => k (m + 1)
theorem forceN_eq {α : Type} (n:Nat) (k:Nat → α) : forceN n k = k n := by cases n <;> rfl
def forceL {α : Type} : List Nat → (List Nat → α) → α
 | [], k => k []
 | x :: l, k => forceN x fun y => forceL l fun m => k (y :: m)
theorem forceL_eq {α : Type} : ∀ (l : List Nat) (k : List Nat → α), forceL l k = k l
 | [], _ => rfl
 | x :: l, k => by rw [forceL, forceN_eq, forceL_eq l]
def forceLL {α : Type} : List (List Nat) → (List (List Nat) → α) → α
 | [], k => k []
 | x :: l, k => forceL x fun y => forceLL l fun m => k (y :: m)
def ancsOf : List Oper → List (List Nat) → List (List Nat)
 | [], acc => acc
 | o :: os, acc => ancsOf os (acc ++ [forceL ((predsOf o).foldl (fun m p => uni (p :: (acc[p]?).getD []) m) []) id])
def tmpsOf : List Operand → List Nat
 | [] => []
 | .tmp t :: l => t :: tmpsOf l
 | _ :: l => tmpsOf l
def needOf (all : List Oper) (o : Oper) : List Nat :=
 uni (tmpsOf o.op.operands.toList) (match o.guard with
   | some (j, _) => match all[j]? with
     | some oj => match oj.dst with
       | some d => [d]
       | none => []
     | none => []
   | none => [])
def dropOf (i:Nat) (ai : List Nat) : Nat → List (List Nat) → List (In × List Nat) → List Nat
 | j, a :: az, (_, t) :: ts => if j == i || ai.contains j || a.contains i then dropOf i ai (j + 1) az ts else uni t (dropOf i ai (j + 1) az ts)
 | _, _, _ => []
def mkDs (all : List Oper) (ancs : List (List Nat)) (tcs : List (In × List Nat)) : Nat → List Oper → List (List Nat) → List (In × List Nat) → List DIn
 | i, o :: os, a :: az, ((or, nid, cnt), t) :: ts => ⟨or, nid, cnt, a, forceL (needOf all o) id, t, forceL (dropOf i a 0 ancs tcs) id⟩ :: mkDs all ancs tcs (i + 1) os az ts
 | _, _, _, _ => []
def mkD (all : List Oper) (ins : List (Nat × In × List Nat)) : List DIn :=
 forceLL (ancsOf all []) fun ancs => mkDs all ancs (mkTc 0 all ins) 0 all ancs (mkTc 0 all ins)
section
variable {α : Type}
def forceD (d : D) (k : D → α) : α :=
 match d with
 | .bool b => k (.bool b)
 | .int t n => k (.int t n)
 | .str s => k (.str s)
 | .sl e => k (.sl e)
 | .box c => k (.box c)
 | .fn f c => k (.fn f c)
 | .iface t c => k (.iface t c)
 | .raw v => k (.raw v)
theorem forceD_eq (d : D) (k : D → α) : forceD d k = k d := by cases d <;> rfl
def forceS (s : S) (k : S → α) : α :=
 match s with
 | .dat d => forceD d fun d => k (.dat d)
 | .ref o => forceN o fun o => k (.ref o)
 | .ptr o i => forceN o fun o => forceN i fun i => k (.ptr o i)
 | .aptr o i j => forceN o fun o => k (.aptr o i j)
 | .eptr z e i j => k (.eptr z e i j)
 | .row o i => forceN o fun o => k (.row o i)
 | .mptr o i => forceN o fun o => k (.mptr o i)
 | .rptr o r i j => forceN o fun o => k (.rptr o r i j)
 | .clo f c => forceL c fun c => k (.clo f c)
 | .bptr d i => k (.bptr d i)
 | .refb o n => forceN o fun o => k (.refb o n)
 | .undef => k .undef
theorem forceS_eq (s : S) (k : S → α) : forceS s k = k s := by
 cases s <;> simp only [forceS, forceD_eq, forceN_eq, forceL_eq]
def forceSs : List S → (List S → α) → α
 | [], k => k []
 | x :: l, k => forceS x fun y => forceSs l fun m => k (y :: m)
theorem forceSs_eq : ∀ (l : List S) (k : List S → α), forceSs l k = k l
 | [], _ => rfl
 | x :: l, k => by rw [forceSs, forceS_eq, forceSs_eq l]
def forceE (e : E) (k : E → α) : α :=
 match e with
 | .sc s => forceS s fun s => k (.sc s)
 | .agg l => forceSs l fun l => k (.agg l)
theorem forceE_eq (e : E) (k : E → α) : forceE e k = k e := by cases e <;> simp only [forceE, forceS_eq, forceSs_eq]
def forceEs : List E → (List E → α) → α
 | [], k => k []
 | x :: l, k => forceE x fun y => forceEs l fun m => k (y :: m)
theorem forceEs_eq : ∀ (l : List E) (k : List E → α), forceEs l k = k l
 | [], _ => rfl
 | x :: l, k => by rw [forceEs, forceE_eq, forceEs_eq l]
def forceV (v:V) (k:V → α) : α :=
 match v with
 | .e x => forceE x fun x => k (.e x)
 | .tup l => forceEs l fun l => k (.tup l)
theorem forceV_eq (v:V) (k:V → α) : forceV v k = k v := by cases v <;> simp only [forceV, forceE_eq, forceEs_eq]
def forceT : List (Nat × V) → (List (Nat × V) → α) → α
 | [], k => k []
 | (i, v) :: l, k => forceN i fun i => forceV v fun v => forceT l fun m => k ((i, v) :: m)
theorem forceT_eq : ∀ (l : List (Nat × V)) (k : List (Nat × V) → α), forceT l k = k l
 | [], _ => rfl
 | (i, v) :: l, k => by simp only [forceT, forceN_eq, forceV_eq, forceT_eq l]
def forceO (o : Obj) (k : Obj → α) : α :=
 match o with
 | .box c => forceSs c fun c => k (.box c)
 | .arr s e => k (.arr s e)
 | .mat s r => k (.mat s r)
 | .fwd s => forceS s fun s => k (.fwd s)
 | .part s r i x => k (.part s r i x)
theorem forceO_eq (o : Obj) (k : Obj → α) : forceO o k = k o := by cases o <;> simp only [forceO, forceS_eq, forceSs_eq]
def forceH:Heap → (Heap → α) → α
 | [], k => k []
 | none :: l, k => forceH l fun m => k (none :: m)
 | some o :: l, k => forceO o fun o => forceH l fun m => k (some o :: m)
theorem forceH_eq : ∀ (l:Heap) (k:Heap → α), forceH l k = k l
 | [], _ => rfl
 | none :: l, k => by simp only [forceH, forceH_eq l]
 | some o :: l, k => by simp only [forceH, forceO_eq, forceH_eq l]
def forceSt (σ:St) (k:St → α) : α :=
 forceT σ.t fun t => forceH σ.h fun h => forceN σ.n fun n => k ⟨t, h, n⟩
theorem forceSt_eq (σ:St) (k:St → α) : forceSt σ k = k σ := by simp only [forceSt, forceT_eq, forceH_eq, forceN_eq]
end
def idsOK (n0:Nat) (ids : List Nat) : Bool := nodupB ids && ids.take n0 == List.range n0
def vcg (C : Cx) : Hn → Mo → Q
 | .reg cnt ins live ids pr k, mo => match mo with
   | .run todo σ env bks => match adm 100000 todo with
     | .code (.region _ ops false) :: rest =>
       match idsOK C.n0 ids, xregV C.P C.T ops.toList cnt (mkIn 0 ops.toList ins) live ids σ with
       | true, some (σ', obs) => obl obs pr env fun env' => forceSt σ' fun σ'' => vcg C k (.run rest σ'' env' bks)
       | _, _ => .fail
     | _ => .fail
   | _ => .fail
 | .drw cnt ins live ids pr k, mo => match mo with
   | .run todo σ env bks => match adm 100000 todo with
     | .code (.region _ ops true) :: rest =>
       match idsOK C.n0 ids, C.P.follows .mixedOrders, xdrawV C.P C.T ops.toList cnt (mkD ops.toList ins) live ids σ with
       | true, true, some (σ', obs) => obl obs pr env fun env' => forceSt σ' fun σ'' => vcg C k (.run rest σ'' env' bks)
       | _, _, _ => .fail
     | _ => .fail
   | _ => .fail
 | .drl cnt ins live ids pr k, mo => match mo with
   | .run todo σ env bks => match adm 100000 todo with
     | .code (.region _ ops true) :: rest =>
       match idsOK C.n0 ids, C.P.follows .mixedOrders, xdrawV C.P C.T ops.toList cnt (mkD ops.toList ins) live ids σ with
       | true, true, some (σ', obs) => obl obs pr env fun env' => vcg C k (.run rest σ' env' bks)
       | _, _, _ => .fail
     | _ => .fail
   | _ => .fail
 | .ex f, mo => match mo with
   | .run todo σ env bks => ⟨∃ x, (vcg C (f x) (.run todo σ env bks)).prop, .ai fun x => (vcg C (f x) (.run todo σ env bks)).l, .ai fun x => (vcg C (f x) (.run todo σ env bks)).r⟩
   | _ => .fail
 | .exb f, mo => match mo with
   | .run todo σ env bks => ⟨∃ x, (vcg C (f x) (.run todo σ env bks)).prop, .ab fun x => (vcg C (f x) (.run todo σ env bks)).l, .ab fun x => (vcg C (f x) (.run todo σ env bks)).r⟩
   | _ => .fail
 | .exl f, mo => match mo with
   | .run todo σ env bks => ⟨∃ x, (vcg C (f x) (.run todo σ env bks)).prop, .al fun x => (vcg C (f x) (.run todo σ env bks)).l, .al fun x => (vcg C (f x) (.run todo σ env bks)).r⟩
   | _ => .fail
 | .exm f, mo => match mo with
   | .run todo σ env bks => ⟨∃ x, (vcg C (f x) (.run todo σ env bks)).prop, .am fun x => (vcg C (f x) (.run todo σ env bks)).l, .am fun x => (vcg C (f x) (.run todo σ env bks)).r⟩
   | _ => .fail
 | .exd f, mo => match mo with
   | .run todo σ env bks => ⟨∃ x, (vcg C (f x) (.run todo σ env bks)).prop, .ad fun x => (vcg C (f x) (.run todo σ env bks)).l, .ad fun x => (vcg C (f x) (.run todo σ env bks)).r⟩
   | _ => .fail
 | .exf f, mo => match mo with
   | .run todo σ env bks => ⟨∃ x, (vcg C (f x) (.run todo σ env bks)).prop, .af fun x => (vcg C (f x) (.run todo σ env bks)).l, .af fun x => (vcg C (f x) (.run todo σ env bks)).r⟩
   | _ => .fail
 | .c2 a b, mo => match mo with
   | .run todo σ env bks => match adm 100000 todo with
     | .code (.cond c x y) :: rest => match ev σ.t c with
       | some (.e (.sc (.dat (.bool t)))) =>
         let p := vcg C a (.run (.code x :: rest) σ ((t = true) :: env) bks)
         let q := vcg C b (.run (.code y :: rest) σ ((t = false) :: env) bks)
         ⟨(t = true → p.prop) ∧ (t = false → q.prop), .two p.l q.l, .two p.r q.r⟩
       | _ => .fail
     | _ => .fail
   | _ => .fail
 | .ct w i a, mo => match mo with
   | .run todo σ env bks => match adm 100000 todo with
     | .code (.cond c x y) :: rest => match ev σ.t c with
       | some (.e (.sc (.dat (.bool t)))) =>
         let p := vcg C a (.run (.code (bif w then x else y) :: rest) σ env bks)
         match i with
         | none => ⟨p.prop, .bo t p.l, .bo w p.r⟩
         | some i => match env[i]? with
           | some e => ⟨p.prop, .pr e p.l, .pr (t = w) p.r⟩
           | none => .fail
       | _ => .fail
     | _ => .fail
   | _ => .fail
 | .spl t a b, mo => match mo with
   | .run todo σ env bks =>
     let p := vcg C a (.run todo σ ((t = true) :: env) bks)
     let q := vcg C b (.run todo σ ((t = false) :: env) bks)
     ⟨(t = true → p.prop) ∧ (t = false → q.prop), .two p.l q.l, .two p.r q.r⟩
   | _ => .fail
 | .ob p k, mo => match mo with
   | .run todo σ env bks => let q := vcg C k (.run todo σ (p :: env) bks); ⟨p ∧ q.prop, q.l, q.r⟩
   | _ => .fail
 | .lp1 k, mo => match mo with
   | .run todo σ env bks => match adm 100000 todo with
     | .code (.loop c) :: rest => vcg C k (.run (.code c :: .inLoop c :: rest) σ env bks)
     | .inLoop c :: rest => vcg C k (.run (.code c :: .inLoop c :: rest) σ env bks)
     | _ => .fail
   | _ => .fail
 | .lp ts G xs body, mo => match mo with
   | .run todo σ env bks => match adm 100000 todo with
     | .code (.loop c) :: rest =>
       match appC ts G xs with
       | some σ0 =>
         ⟨∃ J μ, (match appC ts J xs, appC ts μ xs with | some p, some _ => p | _, _ => False) ∧ (vcg C body (.tele ts J μ G (appC ts J) (appC ts μ) (appC ts G) c rest env bks)).prop,
           .st σ (.aj ts fun J μ => (vcg C body (.tele ts J μ G (appC ts J) (appC ts μ) (appC ts G) c rest env bks)).l),
           .st σ0 (.aj ts fun J μ => (vcg C body (.tele ts J μ G (appC ts J) (appC ts μ) (appC ts G) c rest env bks)).r)⟩
       | none => .fail
     | _ => .fail
   | _ => .fail
 | .fi f, mo => match mo with
   | .tele (.i :: ts) J μ G JF μF GF c k env bks =>
     ⟨∀ x, (vcg C (f x) (.tele ts (J x) (μ x) (G x) JF μF GF c k env bks)).prop, .ai fun x => (vcg C (f x) (.tele ts (J x) (μ x) (G x) JF μF GF c k env bks)).l, .ai fun x => (vcg C (f x) (.tele ts (J x) (μ x) (G x) JF μF GF c k env bks)).r⟩
   | _ => .fail
 | .fb f, mo => match mo with
   | .tele (.b :: ts) J μ G JF μF GF c k env bks =>
     ⟨∀ x, (vcg C (f x) (.tele ts (J x) (μ x) (G x) JF μF GF c k env bks)).prop, .ab fun x => (vcg C (f x) (.tele ts (J x) (μ x) (G x) JF μF GF c k env bks)).l, .ab fun x => (vcg C (f x) (.tele ts (J x) (μ x) (G x) JF μF GF c k env bks)).r⟩
   | _ => .fail
 | .fl f, mo => match mo with
   | .tele (.l :: ts) J μ G JF μF GF c k env bks =>
     ⟨∀ x, (vcg C (f x) (.tele ts (J x) (μ x) (G x) JF μF GF c k env bks)).prop, .al fun x => (vcg C (f x) (.tele ts (J x) (μ x) (G x) JF μF GF c k env bks)).l, .al fun x => (vcg C (f x) (.tele ts (J x) (μ x) (G x) JF μF GF c k env bks)).r⟩
   | _ => .fail
 | .fm f, mo => match mo with
   | .tele (.m :: ts) J μ G JF μF GF c k env bks =>
     ⟨∀ x, (vcg C (f x) (.tele ts (J x) (μ x) (G x) JF μF GF c k env bks)).prop, .am fun x => (vcg C (f x) (.tele ts (J x) (μ x) (G x) JF μF GF c k env bks)).l, .am fun x => (vcg C (f x) (.tele ts (J x) (μ x) (G x) JF μF GF c k env bks)).r⟩
   | _ => .fail
 | .beg h, mo => match mo with
   | .tele [] J μ G JF μF GF c k env bks =>
     let q := vcg C h (.run (.code c :: .inLoop c :: k) G env (⟨.inLoop c :: k, GF, fun xs => match JF xs, μF xs with | some p, some m => p ∧ m < μ | _, _ => False⟩ :: bks))
     ⟨J → q.prop, q.l, q.r⟩
   | _ => .fail
 | .bk n xs, mo => match mo with
   | .run todo σ _ bks => match bks[n]? with
     | some b => match b.G xs with
       | some σ' => ⟨b.ob xs, .td (adm 100000 todo) (.st σ .nil), .td b.todo (.st σ' .nil)⟩
       | none => .fail
     | none => .fail
   | _ => .fail
 | .frz ids k, mo => match mo with
   | .run todo σ env bks => match xfreeze ids σ with
     | some σ' => forceSt σ' fun σ'' => vcg C k (.run todo σ'' env bks)
     | none => .fail
   | _ => .fail
 | .nrm sl bx k, mo => match mo with
   | .run todo σ env bks => forceSt (xnorm sl bx σ) fun σ'' => vcg C k (.run todo σ'' env bks)
   | _ => .fail
 | .ado sl bx z k, mo => match mo with
   | .run todo σ env bks => forceSt (xadopt sl bx z σ) fun σ'' => vcg C k (.run todo σ'' env bks)
   | _ => .fail
 | .fwd sl bx k, mo => match mo with
   | .run todo σ env bks => forceSt (xfwd sl bx σ) fun σ'' => vcg C k (.run todo σ'' env bks)
   | _ => .fail
 | .viw live ids k, mo => match mo with
   | .run todo σ env bks => match idsOK C.n0 ids, xview live ids σ with
     | true, some σ' => forceSt σ' fun σ'' => vcg C k (.run todo σ'' env bks)
     | _, _ => .fail
   | _ => .fail
 | .mv o k, mo => match mo with
   | .run todo σ env bks => match xmv o σ with
     | some σ' => forceSt σ' fun σ'' => vcg C k (.run todo σ'' env bks)
     | none => .fail
   | _ => .fail
 | .hand h k, mo => match mo with
   | .run todo σ env bks => match adm 100000 todo with
     | .code c :: rest => forceSt h.σ' fun σ' =>
       let q := vcg C k (.run rest σ' env bks)
       ⟨h.ok C.P ∧ q.prop, .td [.code c] (.st σ q.l), .td [.code h.c] (.st h.σ q.r)⟩
     | _ => .fail
   | _ => .fail
 | .hwk σ1 σ2 k, mo => match mo with
   | .run todo σ env bks =>
     let q := vcg C k (.run todo σ2 env bks)
     ⟨Wk C.n0 σ1 σ2 ∧ q.prop, .st σ q.l, .st σ1 q.r⟩
   | _ => .fail
 | .ret ids, mo => match mo with
   | .run todo σ _ _ => match idsOK C.n0 ids, xview [] ids σ, xresults C.T σ C.res with
     | true, some σ', some r => match adm 100000 todo with
       | .code .ret :: _ => ⟨C.R (r.map (rnS ids)) σ'.h, .nil, .nil⟩
       | [] => match C.res with
         | [] => ⟨C.R (.tup []) σ'.h, .nil, .nil⟩
         | _ => .fail
       | _ => .fail
     | _, _, _ => .fail
   | _ => .fail
 | .dead, _ => .fail
theorem adm_ok {P : Program} {f : FuncId} {n0 : Nat} {R:V → Heap → Prop} {σ : St} : ∀ (n:Nat) (t : List Item), GoJ P f n0 R (adm n t) σ → GoJ P f n0 R t σ
 | 0, t, h => h
 | n + 1, t, h => by
   unfold adm at h
   split at h
   · exact .skip (adm_ok n _ h)
   · exact .label (adm_ok n _ h)
   · exact .seq (adm_ok n _ h)
   · exact .block (adm_ok n _ h)
   · exact .scope (adm_ok n _ h)
   · split at h
     · exact .exit (by assumption) (adm_ok n _ h)
     · exact h
   · split at h
     · exact .goto (by assumption) (adm_ok n _ h)
     · exact h
   · exact .inBlock (adm_ok n _ h)
   · exact .inScope (adm_ok n _ h)
   · exact h
theorem obl_ok : ∀ (os : List Prop) (ps : List Pr) (env : List Prop) (k : List Prop → Q), (obl os ps env k).l = (obl os ps env k).r → (obl os ps env k).prop → (∀ p ∈ env, p) →
   AllP os ∧ ∃ env', (∀ p ∈ env', p) ∧ (k env').l = (k env').r ∧ (k env').prop
 | [], _, env, k, hs, hp, he => ⟨trivial, env, he, hs, hp⟩
 | o :: os, ps, env, k, hs, hp, he => by
   have cons : o → ∀ p ∈ o :: env, p := fun ho p hm => by
     rcases List.mem_cons.1 hm with rfl | hm
     · exact ho
     · exact he p hm
   match ps with
   | [] =>
     simp only [obl] at hs hp
     obtain ⟨h1, h2⟩ := obl_ok os [] _ k hs hp.2 (cons hp.1)
     exact ⟨⟨hp.1, h1⟩, h2⟩
   | .new :: ps =>
     simp only [obl] at hs hp
     obtain ⟨h1, h2⟩ := obl_ok os ps _ k hs hp.2 (cons hp.1)
     exact ⟨⟨hp.1, h1⟩, h2⟩
   | .old i :: ps =>
     simp only [obl] at hs hp
     split at hs
     · rename_i p hi
       simp only [Sh.pr.injEq] at hs
       rw [hi] at hp
       obtain ⟨h1, h2⟩ := obl_ok os ps env k hs.2 hp he
       exact ⟨⟨hs.1 ▸ he p (List.mem_of_getElem? hi), h1⟩, h2⟩
     · rename_i hi
       rw [hi] at hp; exact hp.elim
   | .rw i j t w m :: ps =>
     simp only [obl] at hs hp
     split at hs
     · rename_i p e hi hj
       simp only [Sh.pr.injEq] at hs
       rw [hi, hj] at hp
       obtain ⟨h1, h2⟩ := obl_ok os ps env k hs.2.2.2 hp he
       have g1 : m t := hs.1 ▸ he p (List.mem_of_getElem? hi)
       have g2 : t = w := hs.2.1 ▸ he e (List.mem_of_getElem? hj)
       exact ⟨⟨hs.2.2.1 ▸ (g2 ▸ g1), h1⟩, h2⟩
     · rename_i hh
       split at hp
       · rename_i hi hj; exact (hh _ _ hi hj).elim
       · exact hp.elim
def bkOK (C : Cx) (b : Bk) : Prop := ∀ xs σ, b.G xs = some σ → b.ob xs → GoJ C.P C.f C.n0 C.R b.todo σ
def Mo.sem (C : Cx) : Mo → Prop
 | .run todo σ env bks => (∀ p ∈ env, p) → (∀ b ∈ bks, bkOK C b) → GoJ C.P C.f C.n0 C.R todo σ
 | .tele ts J μ G JF μF GF c k env bks => (∀ p ∈ env, p) → (∀ b ∈ bks, bkOK C b) → ∀ xs p m σ, appC ts J xs = some p → appC ts μ xs = some m → appC ts G xs = some σ → p →
     (∀ xs' σ' p' m', GF xs' = some σ' → JF xs' = some p' → μF xs' = some m' → p' → m' < m → GoJ C.P C.f C.n0 C.R (.inLoop c :: k) σ') → GoJ C.P C.f C.n0 C.R (.code c :: .inLoop c :: k) σ
theorem cons_env {p : Prop} {env : List Prop} (h : p) (he : ∀ q ∈ env, q) : ∀ q ∈ p :: env, q := fun q hm => by
 rcases List.mem_cons.1 hm with rfl | hm
 · exact h
 · exact he q hm
theorem tele_step {C : Cx} {t : Ty} {ts : List Ty} {J : Cur (t :: ts) Prop} {μ : Cur (t :: ts) Nat} {G : Cur (t :: ts) St} {JF : List Lf → Option Prop} {μF : List Lf → Option Nat} {GF : List Lf → Option St} {c : Code} {k : List Item} {env : List Prop} {bks : List Bk}
   (h : ∀ x : t.T, (Mo.tele ts (J x) (μ x) (G x) JF μF GF c k env bks).sem C) : (Mo.tele (t :: ts) J μ G JF μF GF c k env bks).sem C := fun he hb xs p m σ h1 h2 h3 hp hih => by
 match t, xs with
 | .i, .i x :: ys => exact h x he hb ys p m σ h1 h2 h3 hp hih
 | .b, .b x :: ys => exact h x he hb ys p m σ h1 h2 h3 hp hih
 | .l, .l x :: ys => exact h x he hb ys p m σ h1 h2 h3 hp hih
 | .m, .m x :: ys => exact h x he hb ys p m σ h1 h2 h3 hp hih
 | .i, [] | .b, [] | .l, [] | .m, [] => simp [appC] at h1
 | .i, .b _ :: _ | .i, .l _ :: _ | .i, .m _ :: _ => simp [appC] at h1
 | .b, .i _ :: _ | .b, .l _ :: _ | .b, .m _ :: _ => simp [appC] at h1
 | .l, .i _ :: _ | .l, .b _ :: _ | .l, .m _ :: _ => simp [appC] at h1
 | .m, .i _ :: _ | .m, .b _ :: _ | .m, .l _ :: _ => simp [appC] at h1
section
variable {C : Cx} {fn : Func}
theorem idsOK_ok {n0 : Nat} {ids : List Nat} (h : idsOK n0 ids = true) : nodupB ids = true ∧ ids.take n0 = List.range n0 := by
 simpa [idsOK] using h
def Good (C : Cx) (mo : Mo) (q : Q) : Prop := q.l = q.r → q.prop → mo.sem C
theorem Good.fail {mo : Mo} : Good C mo .fail := fun _ h => h.elim
theorem vcg_ok (hT : TOK C.P C.T) (hf : C.P.funcs[C.f]? = some fn) (hres : fn.results.toList = C.res) : ∀ (h : Hn) (mo : Mo), Good C mo (vcg C h mo) := by
 intro h
 induction h with
 | reg cnt ins live ids pr k ih =>
   intro mo
   unfold vcg
   split
   case h_2 => exact .fail
   split
   case h_2 => exact .fail
   rename_i id ops rest hadm
   split
   case h_2 => exact .fail
   rename_i σ' obs hids hx
   simp only [forceSt_eq]
   intro hs hp he hb
   obtain ⟨ho, env', he', hs', hp'⟩ := obl_ok _ _ _ _ hs hp he
   refine adm_ok 100000 _ ?_
   rw [hadm]
   have := GoJ.regV (id := id) hT (idsOK_ok hids).1 (idsOK_ok hids).2 hx ho (ih _ hs' hp' he' hb)
   rwa [Array.toArray_toList] at this
 | drw cnt ins live ids pr k ih =>
   intro mo
   unfold vcg
   split
   case h_2 => exact .fail
   split
   case h_2 => exact .fail
   rename_i id ops rest hadm
   split
   case h_2 => exact .fail
   rename_i σ' obs hids hm hx
   simp only [forceSt_eq]
   intro hs hp he hb
   obtain ⟨ho, env', he', hs', hp'⟩ := obl_ok _ _ _ _ hs hp he
   refine adm_ok 100000 _ ?_
   rw [hadm]
   have := GoJ.drawV (id := id) hm hT (idsOK_ok hids).1 (idsOK_ok hids).2 hx ho (ih _ hs' hp' he' hb)
   rwa [Array.toArray_toList] at this
 | drl cnt ins live ids pr k ih =>
   intro mo
   unfold vcg
   split
   case h_2 => exact .fail
   split
   case h_2 => exact .fail
   rename_i id ops rest hadm
   split
   case h_2 => exact .fail
   rename_i σ' obs hids hm hx
   intro hs hp he hb
   obtain ⟨ho, env', he', hs', hp'⟩ := obl_ok _ _ _ _ hs hp he
   refine adm_ok 100000 _ ?_
   rw [hadm]
   have := GoJ.drawV (id := id) hm hT (idsOK_ok hids).1 (idsOK_ok hids).2 hx ho (ih _ hs' hp' he' hb)
   rwa [Array.toArray_toList] at this
 | ex f ih | exb f ih | exl f ih | exm f ih | exd f ih | exf f ih =>
   intro mo
   unfold vcg
   split
   case h_2 => exact .fail
   intro hs ⟨x, hp⟩ he hb
   simp only [Sh.ai.injEq, Sh.ab.injEq, Sh.al.injEq, Sh.am.injEq, Sh.ad.injEq, Sh.af.injEq] at hs
   exact ih x _ (congrFun hs x) hp he hb
 | c2 a b iha ihb =>
   intro mo
   unfold vcg
   split
   case h_2 => exact .fail
   split
   case h_2 => exact .fail
   rename_i c x y rest hadm
   split
   case h_2 => exact .fail
   rename_i t hc
   intro hs ⟨h1, h2⟩ he hb
   simp only [Sh.two.injEq] at hs
   refine adm_ok 100000 _ ?_
   rw [hadm]
   exact GoJ.cond hc (fun ht => iha _ hs.1 (h1 ht) (cons_env ht he) hb) (fun ht => ihb _ hs.2 (h2 ht) (cons_env ht he) hb)
 | ct w i a iha =>
   intro mo
   unfold vcg
   split
   case h_2 => exact .fail
   rename_i todo σ env bks
   split
   case h_2 => exact .fail
   rename_i c x y rest hadm
   split
   case h_2 => exact .fail
   rename_i t hc
   have fin : t = w → (vcg C a (.run (.code (bif w then x else y) :: rest) σ env bks)).l = (vcg C a (.run (.code (bif w then x else y) :: rest) σ env bks)).r → (vcg C a (.run (.code (bif w then x else y) :: rest) σ env bks)).prop →
       (∀ p ∈ env, p) → (∀ b ∈ bks, bkOK C b) → GoJ C.P C.f C.n0 C.R todo σ := fun ht hs hp he hb => by
     have g := iha _ hs hp he hb
     refine adm_ok 100000 _ ?_
     rw [hadm]
     subst ht
     exact GoJ.cond hc (fun ht => by subst ht; exact g) (fun ht => by subst ht; exact g)
   cases i with
   | none =>
     intro hs hp he hb
     simp only [Sh.bo.injEq] at hs
     exact fin hs.1 hs.2 hp he hb
   | some i =>
     simp only
     split
     case h_2 => exact .fail
     rename_i e hi
     intro hs hp he hb
     simp only [Sh.pr.injEq] at hs
     exact fin (hs.1 ▸ he e (List.mem_of_getElem? hi)) hs.2 hp he hb
 | spl t a b iha ihb =>
   intro mo
   unfold vcg
   split
   case h_2 => exact .fail
   intro hs ⟨h1, h2⟩ he hb
   simp only [Sh.two.injEq] at hs
   cases t with
   | true => exact iha _ hs.1 (h1 rfl) (cons_env rfl he) hb
   | false => exact ihb _ hs.2 (h2 rfl) (cons_env rfl he) hb
 | ob p k ih =>
   intro mo
   unfold vcg
   split
   case h_2 => exact .fail
   intro hs ⟨h1, h2⟩ he hb
   exact ih _ hs h2 (cons_env h1 he) hb
 | lp1 k ih =>
   intro mo
   unfold vcg
   split
   case h_2 => exact .fail
   split
   · rename_i c rest hadm
     intro hs hp he hb
     refine adm_ok 100000 _ ?_
     rw [hadm]
     exact .loop1 (ih _ hs hp he hb)
   · rename_i c rest hadm
     intro hs hp he hb
     refine adm_ok 100000 _ ?_
     rw [hadm]
     exact .inLoop (ih _ hs hp he hb)
   · exact .fail
 | lp ts G xs body ih =>
   intro mo
   unfold vcg
   split
   case h_2 => exact .fail
   rename_i todo σ env bks
   split
   case h_2 => exact .fail
   rename_i c rest hadm
   split
   case h_2 => exact .fail
   rename_i σ0 hσ0
   intro hs ⟨J, μ, h0, hp⟩ he hb
   simp only [Sh.st.injEq, Sh.aj.injEq, heq_eq_eq, true_and] at hs
   obtain ⟨rfl, hs⟩ := hs
   refine adm_ok 100000 _ ?_
   rw [hadm]
   split at h0
   case h_2 => exact h0.elim
   rename_i p0 m0 hp0 hm0
   have key := ih (.tele ts J μ G (appC ts J) (appC ts μ) (appC ts G) c rest env bks) (congrFun (congrFun hs J) μ) hp he hb
   have := GoJ.loop (P := C.P) (f := C.f) (n0 := C.n0) (R := C.R) (k := rest) (c := c) (X := List Lf) (fun xs => (appC ts G xs).getD default)
     (fun xs => ∃ p m σ, appC ts J xs = some p ∧ appC ts μ xs = some m ∧ appC ts G xs = some σ ∧ p) (fun xs => (appC ts μ xs).getD 0) xs ⟨p0, m0, _, hp0, hm0, hσ0, h0⟩
     (fun x ⟨p, m, σ, g1, g2, g3, g4⟩ hih => by
       rw [g3, Option.getD_some]
       refine key x p m σ g1 g2 g3 g4 fun xs' σ' p' m' k1 k2 k3 k4 k5 => ?_
       have := hih xs' ⟨p', m', σ', k2, k3, k1, k4⟩ (by rw [k3, g2]; exact k5)
       rwa [k1, Option.getD_some] at this)
   rwa [hσ0, Option.getD_some] at this
 | fi f ih | fb f ih | fl f ih | fm f ih =>
   intro mo
   unfold vcg
   split
   case h_2 => exact .fail
   intro hs hp
   simp only [Sh.ai.injEq, Sh.ab.injEq, Sh.al.injEq, Sh.am.injEq] at hs
   exact tele_step fun x => ih x _ (congrFun hs x) (hp x)
 | beg h ih =>
   intro mo
   unfold vcg
   split
   case h_2 => exact .fail
   rename_i J μ G JF μF GF c k env bks
   intro hs hp he hb xs p m σ h1 h2 h3 h4 hih
   match xs with
   | _ :: _ => simp [appC] at h1
   | [] =>
     simp only [appC, Option.some.injEq] at h1 h2 h3
     subst h1; subst h2; subst h3
     refine ih _ hs (hp h4) he fun b hm => ?_
     rcases List.mem_cons.1 hm with rfl | hm
     · intro xs' σ' g1 g2
       simp only at g1 g2
       split at g2
       · rename_i p' m' e1 e2
         exact hih xs' σ' p' m' g1 e1 e2 g2.1 g2.2
       · exact g2.elim
     · exact hb b hm
 | bk n xs =>
   intro mo
   unfold vcg
   split
   case h_2 => exact .fail
   split
   case h_2 => exact .fail
   rename_i b hn
   split
   case h_2 => exact .fail
   rename_i σ' hG
   intro hs hp he hb
   simp only [Sh.td.injEq, Sh.st.injEq, and_true] at hs
   obtain ⟨h1, rfl⟩ := hs
   refine adm_ok 100000 _ ?_
   rw [h1]
   exact hb b (List.mem_of_getElem? hn) xs _ hG hp
 | frz ids k ih =>
   intro mo
   unfold vcg
   split
   case h_2 => exact .fail
   split
   case h_2 => exact .fail
   rename_i σ' hx
   simp only [forceSt_eq]
   intro hs hp he hb
   exact GoJ.wk (xfreeze_ok hx) (ih _ hs hp he hb)
 | nrm sl bx k ih =>
   intro mo
   unfold vcg
   split
   case h_2 => exact .fail
   simp only [forceSt_eq]
   intro hs hp he hb
   exact GoJ.wk (xnorm_ok rfl) (ih _ hs hp he hb)
 | ado sl bx z k ih =>
   intro mo
   unfold vcg
   split
   case h_2 => exact .fail
   simp only [forceSt_eq]
   intro hs hp he hb
   exact GoJ.wk (xadopt_ok rfl) (ih _ hs hp he hb)
 | fwd sl bx k ih =>
   intro mo
   unfold vcg
   split
   case h_2 => exact .fail
   simp only [forceSt_eq]
   intro hs hp he hb
   exact GoJ.wk (xfwd_ok rfl) (ih _ hs hp he hb)
 | viw live ids k ih =>
   intro mo
   unfold vcg
   split
   case h_2 => exact .fail
   split
   case h_2 => exact .fail
   rename_i σ' hids hx
   simp only [forceSt_eq]
   intro hs hp he hb
   exact GoJ.wk (xview_ok hx (idsOK_ok hids).1 (idsOK_ok hids).2) (ih _ hs hp he hb)
 | mv o k ih =>
   intro mo
   unfold vcg
   split
   case h_2 => exact .fail
   split
   case h_2 => exact .fail
   rename_i σ' hx
   simp only [forceSt_eq]
   intro hs hp he hb
   exact GoJ.wk (xmv_ok hx) (ih _ hs hp he hb)
 | hand h k ih =>
   intro mo
   unfold vcg
   split
   case h_2 => exact .fail
   split
   case h_2 => exact .fail
   rename_i c rest hadm
   simp only [forceSt_eq]
   intro hs ⟨h1, h2⟩ he hb
   simp only [Sh.td.injEq, Sh.st.injEq, List.cons.injEq, Item.code.injEq, and_true] at hs
   obtain ⟨e1, e2, hs⟩ := hs
   refine adm_ok 100000 _ ?_
   rw [hadm, e1, e2]
   exact GoJ.admin' h1 (ih _ hs h2 he hb)
 | hwk σ1 σ2 k ih =>
   intro mo
   unfold vcg
   split
   case h_2 => exact .fail
   intro hs ⟨h1, h2⟩ he hb
   simp only [Sh.st.injEq] at hs
   obtain ⟨e1, hs⟩ := hs
   subst e1
   exact GoJ.wk h1 (ih _ hs h2 he hb)
 | ret ids =>
   intro mo
   unfold vcg
   split
   case h_2 => exact .fail
   split
   case h_2 => exact .fail
   rename_i σ' r hids hv hr
   split
   · rename_i rest hadm
     intro hs hp he hb
     refine adm_ok 100000 _ ?_
     rw [hadm]
     exact GoJ.retV hT hf (idsOK_ok hids).1 (idsOK_ok hids).2 (hres ▸ hr) rfl hv hp
   · rename_i hadm
     split
     · rename_i hc
       intro hs hp he hb
       refine adm_ok 100000 _ ?_
       rw [hadm]
       exact GoJ.wk (xview_ok hv (idsOK_ok hids).1 (idsOK_ok hids).2) (GoJ.done hT hf (r := .tup []) (by rw [hres, hc]; rfl) hp)
     · exact .fail
   · exact .fail
 | dead =>
   intro mo
   unfold vcg
   exact .fail
end
theorem FnG.vcg {P : Program} {T : Tab} (hT : TOK P T) {f : FuncId} {fn : Func} (hf : P.funcs[f]? = some fn) {m : Nat} (hm : fn.ntmps = m) {args : List V} {h : Heap} {R:V → Heap → Prop} (hn : Hn) {p : Prop}
   (h0 : (fn.body.isSome && !(fn.name == "runtime.NumGoroutine") && Nat.ble args.length m) = true)
   (hs : (AM.vcg ⟨P, T, f, fn.results.toList, R, h.length⟩ hn (.run [.code (fn.body.getD .skip)] ⟨argT 0 args, h, m⟩ [] [])).l = (AM.vcg ⟨P, T, f, fn.results.toList, R, h.length⟩ hn (.run [.code (fn.body.getD .skip)] ⟨argT 0 args, h, m⟩ [] [])).r)
   (hp : p = (AM.vcg ⟨P, T, f, fn.results.toList, R, h.length⟩ hn (.run [.code (fn.body.getD .skip)] ⟨argT 0 args, h, m⟩ [] [])).prop) (hpp : p) : FnG P f args h R := by
 simp only [Bool.and_eq_true, Bool.not_eq_true'] at h0
 obtain ⟨⟨h1, h2⟩, h3⟩ := h0
 obtain ⟨c, hc⟩ := Option.isSome_iff_exists.1 h1
 rw [hc] at hs hp
 exact FnG.of hf hc h2 hm (Nat.le_of_ble_eq_true h3) (vcg_ok (C := ⟨P, T, f, fn.results.toList, R, h.length⟩) hT hf rfl hn _ hs (hp ▸ hpp) (fun _ h => by simp at h) (fun _ h => by simp at h))
end Go.AM
/- Integers, rows and matrices as the program holds them; digits to the base 2^32. -/
namespace Go.AM
def val : List Nat → Nat
 | [] => 0
 | x :: l => x + 4294967296 * val l
def digsF:Nat → Nat → List Nat
 | 0, _ => []
 | f + 1, n => if n = 0 then [] else n % 4294967296 :: digsF f (n / 4294967296)
def digs (n:Nat) : List Nat := digsF n n
theorem val_digsF : ∀ f n, n ≤ f → val (digsF f n) = n
 | 0, n, h => by have : n = 0 := by omega
                 subst this; rfl
 | f + 1, n, h => by
   unfold digsF
   split
   · rename_i h0; subst h0; rfl
   · rename_i h0
     simp only [val]
     rw [val_digsF f (n / 4294967296) (by have := Nat.div_lt_self (n := n) (k := 4294967296) (by omega) (by decide); omega)]
     exact Nat.mod_add_div n 4294967296
theorem val_digs (n:Nat) : val (digs n) = n := val_digsF n n (Nat.le_refl n)
theorem digsF_lt : ∀ f n, ∀ x ∈ digsF f n, x < 4294967296
 | 0, n, x, h => by simp [digsF] at h
 | f + 1, n, x, h => by
   unfold digsF at h
   split at h
   · simp at h
   · simp only [List.mem_cons] at h
     rcases h with rfl | h
     · exact Nat.mod_lt _ (by decide)
     · exact digsF_lt f _ x h
theorem digs_lt (n:Nat) : ∀ x ∈ digs n, x < 4294967296 := digsF_lt n n
def canon (l : List Nat) : Prop := ∀ x, l.getLast? = some x → x ≠ 0
theorem canon_tail {x : Nat} {l : List Nat} (h : canon (x :: l)) : canon l := fun y hy => h y (by
 cases l with
 | nil => simp at hy
 | cons z t => simpa [List.getLast?_cons_cons] using hy)
theorem val_eq_zero : ∀ {l : List Nat}, canon l → val l = 0 → l = []
 | [], _, _ => rfl
 | x :: l, hc, h => by
   simp only [val] at h
   have h1 : x = 0 := by omega
   have h2 : val l = 0 := by
     rcases Nat.eq_zero_or_pos (val l) with h2 | h2
     · exact h2
     · omega
   have h3 := val_eq_zero (canon_tail hc) h2
   subst h3; subst h1
   exact absurd rfl (hc 0 (by simp))
theorem digsF_val : ∀ (l : List Nat) f, (∀ x ∈ l, x < 4294967296) → canon l → val l ≤ f → digsF f (val l) = l
 | [], f, _, _, _ => by cases f <;> simp [digsF, val]
 | x :: l, f, hx, hc, hf => by
   have hv : val (x :: l) ≠ 0 := fun h => by have := val_eq_zero hc h; simp at this
   cases f with
   | zero => omega
   | succ f =>
     have hxl := hx x (by simp)
     have h1 : (x + 4294967296 * val l) % 4294967296 = x := by rw [Nat.add_mul_mod_self_left, Nat.mod_eq_of_lt hxl]
     have h2 : (x + 4294967296 * val l) / 4294967296 = val l := by rw [Nat.add_mul_div_left _ _ (by decide), Nat.div_eq_of_lt hxl, Nat.zero_add]
     simp only [val] at hv hf ⊢
     unfold digsF
     rw [if_neg hv, h1, h2, digsF_val l f (fun y hy => hx y (by simp [hy])) (canon_tail hc) (by omega)]
theorem digs_val {l : List Nat} (hx : ∀ x ∈ l, x < 4294967296) (hc : canon l) : digs (val l) = l := digsF_val l _ hx hc (Nat.le_refl _)
theorem digsF_canon : ∀ f n, n ≤ f → canon (digsF f n)
 | 0, n, _, x, h => by simp [digsF] at h
 | f + 1, n, hn, x, h => by
   unfold digsF at h
   split at h
   · simp at h
   · rename_i h0
     have hlt : n / 4294967296 < n := Nat.div_lt_self (by omega) (by decide)
     rw [List.getLast?_cons] at h
     cases hd : (digsF f (n / 4294967296)).getLast? with
     | some y =>
       rw [hd] at h; simp only [Option.getD_some, Option.some.injEq] at h; subst h
       exact digsF_canon f (n / 4294967296) (by omega) y hd
     | none =>
       rw [hd] at h; simp only [Option.getD_none, Option.some.injEq] at h; subst h
       have hnil : digsF f (n / 4294967296) = [] := List.getLast?_eq_none_iff.1 hd
       have hz : n / 4294967296 = 0 := by have := val_digsF f (n / 4294967296) (by omega); rw [hnil] at this; exact this.symm
       have := Nat.mod_add_div n 4294967296
       rw [hz] at this
       omega
theorem digs_canon (n:Nat) : canon (digs n) := digsF_canon n n (Nat.le_refl n)
theorem digs_zero : digs 0 = [] := rfl
theorem digs_nil {n : Nat} : digs n = [] ↔ n = 0 := ⟨fun h => by have := val_digs n; rw [h] at this; exact this.symm, fun h => by subst h; rfl⟩
theorem val_append : ∀ a b : List Nat, val (a ++ b) = val a + 4294967296 ^ a.length * val b
 | [], b => by simp [val]
 | x :: a, b => by
   simp only [List.cons_append, val, val_append a b, List.length_cons, Nat.pow_succ, Nat.mul_add]
   rw [Nat.mul_comm (4294967296 ^ a.length) 4294967296, Nat.mul_assoc]; omega
theorem val_lt : ∀ {l : List Nat}, (∀ x ∈ l, x < 4294967296) → val l < 4294967296 ^ l.length
 | [], _ => by simp [val]
 | x :: l, h => by
   have h1 := h x (by simp)
   have h2 := val_lt (l := l) fun y hy => h y (by simp [hy])
   simp only [val, List.length_cons, Nat.pow_succ]
   have : 4294967296 * (val l + 1) ≤ 4294967296 * 4294967296 ^ l.length := Nat.mul_le_mul_left _ h2
   rw [Nat.mul_comm (4294967296 ^ l.length)]
   generalize 4294967296 ^ l.length = q at *
   omega
theorem digs_len {n k : Nat} (h : n < 4294967296 ^ k) : (digs n).length ≤ k := by
 rcases Nat.lt_or_ge k (digs n).length with hlt | hge
 · exfalso
   have hv := val_digs n
   have hc := digs_canon n
   obtain ⟨q, hq⟩ : ∃ q, (digs n).length = q + 1 := ⟨(digs n).length - 1, by omega⟩
   have hsplit : digs n = (digs n).take q ++ (digs n).drop q := (List.take_append_drop _ _).symm
   have hdl : ((digs n).drop q).length = 1 := by simp [hq]
   obtain ⟨x, hx⟩ := List.length_eq_one_iff.1 hdl
   have hx0 : x ≠ 0 := hc x (by rw [hsplit, hx]; simp)
   rw [hsplit, val_append, hx] at hv
   simp only [val, Nat.mul_zero, Nat.add_zero, List.length_take] at hv
   have h1 : 4294967296 ^ k ≤ 4294967296 ^ q := Nat.pow_le_pow_right (by decide) (by omega)
   rw [Nat.min_eq_left (by omega)] at hv
   have h2 : 4294967296 ^ q * 1 ≤ 4294967296 ^ q * x := Nat.mul_le_mul_left _ (by omega)
   omega
 · exact hge
def lim (l : List Nat) : DL := l.map fun (x:Nat) => [D.int .u32 (x:Int)]
theorem lim_length (l : List Nat) : (lim l).length = l.length := by simp [lim]
theorem lim_take (l : List Nat) (n:Nat) : (lim l).take n = lim (l.take n) := by simp [lim, List.map_take]
theorem lim_get {l : List Nat} {i : Nat} (h : i < l.length) : (lim l)[i]? = some [D.int .u32 (l[i] : Nat)] := by simp [lim, h]
theorem lim_one (l : List Nat) : ∀ y ∈ lim l, y.length = 1 := fun y hy => by
 simp only [lim, List.mem_map] at hy
 obtain ⟨x, _, rfl⟩ := hy; rfl
theorem lim_set (l : List Nat) (i x:Nat) : (lim l).set i [D.int .u32 (x:Int)] = lim (l.set i x) := by simp [lim, List.map_set]
theorem lim_append (a b : List Nat) : lim (a ++ b) = lim a ++ lim b := by simp [lim]
theorem lim_rep (n:Nat) : List.replicate n [D.int .u32 (0:Int)] = lim (List.replicate n 0) := by simp [lim]
def cI (z:Int) : List D := [D.bool (decide (z < 0)), D.sl (lim (digs z.natAbs))]
def eI (z:Int) : V := .e (.agg [.dat (.bool (decide (z < 0))), .dat (.sl (lim (digs z.natAbs)))])
def row (r : List Int) : DL := r.map cI
def rows (m : List (List Int)) : DL := m.map fun r => [D.sl (row r)]
def vi (n:Int) : V := .e (.sc (.dat (.int .i64 n)))
def vb (b:Bool) : V := .e (.sc (.dat (.bool b)))
def vs (l : DL) : V := .e (.sc (.dat (.sl l)))
def eM (r c:Int) (m : List (List Int)) : V := .e (.agg [.dat (.int .i64 r), .dat (.int .i64 c), .dat (.sl (rows m))])
theorem row_length (r : List Int) : (row r).length = r.length := by simp [row]
theorem rows_length (m : List (List Int)) : (rows m).length = m.length := by simp [rows]
theorem row_get {r : List Int} {i : Nat} (h : i < r.length) : (row r)[i]? = some (cI r[i]) := by simp [row, h]
theorem rows_get {m : List (List Int)} {i : Nat} (h : i < m.length) : (rows m)[i]? = some [D.sl (row m[i])] := by simp [rows, h]
theorem w64 {n : Int} (h : -9223372036854775808 ≤ n) (h' : n ≤ 9223372036854775807) : IntKind.i64.wrap n = n := IntWalk.i64_in n ⟨h, h'⟩
abbrev Out (r:V) : V → Heap → Prop := fun r' h' => r' = r ∧ h' = []
theorem out2 {b b' : Bool} {l l' : DL} (h1 : b = b') (h2 : l = l') : Out (.e (.agg [.dat (.bool b'), .dat (.sl l')])) (V.e (E.agg [S.dat (D.bool b), S.dat (D.sl l)])) [] := by subst h1; subst h2; exact ⟨rfl, rfl⟩
theorem outs {l l' : DL} (h2 : l = l') : Out (vs l') (V.e (E.sc (S.dat (D.sl l)))) [] := by subst h2; exact ⟨rfl, rfl⟩
theorem outb {b b' : Bool} (h1 : b = b') : Out (vb b') (V.e (E.sc (S.dat (D.bool b)))) [] := by subst h1; exact ⟨rfl, rfl⟩
theorem outi {b b' : Int} (h1 : b = b') : Out (vi b') (V.e (E.sc (S.dat (D.int .i64 b)))) [] := by subst h1; exact ⟨rfl, rfl⟩
theorem take_digs {l : List Nat} (hB : ∀ x ∈ l, x < 4294967296) {n : Nat} (hv : val (l.take n) = val l) (hx : ∀ x, (l.take n).getLast? = some x → x ≠ 0) : l.take n = digs (val l) := by
 rw [← hv]
 exact (digs_val (fun x h => hB x (List.mem_of_mem_take h)) hx).symm
theorem val_take_pred {l : List Nat} {n : Nat} (hn : n < l.length) (h0 : l[n] = 0) : val (l.take (n + 1)) = val (l.take n) := by
 rw [List.take_add_one, List.getElem?_eq_getElem hn, h0, val_append]; simp [val]
theorem getLast_take {l : List Nat} {n : Nat} (hn : n < l.length) : (l.take (n + 1)).getLast? = some l[n] := by
 rw [List.take_add_one, List.getElem?_eq_getElem hn, Option.toList_some, List.getLast?_append]; rfl
end Go.AM
/- The types of the program that the functions use. -/
set_option maxRecDepth 100000
set_option linter.unusedVariables false
namespace Go.AM
open Go.Proofs.Try
def tab:Tab := [(2, ⟨.int .i64, 1, 8, [.int .i64 0]⟩),
 (3, ⟨.int .i64, 1, 8, [.int .i64 0]⟩),
 (4, ⟨.bool, 1, 1, [.bool false]⟩),
 (5, ⟨.int .u8, 1, 1, [.int .u8 0]⟩),
 (22, ⟨.slice 25, 1, 24, [.slice none 0 0]⟩),
 (24, ⟨.struct [(0, 5), (1, 5), (2, 22)], 3, 32, [.int .u8 0, .int .u8 0, .slice none 0 0]⟩),
 (25, ⟨.int .i8, 1, 1, [.int .i8 0]⟩),
 (26, ⟨.array 3 25, 3, 3, [.int .i8 0, .int .i8 0, .int .i8 0]⟩),
 (27, ⟨.slice 95, 1, 24, [.slice none 0 0]⟩),
 (29, ⟨.struct [(0, 4), (1, 27)], 2, 32, [.bool false, .slice none 0 0]⟩),
 (31, ⟨.slice 35, 1, 24, [.slice none 0 0]⟩),
 (33, ⟨.struct [(0, 3), (1, 3), (2, 31)], 3, 40, [.int .i64 0, .int .i64 0, .slice none 0 0]⟩),
 (35, ⟨.slice 29, 1, 24, [.slice none 0 0]⟩),
 (39, ⟨.array 4 5, 4, 4, [.int .u8 0, .int .u8 0, .int .u8 0, .int .u8 0]⟩),
 (41, ⟨.struct [(0, 39), (4, 22), (5, 22), (6, 22)], 7, 80, [.int .u8 0, .int .u8 0, .int .u8 0, .int .u8 0, .slice none 0 0, .slice none 0 0, .slice none 0 0]⟩),
 (54, ⟨.slice 3, 1, 24, [.slice none 0 0]⟩),
 (60, ⟨.slice 29, 1, 24, [.slice none 0 0]⟩),
 (71, ⟨.slice 118, 1, 24, [.slice none 0 0]⟩),
 (72, ⟨.slice 113, 1, 24, [.slice none 0 0]⟩),
 (88, ⟨.struct [(0, 33), (3, 33), (6, 33)], 9, 120, [.int .i64 0, .int .i64 0, .slice none 0 0, .int .i64 0, .int .i64 0, .slice none 0 0, .int .i64 0, .int .i64 0, .slice none 0 0]⟩),
 (92, ⟨.slice 2, 1, 24, [.slice none 0 0]⟩),
 (93, ⟨.int .u64, 1, 8, [.int .u64 0]⟩),
 (95, ⟨.int .u32, 1, 4, [.int .u32 0]⟩),
 (99, ⟨.array 4 3, 4, 32, [.int .i64 0, .int .i64 0, .int .i64 0, .int .i64 0]⟩),
 (104, ⟨.other, 1, 8, [.nilFunc]⟩),
 (113, ⟨.struct [(0, 3), (1, 3), (2, 3), (3, 29)], 5, 56, [.int .i64 0, .int .i64 0, .int .i64 0, .bool false, .slice none 0 0]⟩),
 (118, ⟨.struct [(0, 5), (1, 5), (2, 5), (3, 25)], 4, 4, [.int .u8 0, .int .u8 0, .int .u8 0, .int .i8 0]⟩),
 (119, ⟨.other, 1, 8, [.nilFunc]⟩),
 (120, ⟨.array 4 119, 4, 32, [.nilFunc, .nilFunc, .nilFunc, .nilFunc]⟩),
 (131, ⟨.array 2 3, 2, 16, [.int .i64 0, .int .i64 0]⟩),
 (145, ⟨.struct [(0, 33), (3, 33), (6, 33)], 9, 120, [.int .i64 0, .int .i64 0, .slice none 0 0, .int .i64 0, .int .i64 0, .slice none 0 0, .int .i64 0, .int .i64 0, .slice none 0 0]⟩),
 (151, ⟨.slice 31, 1, 24, [.slice none 0 0]⟩)]
theorem hT : TOK prog tab := by
 show tab.all (fun x => tiB prog x.1 x.2) = true
 kernel_rfl
abbrev dI (n:Int) : D := .int .i64 n
abbrev dU (n:Int) : D := .int .u32 n
abbrev dB (b:Bool) : D := .bool b
abbrev dL (l : DL) : D := .sl l
abbrev sD (d : D) : S := .dat d
abbrev eD (d : D) : E := .sc (.dat d)
abbrev vA (l : List S) : V := .e (.agg l)
abbrev vD (d : D) : V := V.e (E.sc (S.dat d))
abbrev FnO (P:Program) (k:FuncId) (args : List V) (h:Heap) (r:V) (objs:Heap) : Prop := FnG P k args h (fun x y => x = r ∧ y = objs)
abbrev vP (o k:Nat) : V := V.e (E.sc (S.ptr o k))
abbrev vR (o:Nat) : V := V.e (E.sc (S.ref o))
abbrev o0 : In := (Or.none, 0, 0)
theorem hmix : prog.follows .mixedOrders = true := by kernel_rfl
end Go.AM
/- What functions of the program come to: group Int. Printed by vc.py. -/
set_option maxRecDepth 100000
set_option linter.unusedVariables false
namespace Go.AM
open Go.Proofs.Try
def vc163 (vx:Int) (R:V → Heap → Prop) : Prop :=
 R (vD (dB (vx != vx))) []
theorem vc163_ok (vx:Int) {R:V → Heap → Prop} (h : vc163 vx R) : FnG prog 163 [vD (dI vx)] [] R :=
 FnG.vcg hT func163 ntmps163 (.r0 [0] <| .r0 [2] <| .ret [])
   (by kernel_rfl) (by kernel_rfl) (by kernel_rfl) h
def vc164 (vx:Int) (R:V → Heap → Prop) : Prop :=
 R (vD (dB (vx != vx))) []
theorem vc164_ok (vx:Int) {R:V → Heap → Prop} (h : vc164 vx R) : FnG prog 164 [vD (dU vx)] [] R :=
 FnG.vcg hT func164 ntmps164 (.r0 [0] <| .r0 [2] <| .ret [])
   (by kernel_rfl) (by kernel_rfl) (by kernel_rfl) h
def vc156 (vx y:Int) (R:V → Heap → Prop) : Prop :=
 ∃ (r:Bool),
 (FnD prog 163 [vD (dI vx)] (vD (dB r)) []) ∧
 (∃ (r1:Bool),
 (FnD prog 163 [vD (dI y)] (vD (dB r1)) []) ∧
 ((r = true →
 (r1 = true →
 R (vD (dI (0:Int))) []) ∧
 (r1 = false →
 R (vD (dI (-1:Int))) [])) ∧
 (r = false →
 (r1 = true →
 R (vD (dI (1:Int))) []) ∧
 (r1 = false →
 (decide (vx < y) = true →
 R (vD (dI (-1:Int))) []) ∧
 (decide (vx < y) = false →
 (decide (vx > y) = true →
 R (vD (dI (1:Int))) []) ∧
 (decide (vx > y) = false →
 R (vD (dI (0:Int))) []))))))
theorem vc156_ok (vx y:Int) {R:V → Heap → Prop} (h : vc156 vx y R) : FnG prog 156 [vD (dI vx),vD (dI y)] [] R :=
 FnG.vcg hT func156 ntmps156 (.r0 [0,1] <| .exb fun r => .reg 0 [(1,Or.call (vD (dB r)) [] [],0,0)] [0,1,5] [] [] <| .exb fun r1 => .reg 0 [(1,Or.call (vD (dB r1)) [] [],0,0)] [0,1,5,6] [] [] <| .r0 [0,1,6,11] <| .c2 (.r0 [12] <| .c2 (.r0 [4] <| .ret []) (.r0 [4] <| .ret [])) (.r0 [0,1,13] <| .c2 (.r0 [4] <| .ret []) (.r0 [0,1,16] <| .c2 (.r0 [4] <| .ret []) (.r0 [19] <| .c2 (.r0 [4] <| .ret []) (.r0 [4] <| .ret [])))))
   (by kernel_rfl) (by kernel_rfl) (by kernel_rfl) h
def vc157 (vx y:Int) (R:V → Heap → Prop) : Prop :=
 ∃ (r:Bool),
 (FnD prog 164 [vD (dU vx)] (vD (dB r)) []) ∧
 (∃ (r1:Bool),
 (FnD prog 164 [vD (dU y)] (vD (dB r1)) []) ∧
 ((r = true →
 (r1 = true →
 R (vD (dI (0:Int))) []) ∧
 (r1 = false →
 R (vD (dI (-1:Int))) [])) ∧
 (r = false →
 (r1 = true →
 R (vD (dI (1:Int))) []) ∧
 (r1 = false →
 (decide (vx < y) = true →
 R (vD (dI (-1:Int))) []) ∧
 (decide (vx < y) = false →
 (decide (vx > y) = true →
 R (vD (dI (1:Int))) []) ∧
 (decide (vx > y) = false →
 R (vD (dI (0:Int))) []))))))
theorem vc157_ok (vx y:Int) {R:V → Heap → Prop} (h : vc157 vx y R) : FnG prog 157 [vD (dU vx),vD (dU y)] [] R :=
 FnG.vcg hT func157 ntmps157 (.r0 [0,1] <| .exb fun r => .reg 0 [(1,Or.call (vD (dB r)) [] [],0,0)] [0,1,5] [] [] <| .exb fun r1 => .reg 0 [(1,Or.call (vD (dB r1)) [] [],0,0)] [0,1,5,6] [] [] <| .r0 [0,1,6,11] <| .c2 (.r0 [12] <| .c2 (.r0 [4] <| .ret []) (.r0 [4] <| .ret [])) (.r0 [0,1,13] <| .c2 (.r0 [4] <| .ret []) (.r0 [0,1,16] <| .c2 (.r0 [4] <| .ret []) (.r0 [19] <| .c2 (.r0 [4] <| .ret []) (.r0 [4] <| .ret [])))))
   (by kernel_rfl) (by kernel_rfl) (by kernel_rfl) h
def vc155 (vx y carry:Int) (R:V → Heap → Prop) : Prop :=
 (0 ≤ (32:Int)) ∧
 (R (V.tup [eD (dU (IntKind.u32.wrap (IntKind.u64.wrap ((IntKind.u64.wrap ((IntKind.u64.wrap vx) + (IntKind.u64.wrap y))) + (IntKind.u64.wrap carry))))),eD (dU (IntKind.u32.wrap ((IntKind.u64.wrap ((IntKind.u64.wrap ((IntKind.u64.wrap vx) + (IntKind.u64.wrap y))) + (IntKind.u64.wrap carry))).fdiv (2 ^ (min (32:Int).toNat IntKind.u64.bits)))))]) [])
theorem vc155_ok (vx y carry:Int) {R:V → Heap → Prop} (h : vc155 vx y carry R) : FnG prog 155 [vD (dU vx),vD (dU y),vD (dU carry)] [] R :=
 FnG.vcg hT func155 ntmps155 (.r0 [0,1,2] <| .r0 [8] <| .r0 [6,8] <| .r0 [6,7] <| .ret [])
   (by kernel_rfl) (by kernel_rfl) (by kernel_rfl) h
def vc158 (vx y borrow:Int) (R:V → Heap → Prop) : Prop :=
 (0 ≤ (31:Int)) ∧
 (R (V.tup [eD (dU (IntKind.u32.wrap ((IntKind.u32.wrap (vx - y)) - borrow))),eD (dU ((bitsI .u32 (· ||| ·) (bitsI .u32 (· &&& ·) (bitsI .u32 (· ^^^ ·) (if IntKind.u32.signed then -1 else IntKind.u32.max) vx) y) (bitsI .u32 (· &&& ·) (bitsI .u32 (· ^^^ ·) (if IntKind.u32.signed then -1 else IntKind.u32.max) (bitsI .u32 (· ^^^ ·) vx y)) (IntKind.u32.wrap ((IntKind.u32.wrap (vx - y)) - borrow)))).fdiv (2 ^ (min (31:Int).toNat IntKind.u32.bits))))]) [])
theorem vc158_ok (vx y borrow:Int) {R:V → Heap → Prop} (h : vc158 vx y borrow R) : FnG prog 158 [vD (dU vx),vD (dU y),vD (dU borrow)] [] R :=
 FnG.vcg hT func158 ntmps158 (.r0 [0,1,2] <| .r0 [0,1,6] <| .r0 [6,7] <| .ret [])
   (by kernel_rfl) (by kernel_rfl) (by kernel_rfl) h
def vc144 (mag : DL) (neg:Bool) (R:V → Heap → Prop) : Prop :=
 ∃ (J0:Int → Prop) (μ0:Int → Nat),
 J0 (mag.length:Int) ∧ ∀ (n:Int),J0 n →
 (decide (n > (0:Int)) = true →
 ∃ (vx:Int),
 (0 ≤ (IntKind.i64.wrap (n - (1:Int))) ∧ (IntKind.i64.wrap (n - (1:Int))) < (mag.length:Int)) ∧
 (mag[((IntKind.i64.wrap (n - (1:Int)))).toNat]? = some [dU vx]) ∧
 (((vx != (0:Int)) = true →
 (neg = true →
 (0 ≤ n ∧ n ≤ n ∧ n ≤ (mag.length:Int)) ∧
 (R (vA [sD (dB (decide (n > (0:Int)))),sD (dL (mag.take (n).toNat))]) [])) ∧
 (neg = false →
 (0 ≤ n ∧ n ≤ n ∧ n ≤ (mag.length:Int)) ∧
 (R (vA [sD (dB false),sD (dL (mag.take (n).toNat))]) []))) ∧
 ((vx != (0:Int)) = false →
 J0 (IntKind.i64.wrap (n - (1:Int))) ∧ μ0 (IntKind.i64.wrap (n - (1:Int))) < μ0 n))) ∧
 (decide (n > (0:Int)) = false →
 (neg = true →
 (0 ≤ n ∧ n ≤ n ∧ n ≤ (mag.length:Int)) ∧
 (R (vA [sD (dB (decide (n > (0:Int)))),sD (dL (mag.take (n).toNat))]) [])) ∧
 (neg = false →
 (0 ≤ n ∧ n ≤ n ∧ n ≤ (mag.length:Int)) ∧
 (R (vA [sD (dB false),sD (dL (mag.take (n).toNat))]) [])))
theorem vc144_ok (mag : DL) (neg:Bool) {R:V → Heap → Prop} (h : vc144 mag neg R) : FnG prog 144 [vD (dL mag),vD (dB neg)] [] R :=
 FnG.vcg hT func144 ntmps144 (.reg 1 [(0,Or.none,0,1)] [0,1,4] [0] [] <| .r1 [0,1,4,5] [0] <| .lp [.i] (fun n => ⟨[(0,vD (dL mag)),(1,vD (dB neg)),(4,vP 0 0),(5,vD (dI n))],[some (Obj.box [sD (dB false),sD (D.raw (.slice none 0 0))])],28⟩) [.i (mag.length:Int)] <| .fi fun n => .beg <| .r1 [0,1,4,5,9] [0] <| .c2 (.ex fun vx => .reg 0 [(4,Or.cells [dU vx],0,0)] [0,1,4,5,15] [0] [] <| .c2 (.spl neg (.reg 0 [(1,Or.bool true,0,0)] [4] [0] [.old 0] <| .ret []) (.reg 0 [(1,Or.bool false,0,0)] [4] [0] [.old 0] <| .ret [])) (.r1 [0,1,4,5] [0] <| .bk 0 [.i (IntKind.i64.wrap (n - (1:Int)))])) (.spl neg (.reg 0 [(1,Or.bool true,0,0)] [4] [0] [.old 0] <| .ret []) (.reg 0 [(1,Or.bool false,0,0)] [4] [0] [.old 0] <| .ret [])))
   (by kernel_rfl) (by kernel_rfl) (by kernel_rfl) h
def vc145 (a b : DL) (R:V → Heap → Prop) : Prop :=
 (decide ((a.length:Int) < (b.length:Int)) = true →
 (0 ≤ (IntKind.i64.wrap ((b.length:Int) + (1:Int))) ∧ (IntKind.i64.wrap ((b.length:Int) + (1:Int))) ≤ (IntKind.i64.wrap ((b.length:Int) + (1:Int))) ∧ (IntKind.i64.wrap ((b.length:Int) + (1:Int))) * (4:Nat) ≤ 281474976710656) ∧
 ((∀ y ∈ b,y.length = 1) ∧
 (∃ (J0 : (DL) → Int → Int → Prop) (μ0 : (DL) → Int → Int → Nat),
 J0 (b.take (List.replicate ((IntKind.i64.wrap ((b.length:Int) + (1:Int)))).toNat [dU (0:Int)]).length ++ (List.replicate ((IntKind.i64.wrap ((b.length:Int) + (1:Int)))).toNat [dU (0:Int)]).drop b.length) (0:Int) (0:Int) ∧ ∀ (out : DL) (t25 carry:Int),J0 out t25 carry →
 (decide (t25 < (b.length:Int)) = true →
 (decide (t25 < (a.length:Int)) = true →
 ∃ (vx:Int),
 (0 ≤ t25 ∧ t25 < (a.length:Int)) ∧
 (a[(t25).toNat]? = some [dU vx]) ∧
 (∃ (vx1 r r1:Int),
 (0 ≤ t25 ∧ t25 < (b.length:Int)) ∧
 (b[(t25).toNat]? = some [dU vx1]) ∧
 (FnD prog 155 [vD (dU vx1),vD (dU vx),vD (dU carry)] (V.tup [eD (dU r),eD (dU r1)]) []) ∧
 (0 ≤ t25 ∧ t25 < (out.length:Int)) ∧
 (J0 (out.set (t25).toNat [dU r]) (IntKind.i64.wrap (t25 + (1:Int))) r1 ∧ μ0 (out.set (t25).toNat [dU r]) (IntKind.i64.wrap (t25 + (1:Int))) r1 < μ0 out t25 carry))) ∧
 (decide (t25 < (a.length:Int)) = false →
 ∃ (vx2 r2 r3:Int),
 (0 ≤ t25 ∧ t25 < (b.length:Int)) ∧
 (b[(t25).toNat]? = some [dU vx2]) ∧
 (FnD prog 155 [vD (dU vx2),vD (dU (0:Int)),vD (dU carry)] (V.tup [eD (dU r2),eD (dU r3)]) []) ∧
 (0 ≤ t25 ∧ t25 < (out.length:Int)) ∧
 (J0 (out.set (t25).toNat [dU r2]) (IntKind.i64.wrap (t25 + (1:Int))) r3 ∧ μ0 (out.set (t25).toNat [dU r2]) (IntKind.i64.wrap (t25 + (1:Int))) r3 < μ0 out t25 carry))) ∧
 (decide (t25 < (b.length:Int)) = false →
 (0 ≤ (b.length:Int) ∧ (b.length:Int) < (out.length:Int)) ∧
 (R (vD (dL (out.set ((b.length:Int)).toNat [dU carry]))) []))))) ∧
 (decide ((a.length:Int) < (b.length:Int)) = false →
 (0 ≤ (IntKind.i64.wrap ((a.length:Int) + (1:Int))) ∧ (IntKind.i64.wrap ((a.length:Int) + (1:Int))) ≤ (IntKind.i64.wrap ((a.length:Int) + (1:Int))) ∧ (IntKind.i64.wrap ((a.length:Int) + (1:Int))) * (4:Nat) ≤ 281474976710656) ∧
 ((∀ y ∈ a,y.length = 1) ∧
 (∃ (J1 : (DL) → Int → Int → Prop) (μ1 : (DL) → Int → Int → Nat),
 J1 (a.take (List.replicate ((IntKind.i64.wrap ((a.length:Int) + (1:Int)))).toNat [dU (0:Int)]).length ++ (List.replicate ((IntKind.i64.wrap ((a.length:Int) + (1:Int)))).toNat [dU (0:Int)]).drop a.length) (0:Int) (0:Int) ∧ ∀ (out1 : DL) (t251 carry1:Int),J1 out1 t251 carry1 →
 (decide (t251 < (a.length:Int)) = true →
 (decide (t251 < (b.length:Int)) = true →
 ∃ (vx3:Int),
 (0 ≤ t251 ∧ t251 < (b.length:Int)) ∧
 (b[(t251).toNat]? = some [dU vx3]) ∧
 (∃ (vx4 r4 r5:Int),
 (0 ≤ t251 ∧ t251 < (a.length:Int)) ∧
 (a[(t251).toNat]? = some [dU vx4]) ∧
 (FnD prog 155 [vD (dU vx4),vD (dU vx3),vD (dU carry1)] (V.tup [eD (dU r4),eD (dU r5)]) []) ∧
 (0 ≤ t251 ∧ t251 < (out1.length:Int)) ∧
 (J1 (out1.set (t251).toNat [dU r4]) (IntKind.i64.wrap (t251 + (1:Int))) r5 ∧ μ1 (out1.set (t251).toNat [dU r4]) (IntKind.i64.wrap (t251 + (1:Int))) r5 < μ1 out1 t251 carry1))) ∧
 (decide (t251 < (b.length:Int)) = false →
 ∃ (vx5 r6 r7:Int),
 (0 ≤ t251 ∧ t251 < (a.length:Int)) ∧
 (a[(t251).toNat]? = some [dU vx5]) ∧
 (FnD prog 155 [vD (dU vx5),vD (dU (0:Int)),vD (dU carry1)] (V.tup [eD (dU r6),eD (dU r7)]) []) ∧
 (0 ≤ t251 ∧ t251 < (out1.length:Int)) ∧
 (J1 (out1.set (t251).toNat [dU r6]) (IntKind.i64.wrap (t251 + (1:Int))) r7 ∧ μ1 (out1.set (t251).toNat [dU r6]) (IntKind.i64.wrap (t251 + (1:Int))) r7 < μ1 out1 t251 carry1))) ∧
 (decide (t251 < (a.length:Int)) = false →
 (0 ≤ (a.length:Int) ∧ (a.length:Int) < (out1.length:Int)) ∧
 (R (vD (dL (out1.set ((a.length:Int)).toNat [dU carry1]))) [])))))
theorem vc145_ok (a b : DL) {R:V → Heap → Prop} (h : vc145 a b R) : FnG prog 145 [vD (dL a),vD (dL b)] [] R :=
 FnG.vcg hT func145 ntmps145 (.r0 [0,1] <| .r0 [0,1,13] <| .c2 (.r0 [0,1] <| .reg 1 [(3,Or.none,0,1)] [0,1,5] [0] [] <| .r1 [0,1,5] [0] <| .r1 [0,1,5,6] [0] <| .r1 [0,1,5,6,24,25] [0] <| .lp [.l,.i,.i] (fun out t25 carry => ⟨[(0,vD (dL b)),(1,vD (dL a)),(5,vR 0),(6,vD (dU carry)),(24,vD (dI (b.length:Int))),(25,vD (dI t25))],[some (Obj.arr 1 out)],56⟩) [.l (b.take (List.replicate ((IntKind.i64.wrap ((b.length:Int) + (1:Int)))).toNat [dU (0:Int)]).length ++ (List.replicate ((IntKind.i64.wrap ((b.length:Int) + (1:Int)))).toNat [dU (0:Int)]).drop b.length),.i (0:Int),.i (0:Int)] <| .fl fun out => .fi fun t25 => .fi fun carry => .beg <| .r1 [0,1,5,6,24,25,26] [0] <| .c2 (.r1 [0,1,5,6,7,24,25] [0] <| .r1 [0,1,5,6,7,8,24,25] [0] <| .r1 [0,1,5,6,7,8,24,25,31] [0] <| .c2 (.ex fun vx => .reg 0 [(3,Or.cells [dU vx],0,0)] [0,1,5,6,7,8,24,25] [0] [] <| .ex fun vx1 => .ex fun r => .ex fun r1 => .reg 0 [(5,Or.cells [dU vx1],0,0),(8,Or.call (V.tup [eD (dU r),eD (dU r1)]) [] [],0,0)] [0,1,5,6,24,25] [0] [] <| .r1 [0,1,5,6,24,25] [0] <| .bk 0 [.l (out.set (t25).toNat [dU r]),.i (IntKind.i64.wrap (t25 + (1:Int))),.i r1]) (.ex fun vx2 => .ex fun r2 => .ex fun r3 => .reg 0 [(5,Or.cells [dU vx2],0,0),(8,Or.call (V.tup [eD (dU r2),eD (dU r3)]) [] [],0,0)] [0,1,5,6,24,25] [0] [] <| .r1 [0,1,5,6,24,25] [0] <| .bk 0 [.l (out.set (t25).toNat [dU r2]),.i (IntKind.i64.wrap (t25 + (1:Int))),.i r3])) (.r1 [5] [0] <| .r1 [4] [0] <| .frz [0] <| .ret [])) (.reg 1 [(3,Or.none,0,1)] [0,1,5] [0] [] <| .r1 [0,1,5] [0] <| .r1 [0,1,5,6] [0] <| .r1 [0,1,5,6,24,25] [0] <| .lp [.l,.i,.i] (fun out1 t251 carry1 => ⟨[(0,vD (dL a)),(1,vD (dL b)),(5,vR 0),(6,vD (dU carry1)),(24,vD (dI (a.length:Int))),(25,vD (dI t251))],[some (Obj.arr 1 out1)],56⟩) [.l (a.take (List.replicate ((IntKind.i64.wrap ((a.length:Int) + (1:Int)))).toNat [dU (0:Int)]).length ++ (List.replicate ((IntKind.i64.wrap ((a.length:Int) + (1:Int)))).toNat [dU (0:Int)]).drop a.length),.i (0:Int),.i (0:Int)] <| .fl fun out1 => .fi fun t251 => .fi fun carry1 => .beg <| .r1 [0,1,5,6,24,25,26] [0] <| .c2 (.r1 [0,1,5,6,7,24,25] [0] <| .r1 [0,1,5,6,7,8,24,25] [0] <| .r1 [0,1,5,6,7,8,24,25,31] [0] <| .c2 (.ex fun vx3 => .reg 0 [(3,Or.cells [dU vx3],0,0)] [0,1,5,6,7,8,24,25] [0] [] <| .ex fun vx4 => .ex fun r4 => .ex fun r5 => .reg 0 [(5,Or.cells [dU vx4],0,0),(8,Or.call (V.tup [eD (dU r4),eD (dU r5)]) [] [],0,0)] [0,1,5,6,24,25] [0] [] <| .r1 [0,1,5,6,24,25] [0] <| .bk 0 [.l (out1.set (t251).toNat [dU r4]),.i (IntKind.i64.wrap (t251 + (1:Int))),.i r5]) (.ex fun vx5 => .ex fun r6 => .ex fun r7 => .reg 0 [(5,Or.cells [dU vx5],0,0),(8,Or.call (V.tup [eD (dU r6),eD (dU r7)]) [] [],0,0)] [0,1,5,6,24,25] [0] [] <| .r1 [0,1,5,6,24,25] [0] <| .bk 0 [.l (out1.set (t251).toNat [dU r6]),.i (IntKind.i64.wrap (t251 + (1:Int))),.i r7])) (.r1 [5] [0] <| .r1 [4] [0] <| .frz [0] <| .ret [])))
   (by kernel_rfl) (by kernel_rfl) (by kernel_rfl) h
def vc146 (a b : DL) (R:V → Heap → Prop) : Prop :=
 ∃ (r:Int),
 (FnD prog 156 [vD (dI (a.length:Int)),vD (dI (b.length:Int))] (vD (dI r)) []) ∧
 (((r != (0:Int)) = true →
 R (vD (dI r)) []) ∧
 ((r != (0:Int)) = false →
 ∃ (J0:Int → Prop) (μ0:Int → Nat),
 J0 (IntKind.i64.wrap ((a.length:Int) - (1:Int))) ∧ ∀ (i:Int),J0 i →
 (decide (i ≥ (0:Int)) = true →
 ∃ (vx vx1 r1:Int),
 (0 ≤ i ∧ i < (a.length:Int)) ∧
 (a[(i).toNat]? = some [dU vx]) ∧
 (0 ≤ i ∧ i < (b.length:Int)) ∧
 (b[(i).toNat]? = some [dU vx1]) ∧
 (FnD prog 157 [vD (dU vx),vD (dU vx1)] (vD (dI r1)) []) ∧
 (((r1 != (0:Int)) = true →
 R (vD (dI r1)) []) ∧
 ((r1 != (0:Int)) = false →
 J0 (IntKind.i64.wrap (i - (1:Int))) ∧ μ0 (IntKind.i64.wrap (i - (1:Int))) < μ0 i))) ∧
 (decide (i ≥ (0:Int)) = false →
 R (vD (dI (0:Int))) [])))
theorem vc146_ok (a b : DL) {R:V → Heap → Prop} (h : vc146 a b R) : FnG prog 146 [vD (dL a),vD (dL b)] [] R :=
 FnG.vcg hT func146 ntmps146 (.r0 [0,1] <| .ex fun r => .reg 0 [(4,Or.call (vD (dI r)) [] [],0,0)] [0,1,5] [] [] <| .r0 [0,1,5,14] <| .c2 (.r0 [4] <| .ret []) (.r0 [0,1,6] <| .lp [.i] (fun i => ⟨[(0,vD (dL a)),(1,vD (dL b)),(6,vD (dI i))],[],35⟩) [.i (IntKind.i64.wrap ((a.length:Int) - (1:Int)))] <| .fi fun i => .beg <| .r0 [0,1,6,20] <| .c2 (.ex fun vx => .ex fun vx1 => .ex fun r1 => .drw 0 [(3,(Or.cells [dU vx],0,0),[]),(7,(Or.cells [dU vx1],0,0),[]),(8,(Or.call (vD (dI r1)) [] [],0,0),[])] [0,1,6,7] [] [] <| .r0 [0,1,6,7,33] <| .c2 (.r0 [4] <| .ret []) (.r0 [0,1,6] <| .bk 0 [.i (IntKind.i64.wrap (i - (1:Int)))])) (.r0 [4] <| .ret [])))
   (by kernel_rfl) (by kernel_rfl) (by kernel_rfl) h
def vc147 (a b : DL) (R:V → Heap → Prop) : Prop :=
 (0 ≤ (a.length:Int) ∧ (a.length:Int) ≤ (a.length:Int) ∧ (a.length:Int) * (4:Nat) ≤ 281474976710656) ∧
 (∃ (J0 : (DL) → Int → Int → Prop) (μ0 : (DL) → Int → Int → Nat),
 J0 (List.replicate ((a.length:Int)).toNat [dU (0:Int)]) (0:Int) (0:Int) ∧ ∀ (out : DL) (t14 borrow:Int),J0 out t14 borrow →
 (decide (t14 < (a.length:Int)) = true →
 (decide (t14 < (b.length:Int)) = true →
 ∃ (vx:Int),
 (0 ≤ t14 ∧ t14 < (b.length:Int)) ∧
 (b[(t14).toNat]? = some [dU vx]) ∧
 (∃ (vx1 r r1:Int),
 (0 ≤ t14 ∧ t14 < (a.length:Int)) ∧
 (a[(t14).toNat]? = some [dU vx1]) ∧
 (FnD prog 158 [vD (dU vx1),vD (dU vx),vD (dU borrow)] (V.tup [eD (dU r),eD (dU r1)]) []) ∧
 (0 ≤ t14 ∧ t14 < (out.length:Int)) ∧
 (J0 (out.set (t14).toNat [dU r]) (IntKind.i64.wrap (t14 + (1:Int))) r1 ∧ μ0 (out.set (t14).toNat [dU r]) (IntKind.i64.wrap (t14 + (1:Int))) r1 < μ0 out t14 borrow))) ∧
 (decide (t14 < (b.length:Int)) = false →
 ∃ (vx2 r2 r3:Int),
 (0 ≤ t14 ∧ t14 < (a.length:Int)) ∧
 (a[(t14).toNat]? = some [dU vx2]) ∧
 (FnD prog 158 [vD (dU vx2),vD (dU (0:Int)),vD (dU borrow)] (V.tup [eD (dU r2),eD (dU r3)]) []) ∧
 (0 ≤ t14 ∧ t14 < (out.length:Int)) ∧
 (J0 (out.set (t14).toNat [dU r2]) (IntKind.i64.wrap (t14 + (1:Int))) r3 ∧ μ0 (out.set (t14).toNat [dU r2]) (IntKind.i64.wrap (t14 + (1:Int))) r3 < μ0 out t14 borrow))) ∧
 (decide (t14 < (a.length:Int)) = false →
 R (vD (dL out)) []))
theorem vc147_ok (a b : DL) {R:V → Heap → Prop} (h : vc147 a b R) : FnG prog 147 [vD (dL a),vD (dL b)] [] R :=
 FnG.vcg hT func147 ntmps147 (.r0 [0,1] <| .reg 1 [(2,Or.none,0,1)] [0,1,5] [0] [] <| .r1 [0,1,5,6] [0] <| .r1 [0,1,5,6,13,14] [0] <| .lp [.l,.i,.i] (fun out t14 borrow => ⟨[(0,vD (dL a)),(1,vD (dL b)),(5,vR 0),(6,vD (dU borrow)),(13,vD (dI (a.length:Int))),(14,vD (dI t14))],[some (Obj.arr 1 out)],40⟩) [.l (List.replicate ((a.length:Int)).toNat [dU (0:Int)]),.i (0:Int),.i (0:Int)] <| .fl fun out => .fi fun t14 => .fi fun borrow => .beg <| .r1 [0,1,5,6,13,14,15] [0] <| .c2 (.r1 [0,1,5,6,7,13,14] [0] <| .r1 [0,1,5,6,7,8,13,14] [0] <| .r1 [0,1,5,6,7,8,13,14,20] [0] <| .c2 (.ex fun vx => .reg 0 [(3,Or.cells [dU vx],0,0)] [0,1,5,6,7,8,13,14] [0] [] <| .ex fun vx1 => .ex fun r => .ex fun r1 => .reg 0 [(5,Or.cells [dU vx1],0,0),(8,Or.call (V.tup [eD (dU r),eD (dU r1)]) [] [],0,0)] [0,1,5,6,13,14] [0] [] <| .r1 [0,1,5,6,13,14] [0] <| .bk 0 [.l (out.set (t14).toNat [dU r]),.i (IntKind.i64.wrap (t14 + (1:Int))),.i r1]) (.ex fun vx2 => .ex fun r2 => .ex fun r3 => .reg 0 [(5,Or.cells [dU vx2],0,0),(8,Or.call (V.tup [eD (dU r2),eD (dU r3)]) [] [],0,0)] [0,1,5,6,13,14] [0] [] <| .r1 [0,1,5,6,13,14] [0] <| .bk 0 [.l (out.set (t14).toNat [dU r2]),.i (IntKind.i64.wrap (t14 + (1:Int))),.i r3])) (.r1 [4] [0] <| .frz [0] <| .ret []))
   (by kernel_rfl) (by kernel_rfl) (by kernel_rfl) h
def vc148 (a0:Bool) (a1 : DL) (b0:Bool) (b1 : DL) (R:V → Heap → Prop) : Prop :=
 (a0 = true →
 ((!b0) = true →
 R (vD (dI (-1:Int))) []) ∧
 ((!b0) = false →
 (b0 = true →
 ((!a0) = true →
 R (vD (dI (1:Int))) []) ∧
 ((!a0) = false →
 ∃ (r:Int),
 (FnD prog 146 [vD (dL b1),vD (dL a1)] (vD (dI r)) []) ∧
 (R (vD (dI r)) []))) ∧
 (b0 = false →
 ∃ (r1:Int),
 (FnD prog 146 [vD (dL b1),vD (dL a1)] (vD (dI r1)) []) ∧
 (R (vD (dI r1)) [])))) ∧
 (a0 = false →
 (b0 = true →
 ((!a0) = true →
 R (vD (dI (1:Int))) []) ∧
 ((!a0) = false →
 ∃ (r2:Int),
 (FnD prog 146 [vD (dL a1),vD (dL b1)] (vD (dI r2)) []) ∧
 (R (vD (dI r2)) []))) ∧
 (b0 = false →
 ∃ (r3:Int),
 (FnD prog 146 [vD (dL a1),vD (dL b1)] (vD (dI r3)) []) ∧
 (R (vD (dI r3)) [])))
theorem vc148_ok (a0:Bool) (a1 : DL) (b0:Bool) (b1 : DL) {R:V → Heap → Prop} (h : vc148 a0 a1 b0 b1 R) : FnG prog 148 [vA [sD (dB a0),sD (dL a1)],vA [sD (dB b0),sD (dL b1)]] [] R :=
 FnG.vcg hT func148 ntmps148 (.reg 2 [(0,Or.none,0,1),(1,Or.none,1,1)] [2,3] [0,1] [] <| .spl a0 (.reg 0 [(2,Or.bool true,0,0)] [2,3,5] [0,1] [.old 0] <| .c2 (.r0 [4] <| .ret []) (.spl b0 (.reg 0 [(2,Or.bool true,0,0)] [2,3,13] [0,1] [.old 0] <| .c2 (.r0 [4] <| .ret []) (.r1 [2,3,21] [0,1] <| .ct true (some 3) <| .ex fun r => .reg 0 [(4,Or.call (vD (dI r)) [] [],0,0)] [4] [] [] <| .ret [])) (.reg 0 [(2,Or.bool false,0,0)] [2,3,13] [0,1] [.old 0] <| .ct false none <| .r1 [2,3,21] [0,1] <| .ct true (some 2) <| .ex fun r1 => .reg 0 [(4,Or.call (vD (dI r1)) [] [],0,0)] [4] [] [] <| .ret []))) (.reg 0 [(2,Or.bool false,0,0)] [2,3,5] [0,1] [.old 0] <| .ct false none <| .spl b0 (.reg 0 [(2,Or.bool true,0,0)] [2,3,13] [0,1] [.old 0] <| .c2 (.r0 [4] <| .ret []) (.r1 [2,3,21] [0,1] <| .ct false (some 2) <| .ex fun r2 => .reg 0 [(4,Or.call (vD (dI r2)) [] [],0,0)] [4] [] [] <| .ret [])) (.reg 0 [(2,Or.bool false,0,0)] [2,3,13] [0,1] [.old 0] <| .ct false none <| .r1 [2,3,21] [0,1] <| .ct false (some 1) <| .ex fun r3 => .reg 0 [(4,Or.call (vD (dI r3)) [] [],0,0)] [4] [] [] <| .ret [])))
   (by kernel_rfl) (by kernel_rfl) (by kernel_rfl) h
def vc91 (a0:Bool) (a1 : DL) (R:V → Heap → Prop) : Prop :=
 (((a1.length:Int) == (0:Int)) = true →
 R (vD (dI (0:Int))) []) ∧
 (((a1.length:Int) == (0:Int)) = false →
 (a0 = true →
 R (vD (dI (-1:Int))) []) ∧
 (a0 = false →
 R (vD (dI (1:Int))) []))
theorem vc91_ok (a0:Bool) (a1 : DL) {R:V → Heap → Prop} (h : vc91 a0 a1 R) : FnG prog 91 [vA [sD (dB a0),sD (dL a1)]] [] R :=
 FnG.vcg hT func91 ntmps91 (.reg 1 [(0,Or.none,0,1)] [1] [0] [] <| .r1 [1,3] [0] <| .c2 (.r0 [2] <| .ret []) (.r0 [8] <| .c2 (.r0 [2] <| .ret []) (.r0 [2] <| .ret [])))
   (by kernel_rfl) (by kernel_rfl) (by kernel_rfl) h
def vc100 (a0:Bool) (a1 : DL) (R:V → Heap → Prop) : Prop :=
 ((!a0) = true →
 R (vA [sD (dB (decide ((a1.length:Int) > (0:Int)))),sD (dL a1)]) []) ∧
 ((!a0) = false →
 R (vA [sD (dB false),sD (dL a1)]) [])
theorem vc100_ok (a0:Bool) (a1 : DL) {R:V → Heap → Prop} (h : vc100 a0 a1 R) : FnG prog 100 [vA [sD (dB a0),sD (dL a1)]] [] R :=
 FnG.vcg hT func100 ntmps100 (.reg 2 [(0,Or.none,0,1),(1,Or.none,1,1)] [1,2] [0,1] [] <| .spl ((!a0)) (.reg 0 [(3,Or.bool true,0,0)] [2] [1] [.old 0] <| .ret []) (.reg 0 [(3,Or.bool false,0,0)] [2] [1] [.old 0] <| .ret []))
   (by kernel_rfl) (by kernel_rfl) (by kernel_rfl) h
def vc106 (a0:Bool) (a1 : DL) (b0:Bool) (b1 : DL) (R:V → Heap → Prop) : Prop :=
 ((a0 == b0) = true →
 ∃ (r : DL) (r0:Bool) (r1 : DL),
 (FnD prog 145 [vD (dL a1),vD (dL b1)] (vD (dL r)) []) ∧
 (FnD prog 144 [vD (dL r),vD (dB a0)] (vA [sD (dB r0),sD (dL r1)]) []) ∧
 (R (vA [sD (dB r0),sD (dL r1)]) [])) ∧
 ((a0 == b0) = false →
 ∃ (r2:Int),
 (FnD prog 146 [vD (dL a1),vD (dL b1)] (vD (dI r2)) []) ∧
 ((decide (r2 < (0:Int)) = true →
 ∃ (r3 : DL) (r01:Bool) (r11 : DL),
 (FnD prog 147 [vD (dL b1),vD (dL a1)] (vD (dL r3)) []) ∧
 (FnD prog 144 [vD (dL r3),vD (dB b0)] (vA [sD (dB r01),sD (dL r11)]) []) ∧
 (R (vA [sD (dB r01),sD (dL r11)]) [])) ∧
 (decide (r2 < (0:Int)) = false →
 ∃ (r4 : DL) (r02:Bool) (r12 : DL),
 (FnD prog 147 [vD (dL a1),vD (dL b1)] (vD (dL r4)) []) ∧
 (FnD prog 144 [vD (dL r4),vD (dB a0)] (vA [sD (dB r02),sD (dL r12)]) []) ∧
 (R (vA [sD (dB r02),sD (dL r12)]) []))))
theorem vc106_ok (a0:Bool) (a1 : DL) (b0:Bool) (b1 : DL) {R:V → Heap → Prop} (h : vc106 a0 a1 b0 b1 R) : FnG prog 106 [vA [sD (dB a0),sD (dL a1)],vA [sD (dB b0),sD (dL b1)]] [] R :=
 FnG.vcg hT func106 ntmps106 (.reg 3 [(0,Or.none,0,1),(1,Or.none,1,1),(2,Or.none,2,1)] [2,3,4] [0,1,2] [] <| .r1 [2,3,4,5] [0,1,2] <| .c2 (.exl fun r => .exb fun r0 => .exl fun r1 => .drw 0 [(4,(Or.call (vD (dL r)) [] [],0,0),[]),(7,(Or.call (vA [sD (dB r0),sD (dL r1)]) [] [],0,0),[]),(8,(Or.none,0,0),[2])] [4] [2] [] <| .ret []) (.ex fun r2 => .reg 0 [(4,Or.call (vD (dI r2)) [] [],0,0)] [2,3,4,19] [0,1,2] [] <| .c2 (.exl fun r3 => .exb fun r01 => .exl fun r11 => .drw 0 [(4,(Or.call (vD (dL r3)) [] [],0,0),[]),(7,(Or.call (vA [sD (dB r01),sD (dL r11)]) [] [],0,0),[]),(8,(Or.none,0,0),[2])] [4] [2] [] <| .ret []) (.exl fun r4 => .exb fun r02 => .exl fun r12 => .drw 0 [(4,(Or.call (vD (dL r4)) [] [],0,0),[]),(7,(Or.call (vA [sD (dB r02),sD (dL r12)]) [] [],0,0),[]),(8,(Or.none,0,0),[2])] [4] [2] [] <| .ret [])))
   (by kernel_rfl) (by kernel_rfl) (by kernel_rfl) h
def vc108 (n:Int) (R:V → Heap → Prop) : Prop :=
 (decide (n < (0:Int)) = true →
 ∃ (r0:Bool) (r1 : DL),
 (0 ≤ (32:Int)) ∧
 (FnD prog 144 [vD (dL [[dU (IntKind.u32.wrap (IntKind.u64.wrap (0 - (IntKind.u64.wrap n))))],[dU (IntKind.u32.wrap ((IntKind.u64.wrap (0 - (IntKind.u64.wrap n))).fdiv (2 ^ (min (32:Int).toNat IntKind.u64.bits))))]]),vD (dB (decide (n < (0:Int))))] (vA [sD (dB r0),sD (dL r1)]) []) ∧
 (R (vA [sD (dB r0),sD (dL r1)]) [])) ∧
 (decide (n < (0:Int)) = false →
 ∃ (r01:Bool) (r11 : DL),
 (0 ≤ (32:Int)) ∧
 (FnD prog 144 [vD (dL [[dU (IntKind.u32.wrap (IntKind.u64.wrap n))],[dU (IntKind.u32.wrap ((IntKind.u64.wrap n).fdiv (2 ^ (min (32:Int).toNat IntKind.u64.bits))))]]),vD (dB (decide (n < (0:Int))))] (vA [sD (dB r01),sD (dL r11)]) []) ∧
 (R (vA [sD (dB r01),sD (dL r11)]) []))
theorem vc108_ok (n:Int) {R:V → Heap → Prop} (h : vc108 n R) : FnG prog 108 [vD (dI n)] [] R :=
 FnG.vcg hT func108 ntmps108 (.reg 1 [(0,Or.none,0,1)] [0,2] [0] [] <| .r1 [0,2,3] [0] <| .r1 [0,2,3,7] [0] <| .c2 (.r1 [0,2,3] [0] <| .exb fun r0 => .exl fun r1 => .reg 1 [(5,Or.frz,1,1),(8,Or.call (vA [sD (dB r0),sD (dL r1)]) [] [],0,0)] [2] [0] [] <| .ret []) (.exb fun r01 => .exl fun r11 => .reg 1 [(5,Or.frz,1,1),(8,Or.call (vA [sD (dB r01),sD (dL r11)]) [] [],0,0)] [2] [0] [] <| .ret []))
   (by kernel_rfl) (by kernel_rfl) (by kernel_rfl) h
def vc113 (a0:Bool) (a1 : DL) (b0:Bool) (b1 : DL) (R:V → Heap → Prop) : Prop :=
 (0 ≤ (IntKind.i64.wrap ((a1.length:Int) + (b1.length:Int))) ∧ (IntKind.i64.wrap ((a1.length:Int) + (b1.length:Int))) ≤ (IntKind.i64.wrap ((a1.length:Int) + (b1.length:Int))) ∧ (IntKind.i64.wrap ((a1.length:Int) + (b1.length:Int))) * (4:Nat) ≤ 281474976710656) ∧
 (∃ (J0 : (DL) → Int → Prop) (μ0 : (DL) → Int → Nat),
 J0 (List.replicate ((IntKind.i64.wrap ((a1.length:Int) + (b1.length:Int)))).toNat [dU (0:Int)]) (0:Int) ∧ ∀ (out : DL) (t22:Int),J0 out t22 →
 (decide (t22 < (a1.length:Int)) = true →
 ∃ (vx:Int),
 (0 ≤ t22 ∧ t22 < (a1.length:Int)) ∧
 (a1[(t22).toNat]? = some [dU vx]) ∧
 (∃ (J1 : (DL) → Int → Int → Prop) (μ1 : (DL) → Int → Int → Nat),
 J1 out (0:Int) (0:Int) ∧ ∀ (out1 : DL) (t30 carry:Int),J1 out1 t30 carry →
 (decide (t30 < (b1.length:Int)) = true →
 ∃ (vx1:Int),
 (0 ≤ t30 ∧ t30 < (b1.length:Int)) ∧
 (b1[(t30).toNat]? = some [dU vx1]) ∧
 (∃ (vx2:Int),
 (0 ≤ (IntKind.i64.wrap (t22 + t30)) ∧ (IntKind.i64.wrap (t22 + t30)) < (out1.length:Int)) ∧
 (out1[((IntKind.i64.wrap (t22 + t30))).toNat]? = some [dU vx2]) ∧
 ((0 ≤ (32:Int)) ∧
 (J1 (out1.set ((IntKind.i64.wrap (t22 + t30))).toNat [dU (IntKind.u32.wrap (IntKind.u64.wrap (carry + (IntKind.u64.wrap ((IntKind.u64.wrap ((IntKind.u64.wrap vx) * (IntKind.u64.wrap vx1))) + (IntKind.u64.wrap vx2))))))]) (IntKind.i64.wrap (t30 + (1:Int))) ((IntKind.u64.wrap (carry + (IntKind.u64.wrap ((IntKind.u64.wrap ((IntKind.u64.wrap vx) * (IntKind.u64.wrap vx1))) + (IntKind.u64.wrap vx2))))).fdiv (2 ^ (min (32:Int).toNat IntKind.u64.bits))) ∧ μ1 (out1.set ((IntKind.i64.wrap (t22 + t30))).toNat [dU (IntKind.u32.wrap (IntKind.u64.wrap (carry + (IntKind.u64.wrap ((IntKind.u64.wrap ((IntKind.u64.wrap vx) * (IntKind.u64.wrap vx1))) + (IntKind.u64.wrap vx2))))))]) (IntKind.i64.wrap (t30 + (1:Int))) ((IntKind.u64.wrap (carry + (IntKind.u64.wrap ((IntKind.u64.wrap ((IntKind.u64.wrap vx) * (IntKind.u64.wrap vx1))) + (IntKind.u64.wrap vx2))))).fdiv (2 ^ (min (32:Int).toNat IntKind.u64.bits))) < μ1 out1 t30 carry)))) ∧
 (decide (t30 < (b1.length:Int)) = false →
 (0 ≤ (IntKind.i64.wrap (t22 + (b1.length:Int))) ∧ (IntKind.i64.wrap (t22 + (b1.length:Int))) < (out1.length:Int)) ∧
 (J0 (out1.set ((IntKind.i64.wrap (t22 + (b1.length:Int)))).toNat [dU (IntKind.u32.wrap carry)]) (IntKind.i64.wrap (t22 + (1:Int))) ∧ μ0 (out1.set ((IntKind.i64.wrap (t22 + (b1.length:Int)))).toNat [dU (IntKind.u32.wrap carry)]) (IntKind.i64.wrap (t22 + (1:Int))) < μ0 out t22)))) ∧
 (decide (t22 < (a1.length:Int)) = false →
 ∃ (r0:Bool) (r1 : DL),
 (FnD prog 144 [vD (dL out),vD (dB (!(a0 == b0)))] (vA [sD (dB r0),sD (dL r1)]) []) ∧
 (R (vA [sD (dB r0),sD (dL r1)]) [])))
theorem vc113_ok (a0:Bool) (a1 : DL) (b0:Bool) (b1 : DL) {R:V → Heap → Prop} (h : vc113 a0 a1 b0 b1 R) : FnG prog 113 [vA [sD (dB a0),sD (dL a1)],vA [sD (dB b0),sD (dL b1)]] [] R :=
 FnG.vcg hT func113 ntmps113 (.reg 3 [(0,Or.none,0,1),(1,Or.none,1,1),(2,Or.none,2,1)] [2,3,4] [0,1,2] [] <| .reg 1 [(7,Or.none,3,1)] [2,3,4,5] [0,1,2,3] [] <| .r1 [2,3,4,5,20,21,22] [0,1,2,3] <| .lp [.l,.i] (fun out t22 => ⟨[(2,vP 0 0),(3,vP 1 0),(4,vP 2 0),(5,vR 3),(20,vD (dL a1)),(21,vD (dI (a1.length:Int))),(22,vD (dI t22))],[some (Obj.box [sD (dB a0),sD (dL a1)]),some (Obj.box [sD (dB b0),sD (dL b1)]),some (Obj.box [sD (dB false),sD (D.raw (.slice none 0 0))]),some (Obj.arr 1 out)],77⟩) [.l (List.replicate ((IntKind.i64.wrap ((a1.length:Int) + (b1.length:Int)))).toNat [dU (0:Int)]),.i (0:Int)] <| .fl fun out => .fi fun t22 => .beg <| .r1 [2,3,4,5,20,21,22,23] [0,1,2,3] <| .c2 (.ex fun vx => .reg 0 [(2,Or.cells [dU vx],0,0)] [2,3,4,5,6,7,20,21,22] [0,1,2,3] [] <| .r1 [2,3,4,5,6,7,8,20,21,22] [0,1,2,3] <| .r1 [2,3,4,5,6,7,8,20,21,22,28,29,30] [0,1,2,3] <| .lp [.l,.i,.i] (fun out1 t30 carry => ⟨[(2,vP 0 0),(3,vP 1 0),(4,vP 2 0),(5,vR 3),(6,vD (dI t22)),(7,vD (dU vx)),(8,vD (D.int .u64 carry)),(20,vD (dL a1)),(21,vD (dI (a1.length:Int))),(22,vD (dI t22)),(28,vD (dL b1)),(29,vD (dI (b1.length:Int))),(30,vD (dI t30))],[some (Obj.box [sD (dB a0),sD (dL a1)]),some (Obj.box [sD (dB b0),sD (dL b1)]),some (Obj.box [sD (dB false),sD (D.raw (.slice none 0 0))]),some (Obj.arr 1 out1)],77⟩) [.l out,.i (0:Int),.i (0:Int)] <| .fl fun out1 => .fi fun t30 => .fi fun carry => .beg <| .r1 [2,3,4,5,6,7,8,20,21,22,28,29,30,31] [0,1,2,3] <| .c2 (.ex fun vx1 => .reg 0 [(2,Or.cells [dU vx1],0,0)] [2,3,4,5,6,7,8,9,10,20,21,22,28,29,30] [0,1,2,3] [] <| .ex fun vx2 => .reg 0 [(11,Or.cells [dU vx2],0,0)] [2,3,4,5,6,7,8,9,20,21,22,28,29,30] [0,1,2,3] [] <| .reg 0 [] [2,3,4,5,6,7,8,20,21,22,28,29,30] [0,1,2,3] [.old 1] <| .r1 [2,3,4,5,6,7,8,20,21,22,28,29,30] [0,1,2,3] <| .r1 [2,3,4,5,6,7,8,20,21,22,28,29,30] [0,1,2,3] <| .bk 0 [.l (out1.set ((IntKind.i64.wrap (t22 + t30))).toNat [dU (IntKind.u32.wrap (IntKind.u64.wrap (carry + (IntKind.u64.wrap ((IntKind.u64.wrap ((IntKind.u64.wrap vx) * (IntKind.u64.wrap vx1))) + (IntKind.u64.wrap vx2))))))]),.i (IntKind.i64.wrap (t30 + (1:Int))),.i ((IntKind.u64.wrap (carry + (IntKind.u64.wrap ((IntKind.u64.wrap ((IntKind.u64.wrap vx) * (IntKind.u64.wrap vx1))) + (IntKind.u64.wrap vx2))))).fdiv (2 ^ (min (32:Int).toNat IntKind.u64.bits)))]) (.r1 [2,3,4,5,20,21,22] [0,1,2,3] <| .r1 [2,3,4,5,20,21,22] [0,1,2,3] <| .bk 1 [.l (out1.set ((IntKind.i64.wrap (t22 + (b1.length:Int)))).toNat [dU (IntKind.u32.wrap carry)]),.i (IntKind.i64.wrap (t22 + (1:Int)))])) (.frz [3] <| .exb fun r0 => .exl fun r1 => .reg 0 [(6,Or.call (vA [sD (dB r0),sD (dL r1)]) [] [],0,0)] [4] [2] [] <| .ret []))
   (by kernel_rfl) (by kernel_rfl) (by kernel_rfl) h
end Go.AM
/- What functions of the program come to: group Ref. Printed by vc.py. -/
set_option maxRecDepth 100000
set_option linter.unusedVariables false
namespace Go.AM
open Go.Proofs.Try
def vc71 (raw : DL) (neg:Bool) (R:V → Heap → Prop) : Prop :=
 ∃ (J0:Int → Prop) (μ0:Int → Nat),
 J0 (raw.length:Int) ∧ ∀ (n:Int),J0 n →
 (decide (n > (0:Int)) = true →
 ∃ (vx:Int),
 (0 ≤ (IntKind.i64.wrap (n - (1:Int))) ∧ (IntKind.i64.wrap (n - (1:Int))) < (raw.length:Int)) ∧
 (raw[((IntKind.i64.wrap (n - (1:Int)))).toNat]? = some [dU vx]) ∧
 (((vx == (0:Int)) = true →
 J0 (IntKind.i64.wrap (n - (1:Int))) ∧ μ0 (IntKind.i64.wrap (n - (1:Int))) < μ0 n) ∧
 ((vx == (0:Int)) = false →
 (neg = true →
 (0 ≤ n ∧ n ≤ (raw.length:Int)) ∧
 (∀ y ∈ (raw.take (n).toNat),y.length = 1) ∧
 ((([] : DL).length + ((raw.take (n).toNat) : DL).length) * 4 ≤ 140737488355328) ∧
 (R (vA [sD (dB (decide (n > (0:Int)))),sD (dL (([] : DL) ++ (raw.take (n).toNat)))]) [])) ∧
 (neg = false →
 (0 ≤ n ∧ n ≤ (raw.length:Int)) ∧
 (∀ y ∈ (raw.take (n).toNat),y.length = 1) ∧
 ((([] : DL).length + ((raw.take (n).toNat) : DL).length) * 4 ≤ 140737488355328) ∧
 (R (vA [sD (dB false),sD (dL (([] : DL) ++ (raw.take (n).toNat)))]) []))))) ∧
 (decide (n > (0:Int)) = false →
 (neg = true →
 (0 ≤ n ∧ n ≤ (raw.length:Int)) ∧
 (∀ y ∈ (raw.take (n).toNat),y.length = 1) ∧
 ((([] : DL).length + ((raw.take (n).toNat) : DL).length) * 4 ≤ 140737488355328) ∧
 (R (vA [sD (dB (decide (n > (0:Int)))),sD (dL (([] : DL) ++ (raw.take (n).toNat)))]) [])) ∧
 (neg = false →
 (0 ≤ n ∧ n ≤ (raw.length:Int)) ∧
 (∀ y ∈ (raw.take (n).toNat),y.length = 1) ∧
 ((([] : DL).length + ((raw.take (n).toNat) : DL).length) * 4 ≤ 140737488355328) ∧
 (R (vA [sD (dB false),sD (dL (([] : DL) ++ (raw.take (n).toNat)))]) [])))
theorem vc71_ok (raw : DL) (neg:Bool) {R:V → Heap → Prop} (h : vc71 raw neg R) : FnG prog 71 [vD (dL raw),vD (dB neg)] [] R :=
 FnG.vcg hT func71 ntmps71 (.reg 1 [(0,Or.none,0,1)] [0,1,4] [0] [] <| .r1 [0,1,4,5] [0] <| .lp [.i] (fun n => ⟨[(0,vD (dL raw)),(1,vD (dB neg)),(4,vP 0 0),(5,vD (dI n))],[some (Obj.box [sD (dB false),sD (D.raw (.slice none 0 0))])],31⟩) [.i (raw.length:Int)] <| .fi fun n => .beg <| .spl ((decide (n > (0:Int)))) (.ex fun vx => .reg 0 [(2,Or.bool true,0,0),(7,Or.cells [dU vx],0,0)] [0,1,4,5,17] [0] [.old 0] <| .c2 (.r1 [0,1,4,5] [0] <| .bk 0 [.i (IntKind.i64.wrap (n - (1:Int)))]) (.spl neg (.reg 2 [(1,Or.bool true,0,0),(5,Or.none,1,1),(9,Or.none,2,1)] [4] [0,2] [.old 0] <| .frz [1] <| .ret []) (.reg 2 [(1,Or.bool false,0,0),(5,Or.none,1,1),(9,Or.none,2,1)] [4] [0,2] [.old 0] <| .frz [1] <| .ret []))) (.reg 0 [(2,Or.bool false,0,0)] [0,1,4,5,17] [0] [.old 0] <| .ct false none <| .spl neg (.reg 2 [(1,Or.bool true,0,0),(5,Or.none,1,1),(9,Or.none,2,1)] [4] [0,2] [.old 0] <| .frz [1] <| .ret []) (.reg 2 [(1,Or.bool false,0,0),(5,Or.none,1,1),(9,Or.none,2,1)] [4] [0,2] [.old 0] <| .frz [1] <| .ret [])))
   (by kernel_rfl) (by kernel_rfl) (by kernel_rfl) h
def vc16 (n:Int) (R:V → Heap → Prop) : Prop :=
 (decide (n < (0:Int)) = true →
 ∃ (r0:Bool) (r1 : DL),
 (0 ≤ (32:Int)) ∧
 (FnD prog 71 [vD (dL [[dU (IntKind.u32.wrap (IntKind.u64.wrap (0 - (IntKind.u64.wrap n))))],[dU (IntKind.u32.wrap ((IntKind.u64.wrap (0 - (IntKind.u64.wrap n))).fdiv (2 ^ (min (32:Int).toNat IntKind.u64.bits))))]]),vD (dB (decide (n < (0:Int))))] (vA [sD (dB r0),sD (dL r1)]) []) ∧
 (R (vA [sD (dB r0),sD (dL r1)]) [])) ∧
 (decide (n < (0:Int)) = false →
 ∃ (r01:Bool) (r11 : DL),
 (0 ≤ (32:Int)) ∧
 (FnD prog 71 [vD (dL [[dU (IntKind.u32.wrap (IntKind.u64.wrap n))],[dU (IntKind.u32.wrap ((IntKind.u64.wrap n).fdiv (2 ^ (min (32:Int).toNat IntKind.u64.bits))))]]),vD (dB (decide (n < (0:Int))))] (vA [sD (dB r01),sD (dL r11)]) []) ∧
 (R (vA [sD (dB r01),sD (dL r11)]) []))
theorem vc16_ok (n:Int) {R:V → Heap → Prop} (h : vc16 n R) : FnG prog 16 [vD (dI n)] [] R :=
 FnG.vcg hT func16 ntmps16 (.reg 1 [(0,Or.none,0,1)] [0,2] [0] [] <| .r1 [0,2,3] [0] <| .r1 [0,2,3,7] [0] <| .c2 (.r1 [0,2,3] [0] <| .exb fun r0 => .exl fun r1 => .reg 1 [(5,Or.frz,1,1),(8,Or.call (vA [sD (dB r0),sD (dL r1)]) [] [],0,0)] [2] [0] [] <| .ret []) (.exb fun r01 => .exl fun r11 => .reg 1 [(5,Or.frz,1,1),(8,Or.call (vA [sD (dB r01),sD (dL r11)]) [] [],0,0)] [2] [0] [] <| .ret []))
   (by kernel_rfl) (by kernel_rfl) (by kernel_rfl) h
def vc88 (a b : DL) (R:V → Heap → Prop) : Prop :=
 (((a.length:Int) != (b.length:Int)) = true →
 R (vD (dB (decide ((a.length:Int) < (b.length:Int))))) []) ∧
 (((a.length:Int) != (b.length:Int)) = false →
 ∃ (J0:Int → Prop) (μ0:Int → Nat),
 J0 (IntKind.i64.wrap ((a.length:Int) - (1:Int))) ∧ ∀ (i:Int),J0 i →
 (decide (i ≥ (0:Int)) = true →
 ∃ (vx vx1:Int),
 (0 ≤ i ∧ i < (a.length:Int)) ∧
 (a[(i).toNat]? = some [dU vx]) ∧
 (0 ≤ i ∧ i < (b.length:Int)) ∧
 (b[(i).toNat]? = some [dU vx1]) ∧
 (((vx != vx1) = true →
 R (vD (dB (decide (vx < vx1)))) []) ∧
 ((vx != vx1) = false →
 J0 (IntKind.i64.wrap (i - (1:Int))) ∧ μ0 (IntKind.i64.wrap (i - (1:Int))) < μ0 i))) ∧
 (decide (i ≥ (0:Int)) = false →
 R (vD (dB false)) []))
theorem vc88_ok (a b : DL) {R:V → Heap → Prop} (h : vc88 a b R) : FnG prog 88 [vD (dL a),vD (dL b)] [] R :=
 FnG.vcg hT func88 ntmps88 (.r0 [0,1] <| .r0 [0,1,10] <| .c2 (.r0 [4] <| .ret []) (.r0 [0,1,5] <| .lp [.i] (fun i => ⟨[(0,vD (dL a)),(1,vD (dL b)),(5,vD (dI i))],[],41⟩) [.i (IntKind.i64.wrap ((a.length:Int) - (1:Int)))] <| .fi fun i => .beg <| .r0 [0,1,5,20] <| .c2 (.ex fun vx => .ex fun vx1 => .drw 0 [(3,(Or.cells [dU vx],0,0),[]),(7,(Or.cells [dU vx1],0,0),[])] [0,1,5,31] [] [] <| .c2 (.drw 0 [(3,(Or.cells [dU vx],0,0),[]),(7,(Or.cells [dU vx1],0,0),[])] [4] [] [.old 4,.old 3,.old 2,.old 1] <| .ret []) (.r0 [0,1,5] <| .bk 0 [.i (IntKind.i64.wrap (i - (1:Int)))])) (.r0 [4] <| .ret [])))
   (by kernel_rfl) (by kernel_rfl) (by kernel_rfl) h
def vc40 (a0:Bool) (a1 : DL) (b0:Bool) (b1 : DL) (R:V → Heap → Prop) : Prop :=
 ((a0 == b0) = true →
 ∃ (r:Bool),
 (FnD prog 88 [vD (dL a1),vD (dL b1)] (vD (dB r)) []) ∧
 (((!r) = true →
 ∃ (r1:Bool),
 (FnD prog 88 [vD (dL b1),vD (dL a1)] (vD (dB r1)) []) ∧
 (R (vD (dB (!r1))) [])) ∧
 ((!r) = false →
 R (vD (dB false)) []))) ∧
 ((a0 == b0) = false →
 R (vD (dB false)) [])
theorem vc40_ok (a0:Bool) (a1 : DL) (b0:Bool) (b1 : DL) {R:V → Heap → Prop} (h : vc40 a0 a1 b0 b1 R) : FnG prog 40 [vA [sD (dB a0),sD (dL a1)],vA [sD (dB b0),sD (dL b1)]] [] R :=
 FnG.vcg hT func40 ntmps40 (.reg 2 [(0,Or.none,0,1),(1,Or.none,1,1)] [2,3] [0,1] [] <| .spl ((a0 == b0)) (.exb fun r => .ob (FnD prog 88 [vD (dL a1),vD (dL b1)] (vD (dB r)) []) <| .spl ((!r)) (.exb fun r1 => .reg 0 [(5,Or.bool true,0,0),(10,Or.call (vD (dB r)) [] [],0,0),(13,Or.bool true,0,0),(18,Or.call (vD (dB r1)) [] [],0,0)] [4] [] [.old 2,.old 1,.old 0] <| .ret []) (.reg 0 [(5,Or.bool true,0,0),(10,Or.call (vD (dB r)) [] [],0,0),(13,Or.bool false,0,0)] [4] [] [.old 2,.old 1,.old 0] <| .ret [])) (.reg 0 [(5,Or.bool false,0,0)] [4] [] [.old 0] <| .ret []))
   (by kernel_rfl) (by kernel_rfl) (by kernel_rfl) h
def vc127 (a0:Bool) (a1 : DL) (R:V → Heap → Prop) : Prop :=
 (((a1.length:Int) == (0:Int)) = true →
 R (vD (dB (!a0))) []) ∧
 (((a1.length:Int) == (0:Int)) = false →
 ∃ (vx:Int),
 (0 ≤ (IntKind.i64.wrap ((a1.length:Int) - (1:Int))) ∧ (IntKind.i64.wrap ((a1.length:Int) - (1:Int))) < (a1.length:Int)) ∧
 (a1[((IntKind.i64.wrap ((a1.length:Int) - (1:Int)))).toNat]? = some [dU vx]) ∧
 (R (vD (dB (vx != (0:Int)))) []))
theorem vc127_ok (a0:Bool) (a1 : DL) {R:V → Heap → Prop} (h : vc127 a0 a1 R) : FnG prog 127 [vA [sD (dB a0),sD (dL a1)]] [] R :=
 FnG.vcg hT func127 ntmps127 (.reg 1 [(0,Or.none,0,1)] [1] [0] [] <| .r1 [1,6] [0] <| .c2 (.r0 [2] <| .ret []) (.ex fun vx => .reg 0 [(7,Or.cells [dU vx],0,0)] [2] [] [] <| .ret []))
   (by kernel_rfl) (by kernel_rfl) (by kernel_rfl) h
def vc92 (a0:Bool) (a1 : DL) (R:V → Heap → Prop) : Prop :=
 (((a1.length:Int) == (0:Int)) = true →
 R (vD (dI (0:Int))) []) ∧
 (((a1.length:Int) == (0:Int)) = false →
 (a0 = true →
 R (vD (dI (-1:Int))) []) ∧
 (a0 = false →
 R (vD (dI (1:Int))) []))
theorem vc92_ok (a0:Bool) (a1 : DL) {R:V → Heap → Prop} (h : vc92 a0 a1 R) : FnG prog 92 [vA [sD (dB a0),sD (dL a1)]] [] R :=
 FnG.vcg hT func92 ntmps92 (.reg 1 [(0,Or.none,0,1)] [1] [0] [] <| .r1 [1,6] [0] <| .c2 (.r0 [2] <| .ret []) (.r0 [8] <| .c2 (.r0 [2] <| .ret []) (.r0 [2] <| .ret [])))
   (by kernel_rfl) (by kernel_rfl) (by kernel_rfl) h
def vc104 (a0:Bool) (a1 : DL) (R:V → Heap → Prop) : Prop :=
 ∃ (r0:Bool) (r1 : DL),
 (FnD prog 71 [vD (dL a1),vD (dB (!a0))] (vA [sD (dB r0),sD (dL r1)]) []) ∧
 (R (vA [sD (dB r0),sD (dL r1)]) [])
theorem vc104_ok (a0:Bool) (a1 : DL) {R:V → Heap → Prop} (h : vc104 a0 a1 R) : FnG prog 104 [vA [sD (dB a0),sD (dL a1)]] [] R :=
 FnG.vcg hT func104 ntmps104 (.reg 2 [(0,Or.none,0,1),(1,Or.none,1,1)] [1,2] [0,1] [] <| .exb fun r0 => .exl fun r1 => .reg 0 [(5,Or.call (vA [sD (dB r0),sD (dL r1)]) [] [],0,0)] [2] [1] [] <| .ret [])
   (by kernel_rfl) (by kernel_rfl) (by kernel_rfl) h
def vc131 (a b : DL) (R:V → Heap → Prop) : Prop :=
 ∃ (J0 : (DL) → Int → Int → Prop) (μ0 : (DL) → Int → Int → Nat),
 J0 ([] : DL) (0:Int) (0:Int) ∧ ∀ (out : DL) (carry i:Int),J0 out carry i →
 (decide (i < (a.length:Int)) = true →
 ∃ (vx:Int),
 (0 ≤ i ∧ i < (a.length:Int)) ∧
 (a[(i).toNat]? = some [dU vx]) ∧
 ((decide (i < (b.length:Int)) = true →
 ∃ (vx1:Int),
 (0 ≤ i ∧ i < (b.length:Int)) ∧
 (b[(i).toNat]? = some [dU vx1]) ∧
 (((out.length + ([[dU (IntKind.u32.wrap (IntKind.u64.wrap ((IntKind.u64.wrap (carry + (IntKind.u64.wrap vx))) + (IntKind.u64.wrap vx1))))]] : DL).length) * 4 ≤ 140737488355328) ∧
 (((4294967296:Int) ≠ 0) ∧
 (J0 (out ++ [[dU (IntKind.u32.wrap (IntKind.u64.wrap ((IntKind.u64.wrap (carry + (IntKind.u64.wrap vx))) + (IntKind.u64.wrap vx1))))]]) (IntKind.u64.wrap ((IntKind.u64.wrap ((IntKind.u64.wrap (carry + (IntKind.u64.wrap vx))) + (IntKind.u64.wrap vx1))).tdiv (4294967296:Int))) (IntKind.i64.wrap (i + (1:Int))) ∧ μ0 (out ++ [[dU (IntKind.u32.wrap (IntKind.u64.wrap ((IntKind.u64.wrap (carry + (IntKind.u64.wrap vx))) + (IntKind.u64.wrap vx1))))]]) (IntKind.u64.wrap ((IntKind.u64.wrap ((IntKind.u64.wrap (carry + (IntKind.u64.wrap vx))) + (IntKind.u64.wrap vx1))).tdiv (4294967296:Int))) (IntKind.i64.wrap (i + (1:Int))) < μ0 out carry i)))) ∧
 (decide (i < (b.length:Int)) = false →
 ((out.length + ([[dU (IntKind.u32.wrap (IntKind.u64.wrap (carry + (IntKind.u64.wrap vx))))]] : DL).length) * 4 ≤ 140737488355328) ∧
 (((4294967296:Int) ≠ 0) ∧
 (J0 (out ++ [[dU (IntKind.u32.wrap (IntKind.u64.wrap (carry + (IntKind.u64.wrap vx))))]]) (IntKind.u64.wrap ((IntKind.u64.wrap (carry + (IntKind.u64.wrap vx))).tdiv (4294967296:Int))) (IntKind.i64.wrap (i + (1:Int))) ∧ μ0 (out ++ [[dU (IntKind.u32.wrap (IntKind.u64.wrap (carry + (IntKind.u64.wrap vx))))]]) (IntKind.u64.wrap ((IntKind.u64.wrap (carry + (IntKind.u64.wrap vx))).tdiv (4294967296:Int))) (IntKind.i64.wrap (i + (1:Int))) < μ0 out carry i))))) ∧
 (decide (i < (a.length:Int)) = false →
 (decide (i < (b.length:Int)) = true →
 ∃ (vx2:Int),
 (0 ≤ i ∧ i < (b.length:Int)) ∧
 (b[(i).toNat]? = some [dU vx2]) ∧
 (((out.length + ([[dU (IntKind.u32.wrap (IntKind.u64.wrap (carry + (IntKind.u64.wrap vx2))))]] : DL).length) * 4 ≤ 140737488355328) ∧
 (((4294967296:Int) ≠ 0) ∧
 (J0 (out ++ [[dU (IntKind.u32.wrap (IntKind.u64.wrap (carry + (IntKind.u64.wrap vx2))))]]) (IntKind.u64.wrap ((IntKind.u64.wrap (carry + (IntKind.u64.wrap vx2))).tdiv (4294967296:Int))) (IntKind.i64.wrap (i + (1:Int))) ∧ μ0 (out ++ [[dU (IntKind.u32.wrap (IntKind.u64.wrap (carry + (IntKind.u64.wrap vx2))))]]) (IntKind.u64.wrap ((IntKind.u64.wrap (carry + (IntKind.u64.wrap vx2))).tdiv (4294967296:Int))) (IntKind.i64.wrap (i + (1:Int))) < μ0 out carry i)))) ∧
 (decide (i < (b.length:Int)) = false →
 (decide (carry > (0:Int)) = true →
 ((out.length + ([[dU (IntKind.u32.wrap carry)]] : DL).length) * 4 ≤ 140737488355328) ∧
 (((4294967296:Int) ≠ 0) ∧
 (J0 (out ++ [[dU (IntKind.u32.wrap carry)]]) (IntKind.u64.wrap (carry.tdiv (4294967296:Int))) (IntKind.i64.wrap (i + (1:Int))) ∧ μ0 (out ++ [[dU (IntKind.u32.wrap carry)]]) (IntKind.u64.wrap (carry.tdiv (4294967296:Int))) (IntKind.i64.wrap (i + (1:Int))) < μ0 out carry i))) ∧
 (decide (carry > (0:Int)) = false →
 R (vD (dL out)) [])))
theorem vc131_ok (a b : DL) {R:V → Heap → Prop} (h : vc131 a b R) : FnG prog 131 [vD (dL a),vD (dL b)] [] R :=
 FnG.vcg hT func131 ntmps131 (.r0 [0,1] <| .reg 1 [(0,Or.none,0,1)] [0,1,5,6] [0] [] <| .r1 [0,1,5,6,7] [0] <| .lp [.l,.i,.i] (fun out carry i => ⟨[(0,vD (dL a)),(1,vD (dL b)),(5,vR 0),(6,vD (D.int .u64 carry)),(7,vD (dI i))],[some (Obj.arr 1 out)],55⟩) [.l ([] : DL),.i (0:Int),.i (0:Int)] <| .fl fun out => .fi fun carry => .fi fun i => .beg <| .spl ((decide (i < (a.length:Int)))) (.reg 0 [(4,Or.bool true,0,0)] [0,1,5,6,7,22] [0] [.old 0] <| .ct true none <| .r1 [0,1,5,6,7,28] [0] <| .ct true (some 0) <| .ex fun vx => .reg 0 [(4,Or.cells [dU vx],0,0)] [0,1,5,6,7] [0] [] <| .r1 [0,1,5,6,7,39] [0] <| .c2 (.ex fun vx1 => .reg 0 [(4,Or.cells [dU vx1],0,0)] [0,1,5,6,7] [0] [] <| .reg 2 [(3,Or.none,1,1),(4,Or.none,2,1)] [0,1,5,6,7] [2] [] <| .r1 [0,1,5,6,7] [0] <| .r1 [0,1,5,6,7] [0] <| .bk 0 [.l (out ++ [[dU (IntKind.u32.wrap (IntKind.u64.wrap ((IntKind.u64.wrap (carry + (IntKind.u64.wrap vx))) + (IntKind.u64.wrap vx1))))]]),.i (IntKind.u64.wrap ((IntKind.u64.wrap ((IntKind.u64.wrap (carry + (IntKind.u64.wrap vx))) + (IntKind.u64.wrap vx1))).tdiv (4294967296:Int))),.i (IntKind.i64.wrap (i + (1:Int)))]) (.reg 2 [(3,Or.none,1,1),(4,Or.none,2,1)] [0,1,5,6,7] [2] [] <| .r1 [0,1,5,6,7] [0] <| .r1 [0,1,5,6,7] [0] <| .bk 0 [.l (out ++ [[dU (IntKind.u32.wrap (IntKind.u64.wrap (carry + (IntKind.u64.wrap vx))))]]),.i (IntKind.u64.wrap ((IntKind.u64.wrap (carry + (IntKind.u64.wrap vx))).tdiv (4294967296:Int))),.i (IntKind.i64.wrap (i + (1:Int)))])) (.spl ((decide (i < (b.length:Int)))) (.reg 0 [(4,Or.bool false,0,0),(10,Or.bool true,0,0)] [0,1,5,6,7,22] [0] [.old 1,.old 0] <| .ct true none <| .r1 [0,1,5,6,7,28] [0] <| .ct false (some 1) <| .r1 [0,1,5,6,7,39] [0] <| .ct true (some 0) <| .ex fun vx2 => .reg 0 [(4,Or.cells [dU vx2],0,0)] [0,1,5,6,7] [0] [] <| .reg 2 [(3,Or.none,1,1),(4,Or.none,2,1)] [0,1,5,6,7] [2] [] <| .r1 [0,1,5,6,7] [0] <| .r1 [0,1,5,6,7] [0] <| .bk 0 [.l (out ++ [[dU (IntKind.u32.wrap (IntKind.u64.wrap (carry + (IntKind.u64.wrap vx2))))]]),.i (IntKind.u64.wrap ((IntKind.u64.wrap (carry + (IntKind.u64.wrap vx2))).tdiv (4294967296:Int))),.i (IntKind.i64.wrap (i + (1:Int)))]) (.reg 0 [(4,Or.bool false,0,0),(10,Or.bool false,0,0)] [0,1,5,6,7,22] [0] [.old 1,.old 0] <| .c2 (.r1 [0,1,5,6,7,28] [0] <| .ct false (some 2) <| .r1 [0,1,5,6,7,39] [0] <| .ct false (some 1) <| .reg 2 [(3,Or.none,1,1),(4,Or.none,2,1)] [0,1,5,6,7] [2] [] <| .r1 [0,1,5,6,7] [0] <| .r1 [0,1,5,6,7] [0] <| .bk 0 [.l (out ++ [[dU (IntKind.u32.wrap carry)]]),.i (IntKind.u64.wrap (carry.tdiv (4294967296:Int))),.i (IntKind.i64.wrap (i + (1:Int)))]) (.r1 [4] [0] <| .frz [0] <| .ret []))))
   (by kernel_rfl) (by kernel_rfl) (by kernel_rfl) h
def vc132 (a b : DL) (R:V → Heap → Prop) : Prop :=
 ∃ (J0 : (DL) → Int → Int → Prop) (μ0 : (DL) → Int → Int → Nat),
 J0 ([] : DL) (0:Int) (0:Int) ∧ ∀ (out : DL) (borrow i:Int),J0 out borrow i →
 (decide (i < (a.length:Int)) = true →
 ∃ (vx:Int),
 (0 ≤ i ∧ i < (a.length:Int)) ∧
 (a[(i).toNat]? = some [dU vx]) ∧
 ((decide (i < (b.length:Int)) = true →
 ∃ (vx1:Int),
 (0 ≤ i ∧ i < (b.length:Int)) ∧
 (b[(i).toNat]? = some [dU vx1]) ∧
 (((decide ((IntKind.i64.wrap ((IntKind.i64.wrap ((IntKind.i64.wrap vx) - borrow)) - (IntKind.i64.wrap vx1))) < (0:Int))) = true →
 ((out.length + ([[dU (IntKind.u32.wrap (IntKind.i64.wrap ((IntKind.i64.wrap ((IntKind.i64.wrap ((IntKind.i64.wrap vx) - borrow)) - (IntKind.i64.wrap vx1))) + (4294967296:Int))))]] : DL).length) * 4 ≤ 140737488355328) ∧
 (J0 (out ++ [[dU (IntKind.u32.wrap (IntKind.i64.wrap ((IntKind.i64.wrap ((IntKind.i64.wrap ((IntKind.i64.wrap vx) - borrow)) - (IntKind.i64.wrap vx1))) + (4294967296:Int))))]]) (1:Int) (IntKind.i64.wrap (i + (1:Int))) ∧ μ0 (out ++ [[dU (IntKind.u32.wrap (IntKind.i64.wrap ((IntKind.i64.wrap ((IntKind.i64.wrap ((IntKind.i64.wrap vx) - borrow)) - (IntKind.i64.wrap vx1))) + (4294967296:Int))))]]) (1:Int) (IntKind.i64.wrap (i + (1:Int))) < μ0 out borrow i)) ∧
 ((decide ((IntKind.i64.wrap ((IntKind.i64.wrap ((IntKind.i64.wrap vx) - borrow)) - (IntKind.i64.wrap vx1))) < (0:Int))) = false →
 ((out.length + ([[dU (IntKind.u32.wrap (IntKind.i64.wrap ((IntKind.i64.wrap ((IntKind.i64.wrap vx) - borrow)) - (IntKind.i64.wrap vx1))))]] : DL).length) * 4 ≤ 140737488355328) ∧
 (J0 (out ++ [[dU (IntKind.u32.wrap (IntKind.i64.wrap ((IntKind.i64.wrap ((IntKind.i64.wrap vx) - borrow)) - (IntKind.i64.wrap vx1))))]]) (0:Int) (IntKind.i64.wrap (i + (1:Int))) ∧ μ0 (out ++ [[dU (IntKind.u32.wrap (IntKind.i64.wrap ((IntKind.i64.wrap ((IntKind.i64.wrap vx) - borrow)) - (IntKind.i64.wrap vx1))))]]) (0:Int) (IntKind.i64.wrap (i + (1:Int))) < μ0 out borrow i)))) ∧
 (decide (i < (b.length:Int)) = false →
 ((decide ((IntKind.i64.wrap ((IntKind.i64.wrap vx) - borrow)) < (0:Int))) = true →
 ((out.length + ([[dU (IntKind.u32.wrap (IntKind.i64.wrap ((IntKind.i64.wrap ((IntKind.i64.wrap vx) - borrow)) + (4294967296:Int))))]] : DL).length) * 4 ≤ 140737488355328) ∧
 (J0 (out ++ [[dU (IntKind.u32.wrap (IntKind.i64.wrap ((IntKind.i64.wrap ((IntKind.i64.wrap vx) - borrow)) + (4294967296:Int))))]]) (1:Int) (IntKind.i64.wrap (i + (1:Int))) ∧ μ0 (out ++ [[dU (IntKind.u32.wrap (IntKind.i64.wrap ((IntKind.i64.wrap ((IntKind.i64.wrap vx) - borrow)) + (4294967296:Int))))]]) (1:Int) (IntKind.i64.wrap (i + (1:Int))) < μ0 out borrow i)) ∧
 ((decide ((IntKind.i64.wrap ((IntKind.i64.wrap vx) - borrow)) < (0:Int))) = false →
 ((out.length + ([[dU (IntKind.u32.wrap (IntKind.i64.wrap ((IntKind.i64.wrap vx) - borrow)))]] : DL).length) * 4 ≤ 140737488355328) ∧
 (J0 (out ++ [[dU (IntKind.u32.wrap (IntKind.i64.wrap ((IntKind.i64.wrap vx) - borrow)))]]) (0:Int) (IntKind.i64.wrap (i + (1:Int))) ∧ μ0 (out ++ [[dU (IntKind.u32.wrap (IntKind.i64.wrap ((IntKind.i64.wrap vx) - borrow)))]]) (0:Int) (IntKind.i64.wrap (i + (1:Int))) < μ0 out borrow i))))) ∧
 (decide (i < (a.length:Int)) = false →
 R (vD (dL out)) [])
theorem vc132_ok (a b : DL) {R:V → Heap → Prop} (h : vc132 a b R) : FnG prog 132 [vD (dL a),vD (dL b)] [] R :=
 FnG.vcg hT func132 ntmps132 (.r0 [0,1] <| .reg 1 [(0,Or.none,0,1)] [0,1,5,6] [0] [] <| .r1 [0,1,5,6,7] [0] <| .lp [.l,.i,.i] (fun out borrow i => ⟨[(0,vD (dL a)),(1,vD (dL b)),(5,vR 0),(6,vD (dI borrow)),(7,vD (dI i))],[some (Obj.arr 1 out)],44⟩) [.l ([] : DL),.i (0:Int),.i (0:Int)] <| .fl fun out => .fi fun borrow => .fi fun i => .beg <| .r1 [0,1,5,6,7,13] [0] <| .c2 (.ex fun vx => .reg 0 [(3,Or.cells [dU vx],0,0)] [0,1,5,7,8] [0] [] <| .r1 [0,1,5,7,8,26] [0] <| .c2 (.ex fun vx1 => .reg 0 [(4,Or.cells [dU vx1],0,0)] [0,1,5,7,8] [0] [] <| .r1 [0,1,5,6,7,8] [0] <| .r1 [0,1,5,6,7,8,35] [0] <| .c2 (.r1 [0,1,5,7,8] [0] <| .r1 [0,1,5,6,7,8] [0] <| .reg 2 [(3,Or.none,1,1),(4,Or.none,2,1)] [0,1,5,6,7] [2] [] <| .r1 [0,1,5,6,7] [0] <| .bk 0 [.l (out ++ [[dU (IntKind.u32.wrap (IntKind.i64.wrap ((IntKind.i64.wrap ((IntKind.i64.wrap ((IntKind.i64.wrap vx) - borrow)) - (IntKind.i64.wrap vx1))) + (4294967296:Int))))]]),.i (1:Int),.i (IntKind.i64.wrap (i + (1:Int)))]) (.reg 2 [(3,Or.none,1,1),(4,Or.none,2,1)] [0,1,5,6,7] [2] [] <| .r1 [0,1,5,6,7] [0] <| .bk 0 [.l (out ++ [[dU (IntKind.u32.wrap (IntKind.i64.wrap ((IntKind.i64.wrap ((IntKind.i64.wrap vx) - borrow)) - (IntKind.i64.wrap vx1))))]]),.i (0:Int),.i (IntKind.i64.wrap (i + (1:Int)))])) (.r1 [0,1,5,6,7,8] [0] <| .r1 [0,1,5,6,7,8,35] [0] <| .c2 (.r1 [0,1,5,7,8] [0] <| .r1 [0,1,5,6,7,8] [0] <| .reg 2 [(3,Or.none,1,1),(4,Or.none,2,1)] [0,1,5,6,7] [2] [] <| .r1 [0,1,5,6,7] [0] <| .bk 0 [.l (out ++ [[dU (IntKind.u32.wrap (IntKind.i64.wrap ((IntKind.i64.wrap ((IntKind.i64.wrap vx) - borrow)) + (4294967296:Int))))]]),.i (1:Int),.i (IntKind.i64.wrap (i + (1:Int)))]) (.reg 2 [(3,Or.none,1,1),(4,Or.none,2,1)] [0,1,5,6,7] [2] [] <| .r1 [0,1,5,6,7] [0] <| .bk 0 [.l (out ++ [[dU (IntKind.u32.wrap (IntKind.i64.wrap ((IntKind.i64.wrap vx) - borrow)))]]),.i (0:Int),.i (IntKind.i64.wrap (i + (1:Int)))]))) (.r1 [4] [0] <| .frz [0] <| .ret []))
   (by kernel_rfl) (by kernel_rfl) (by kernel_rfl) h
def vc82 (a0:Bool) (a1 : DL) (b0:Bool) (b1 : DL) (R:V → Heap → Prop) : Prop :=
 ((a0 == b0) = true →
 ∃ (r : DL) (r0:Bool) (r1 : DL),
 (FnD prog 131 [vD (dL a1),vD (dL b1)] (vD (dL r)) []) ∧
 (FnD prog 71 [vD (dL r),vD (dB a0)] (vA [sD (dB r0),sD (dL r1)]) []) ∧
 (R (vA [sD (dB r0),sD (dL r1)]) [])) ∧
 ((a0 == b0) = false →
 ∃ (r2:Bool),
 (FnD prog 88 [vD (dL a1),vD (dL b1)] (vD (dB r2)) []) ∧
 ((r2 = true →
 ∃ (r3 : DL) (r01:Bool) (r11 : DL),
 (FnD prog 132 [vD (dL b1),vD (dL a1)] (vD (dL r3)) []) ∧
 (FnD prog 71 [vD (dL r3),vD (dB b0)] (vA [sD (dB r01),sD (dL r11)]) []) ∧
 (R (vA [sD (dB r01),sD (dL r11)]) [])) ∧
 (r2 = false →
 ∃ (r4 : DL) (r02:Bool) (r12 : DL),
 (FnD prog 132 [vD (dL a1),vD (dL b1)] (vD (dL r4)) []) ∧
 (FnD prog 71 [vD (dL r4),vD (dB a0)] (vA [sD (dB r02),sD (dL r12)]) []) ∧
 (R (vA [sD (dB r02),sD (dL r12)]) []))))
theorem vc82_ok (a0:Bool) (a1 : DL) (b0:Bool) (b1 : DL) {R:V → Heap → Prop} (h : vc82 a0 a1 b0 b1 R) : FnG prog 82 [vA [sD (dB a0),sD (dL a1)],vA [sD (dB b0),sD (dL b1)]] [] R :=
 FnG.vcg hT func82 ntmps82 (.reg 3 [(0,Or.none,0,1),(1,Or.none,1,1),(2,Or.none,2,1)] [2,3,4] [0,1,2] [] <| .r1 [2,3,4,9] [0,1,2] <| .c2 (.exl fun r => .exb fun r0 => .exl fun r1 => .drw 0 [(4,(Or.call (vD (dL r)) [] [],0,0),[]),(7,(Or.call (vA [sD (dB r0),sD (dL r1)]) [] [],0,0),[]),(8,(Or.none,0,0),[2])] [4] [2] [] <| .ret []) (.exb fun r2 => .reg 0 [(4,Or.call (vD (dB r2)) [] [],0,0)] [2,3,4,22] [0,1,2] [] <| .c2 (.exl fun r3 => .exb fun r01 => .exl fun r11 => .drw 0 [(4,(Or.call (vD (dL r3)) [] [],0,0),[]),(7,(Or.call (vA [sD (dB r01),sD (dL r11)]) [] [],0,0),[]),(8,(Or.none,0,0),[2])] [4] [2] [] <| .ret []) (.exl fun r4 => .exb fun r02 => .exl fun r12 => .drw 0 [(4,(Or.call (vD (dL r4)) [] [],0,0),[]),(7,(Or.call (vA [sD (dB r02),sD (dL r12)]) [] [],0,0),[]),(8,(Or.none,0,0),[2])] [4] [2] [] <| .ret [])))
   (by kernel_rfl) (by kernel_rfl) (by kernel_rfl) h
def vc110 (a0:Bool) (a1 : DL) (b0:Bool) (b1 : DL) (R:V → Heap → Prop) : Prop :=
 (0 ≤ (IntKind.i64.wrap ((IntKind.i64.wrap ((a1.length:Int) + (b1.length:Int))) + (1:Int))) ∧ (IntKind.i64.wrap ((IntKind.i64.wrap ((a1.length:Int) + (b1.length:Int))) + (1:Int))) ≤ (IntKind.i64.wrap ((IntKind.i64.wrap ((a1.length:Int) + (b1.length:Int))) + (1:Int))) ∧ (IntKind.i64.wrap ((IntKind.i64.wrap ((a1.length:Int) + (b1.length:Int))) + (1:Int))) * (4:Nat) ≤ 281474976710656) ∧
 (∃ (J0 : (DL) → Int → Prop) (μ0 : (DL) → Int → Nat),
 J0 (List.replicate ((IntKind.i64.wrap ((IntKind.i64.wrap ((a1.length:Int) + (b1.length:Int))) + (1:Int)))).toNat [dU (0:Int)]) (0:Int) ∧ ∀ (out : DL) (i:Int),J0 out i →
 (decide (i < (a1.length:Int)) = true →
 ∃ (J1 : (DL) → Int → Int → Prop) (μ1 : (DL) → Int → Int → Nat),
 J1 out (0:Int) (0:Int) ∧ ∀ (out1 : DL) (carry k:Int),J1 out1 carry k →
 (decide (k < (b1.length:Int)) = true →
 ∃ (vx:Int),
 (0 ≤ (IntKind.i64.wrap (i + k)) ∧ (IntKind.i64.wrap (i + k)) < (out1.length:Int)) ∧
 (out1[((IntKind.i64.wrap (i + k))).toNat]? = some [dU vx]) ∧
 (∃ (vx1 vx2:Int),
 (0 ≤ i ∧ i < (a1.length:Int)) ∧
 (a1[(i).toNat]? = some [dU vx1]) ∧
 (0 ≤ k ∧ k < (b1.length:Int)) ∧
 (b1[(k).toNat]? = some [dU vx2]) ∧
 (((4294967296:Int) ≠ 0) ∧
 (J1 (out1.set ((IntKind.i64.wrap (i + k))).toNat [dU (IntKind.u32.wrap (IntKind.u64.wrap ((IntKind.u64.wrap (carry + (IntKind.u64.wrap vx))) + (IntKind.u64.wrap ((IntKind.u64.wrap vx1) * (IntKind.u64.wrap vx2))))))]) (IntKind.u64.wrap ((IntKind.u64.wrap ((IntKind.u64.wrap (carry + (IntKind.u64.wrap vx))) + (IntKind.u64.wrap ((IntKind.u64.wrap vx1) * (IntKind.u64.wrap vx2))))).tdiv (4294967296:Int))) (IntKind.i64.wrap (k + (1:Int))) ∧ μ1 (out1.set ((IntKind.i64.wrap (i + k))).toNat [dU (IntKind.u32.wrap (IntKind.u64.wrap ((IntKind.u64.wrap (carry + (IntKind.u64.wrap vx))) + (IntKind.u64.wrap ((IntKind.u64.wrap vx1) * (IntKind.u64.wrap vx2))))))]) (IntKind.u64.wrap ((IntKind.u64.wrap ((IntKind.u64.wrap (carry + (IntKind.u64.wrap vx))) + (IntKind.u64.wrap ((IntKind.u64.wrap vx1) * (IntKind.u64.wrap vx2))))).tdiv (4294967296:Int))) (IntKind.i64.wrap (k + (1:Int))) < μ1 out1 carry k)))) ∧
 (decide (k < (b1.length:Int)) = false →
 (decide (carry > (0:Int)) = true →
 ∃ (vx3:Int),
 (0 ≤ (IntKind.i64.wrap (i + k)) ∧ (IntKind.i64.wrap (i + k)) < (out1.length:Int)) ∧
 (out1[((IntKind.i64.wrap (i + k))).toNat]? = some [dU vx3]) ∧
 (((4294967296:Int) ≠ 0) ∧
 (J1 (out1.set ((IntKind.i64.wrap (i + k))).toNat [dU (IntKind.u32.wrap (IntKind.u64.wrap (carry + (IntKind.u64.wrap vx3))))]) (IntKind.u64.wrap ((IntKind.u64.wrap (carry + (IntKind.u64.wrap vx3))).tdiv (4294967296:Int))) (IntKind.i64.wrap (k + (1:Int))) ∧ μ1 (out1.set ((IntKind.i64.wrap (i + k))).toNat [dU (IntKind.u32.wrap (IntKind.u64.wrap (carry + (IntKind.u64.wrap vx3))))]) (IntKind.u64.wrap ((IntKind.u64.wrap (carry + (IntKind.u64.wrap vx3))).tdiv (4294967296:Int))) (IntKind.i64.wrap (k + (1:Int))) < μ1 out1 carry k))) ∧
 (decide (carry > (0:Int)) = false →
 J0 out1 (IntKind.i64.wrap (i + (1:Int))) ∧ μ0 out1 (IntKind.i64.wrap (i + (1:Int))) < μ0 out i))) ∧
 (decide (i < (a1.length:Int)) = false →
 ∃ (r0:Bool) (r1 : DL),
 (FnD prog 71 [vD (dL out),vD (dB (!(a0 == b0)))] (vA [sD (dB r0),sD (dL r1)]) []) ∧
 (R (vA [sD (dB r0),sD (dL r1)]) [])))
theorem vc110_ok (a0:Bool) (a1 : DL) (b0:Bool) (b1 : DL) {R:V → Heap → Prop} (h : vc110 a0 a1 b0 b1 R) : FnG prog 110 [vA [sD (dB a0),sD (dL a1)],vA [sD (dB b0),sD (dL b1)]] [] R :=
 FnG.vcg hT func110 ntmps110 (.reg 3 [(0,Or.none,0,1),(1,Or.none,1,1),(2,Or.none,2,1)] [2,3,4] [0,1,2] [] <| .reg 1 [(8,Or.none,3,1)] [2,3,4,5] [0,1,2,3] [] <| .r1 [2,3,4,5,6] [0,1,2,3] <| .lp [.l,.i] (fun out i => ⟨[(2,vP 0 0),(3,vP 1 0),(4,vP 2 0),(5,vR 3),(6,vD (dI i))],[some (Obj.box [sD (dB a0),sD (dL a1)]),some (Obj.box [sD (dB b0),sD (dL b1)]),some (Obj.box [sD (dB false),sD (D.raw (.slice none 0 0))]),some (Obj.arr 1 out)],81⟩) [.l (List.replicate ((IntKind.i64.wrap ((IntKind.i64.wrap ((a1.length:Int) + (b1.length:Int))) + (1:Int)))).toNat [dU (0:Int)]),.i (0:Int)] <| .fl fun out => .fi fun i => .beg <| .r1 [2,3,4,5,6,22] [0,1,2,3] <| .c2 (.r1 [2,3,4,5,6,7] [0,1,2,3] <| .r1 [2,3,4,5,6,7,8] [0,1,2,3] <| .lp [.l,.i,.i] (fun out1 carry k => ⟨[(2,vP 0 0),(3,vP 1 0),(4,vP 2 0),(5,vR 3),(6,vD (dI i)),(7,vD (D.int .u64 carry)),(8,vD (dI k))],[some (Obj.box [sD (dB a0),sD (dL a1)]),some (Obj.box [sD (dB b0),sD (dL b1)]),some (Obj.box [sD (dB false),sD (D.raw (.slice none 0 0))]),some (Obj.arr 1 out1)],81⟩) [.l out,.i (0:Int),.i (0:Int)] <| .fl fun out1 => .fi fun carry => .fi fun k => .beg <| .spl ((decide (k < (b1.length:Int)))) (.reg 0 [(5,Or.bool true,0,0)] [2,3,4,5,6,7,8,33] [0,1,2,3] [.old 0] <| .ct true none <| .ex fun vx => .reg 0 [(6,Or.cells [dU vx],0,0)] [2,3,4,5,6,7,8] [0,1,2,3] [] <| .r1 [2,3,4,5,6,7,8,49] [0,1,2,3] <| .ct true (some 2) <| .ex fun vx1 => .ex fun vx2 => .drw 0 [(5,(Or.cells [dU vx1],0,0),[]),(11,(Or.cells [dU vx2],0,0),[])] [2,3,4,5,6,7,8] [0,1,2,3] [] <| .reg 0 [] [2,3,4,5,6,7,8] [0,1,2,3] [.old 5] <| .r1 [2,3,4,5,6,7,8] [0,1,2,3] <| .r1 [2,3,4,5,6,7,8] [0,1,2,3] <| .bk 0 [.l (out1.set ((IntKind.i64.wrap (i + k))).toNat [dU (IntKind.u32.wrap (IntKind.u64.wrap ((IntKind.u64.wrap (carry + (IntKind.u64.wrap vx))) + (IntKind.u64.wrap ((IntKind.u64.wrap vx1) * (IntKind.u64.wrap vx2))))))]),.i (IntKind.u64.wrap ((IntKind.u64.wrap ((IntKind.u64.wrap (carry + (IntKind.u64.wrap vx))) + (IntKind.u64.wrap ((IntKind.u64.wrap vx1) * (IntKind.u64.wrap vx2))))).tdiv (4294967296:Int))),.i (IntKind.i64.wrap (k + (1:Int)))]) (.reg 0 [(5,Or.bool false,0,0)] [2,3,4,5,6,7,8,33] [0,1,2,3] [.old 0] <| .c2 (.ex fun vx3 => .reg 0 [(6,Or.cells [dU vx3],0,0)] [2,3,4,5,6,7,8] [0,1,2,3] [] <| .r1 [2,3,4,5,6,7,8,49] [0,1,2,3] <| .ct false (some 3) <| .reg 0 [] [2,3,4,5,6,7,8] [0,1,2,3] [.old 1] <| .r1 [2,3,4,5,6,7,8] [0,1,2,3] <| .r1 [2,3,4,5,6,7,8] [0,1,2,3] <| .bk 0 [.l (out1.set ((IntKind.i64.wrap (i + k))).toNat [dU (IntKind.u32.wrap (IntKind.u64.wrap (carry + (IntKind.u64.wrap vx3))))]),.i (IntKind.u64.wrap ((IntKind.u64.wrap (carry + (IntKind.u64.wrap vx3))).tdiv (4294967296:Int))),.i (IntKind.i64.wrap (k + (1:Int)))]) (.r1 [2,3,4,5,6] [0,1,2,3] <| .bk 1 [.l out1,.i (IntKind.i64.wrap (i + (1:Int)))]))) (.frz [3] <| .exb fun r0 => .exl fun r1 => .reg 0 [(6,Or.call (vA [sD (dB r0),sD (dL r1)]) [] [],0,0)] [4] [2] [] <| .ret []))
   (by kernel_rfl) (by kernel_rfl) (by kernel_rfl) h
end Go.AM
/- What the functions of package integer, and of its reference, answer: digits without zeros at the end, Of. -/
namespace Go.AM
open Go.Proofs.Try
theorem getLast_take_int {l : List Nat} {n : Int} (h0 : 0 < n) (h1 : n ≤ (l.length:Int)) : (l.take n.toNat).getLast? = some (l[(n - 1).toNat]'(by omega)) := by
 have hlt : (n - 1).toNat < l.length := by omega
 have := getLast_take hlt
 rwa [show (n - 1).toNat + 1 = n.toNat by omega] at this
theorem take_zero_int {l : List Nat} {n : Int} (h : n = 0) : l.take n.toNat = [] := by subst h; rfl
theorem stop_digs {l : List Nat} (hB : ∀ x ∈ l, x < 4294967296) {n : Int} (h0 : 0 ≤ n) (h1 : n ≤ (l.length:Int)) (hv : val (l.take n.toNat) = val l) (hx : ∀ (h : 0 < n), l[(n - 1).toNat]'(by omega) ≠ 0) :
   l.take n.toNat = digs (val l) ∧ decide (n > 0) = decide (0 < val l) := by
 have h2 : l.take n.toNat = digs (val l) := take_digs hB hv fun x hl => by
   by_cases hn : 0 < n
   · rw [getLast_take_int hn h1, Option.some.injEq] at hl; subst hl; exact hx hn
   · rw [take_zero_int (by omega)] at hl; simp at hl
 refine ⟨h2, ?_⟩
 rw [decide_eq_decide]
 constructor
 · intro hn
   apply Nat.pos_of_ne_zero
   intro hz
   rw [hz, digs_zero] at h2
   have : (l.take n.toNat).length = 0 := by rw [h2]; rfl
   rw [List.length_take] at this; omega
 · intro hp
   apply Classical.byContradiction
   intro hn
   rw [take_zero_int (by omega)] at hv
   simp only [val] at hv; omega
theorem pred_take {l : List Nat} {n : Int} (h0 : 0 < n) (h1 : n ≤ (l.length:Int)) (hz : l[(n - 1).toNat]'(by omega) = 0) (hv : val (l.take n.toNat) = val l) : val (l.take (n - 1).toNat) = val l := by
 have hlt : (n - 1).toNat < l.length := by omega
 rw [← hv, show n.toNat = (n - 1).toNat + 1 by omega, val_take_pred hlt hz]
theorem norm_ok (l : List Nat) (neg:Bool) (hB : ∀ x ∈ l, x < 4294967296) (hl : l.length ≤ 1099511627776) :
   FnD prog 144 [vs (lim l), vb neg] (V.e (E.agg [S.dat (D.bool (neg && decide (0 < val l))), S.dat (D.sl (lim (digs (val l))))])) [] := by
 refine vc144_ok (lim l) neg (R := Out _) ?_
 unfold vc144
 refine ⟨fun n => 0 ≤ n ∧ n ≤ (l.length:Int) ∧ val (l.take n.toNat) = val l, fun n => n.toNat, ⟨by omega, by simp [lim_length], by simp [lim_length]⟩, fun n ⟨h0, h1, h2⟩ => ⟨fun hc => ?_, fun hc => ?_⟩⟩
 · simp only [gt_iff_lt, decide_eq_true_eq] at hc
   have hw : IntKind.i64.wrap (n - 1) = n - 1 := w64 (by omega) (by omega)
   have hlt : (n - 1).toNat < l.length := by omega
   rw [hw]
   refine ⟨(l[(n - 1).toNat] : Nat), ⟨by omega, by rw [lim_length]; omega⟩, lim_get hlt, fun hx => ?_, fun hx => ?_⟩
   · have hx' : l[(n - 1).toNat] ≠ 0 := by simpa using hx
     obtain ⟨g1, g2⟩ := stop_digs hB h0 h1 h2 fun _ => hx'
     refine ⟨fun hn => ⟨⟨h0, Int.le_refl _, by rw [lim_length]; exact h1⟩, ?_⟩, fun hn => ⟨⟨h0, Int.le_refl _, by rw [lim_length]; exact h1⟩, ?_⟩⟩
     · subst hn; exact out2 (by simpa using g2) (by rw [lim_take, g1])
     · subst hn; exact out2 rfl (by rw [lim_take, g1])
   · have hx' : l[(n - 1).toNat] = 0 := by simpa using hx
     exact ⟨⟨by omega, by omega, pred_take hc h1 hx' h2⟩, by show (n - 1).toNat < n.toNat; omega⟩
 · simp only [gt_iff_lt, decide_eq_false_iff_not] at hc
   obtain ⟨g1, g2⟩ := stop_digs hB h0 h1 h2 fun h => absurd h hc
   refine ⟨fun hn => ⟨⟨h0, Int.le_refl _, by rw [lim_length]; exact h1⟩, ?_⟩, fun hn => ⟨⟨h0, Int.le_refl _, by rw [lim_length]; exact h1⟩, ?_⟩⟩
   · subst hn; exact out2 (by simpa using g2) (by rw [lim_take, g1])
   · subst hn; exact out2 rfl (by rw [lim_take, g1])
theorem made_ok (l : List Nat) (neg:Bool) (hB : ∀ x ∈ l, x < 4294967296) (hl : l.length ≤ 1099511627776) :
   FnD prog 71 [vs (lim l), vb neg] (V.e (E.agg [S.dat (D.bool (neg && decide (0 < val l))), S.dat (D.sl (lim (digs (val l))))])) [] := by
 refine vc71_ok (lim l) neg (R := Out _) ?_
 unfold vc71
 refine ⟨fun n => 0 ≤ n ∧ n ≤ (l.length:Int) ∧ val (l.take n.toNat) = val l, fun n => n.toNat, ⟨by omega, by simp [lim_length], by simp [lim_length]⟩, fun n ⟨h0, h1, h2⟩ => ?_⟩
 have hone : ∀ y ∈ (lim l).take n.toNat, y.length = 1 := fun y hy => lim_one l y (List.mem_of_mem_take hy)
 have hsz : (([] : DL).length + ((lim l).take n.toNat).length) * 4 ≤ 140737488355328 := by
   simp only [List.length_nil, List.length_take, lim_length]; omega
 have h1' : n ≤ ((lim l).length:Int) := by rw [lim_length]; exact h1
 refine ⟨fun hc => ?_, fun hc => ?_⟩
 · simp only [gt_iff_lt, decide_eq_true_eq] at hc
   have hw : IntKind.i64.wrap (n - 1) = n - 1 := w64 (by omega) (by omega)
   have hlt : (n - 1).toNat < l.length := by omega
   rw [hw]
   refine ⟨(l[(n - 1).toNat] : Nat), ⟨by omega, by rw [lim_length]; omega⟩, lim_get hlt, fun hx => ?_, fun hx => ?_⟩
   · have hx' : l[(n - 1).toNat] = 0 := by simpa using hx
     exact ⟨⟨by omega, by omega, pred_take hc h1 hx' h2⟩, by show (n - 1).toNat < n.toNat; omega⟩
   · have hx' : l[(n - 1).toNat] ≠ 0 := by simpa using hx
     obtain ⟨g1, g2⟩ := stop_digs hB h0 h1 h2 fun _ => hx'
     refine ⟨fun hn => ⟨⟨h0, h1'⟩, hone, hsz, ?_⟩, fun hn => ⟨⟨h0, h1'⟩, hone, hsz, ?_⟩⟩
     · subst hn; exact out2 (by simpa using g2) (by rw [List.nil_append, lim_take, g1])
     · subst hn; exact out2 rfl (by rw [List.nil_append, lim_take, g1])
 · simp only [gt_iff_lt, decide_eq_false_iff_not] at hc
   obtain ⟨g1, g2⟩ := stop_digs hB h0 h1 h2 fun h => absurd h hc
   refine ⟨fun hn => ⟨⟨h0, h1'⟩, hone, hsz, ?_⟩, fun hn => ⟨⟨h0, h1'⟩, hone, hsz, ?_⟩⟩
   · subst hn; exact out2 (by simpa using g2) (by rw [List.nil_append, lim_take, g1])
   · subst hn; exact out2 rfl (by rw [List.nil_append, lim_take, g1])
theorem sgn_eI (m:Nat) (neg:Bool) : V.e (E.agg [S.dat (D.bool (neg && decide (0 < m))), S.dat (D.sl (lim (digs m)))]) = eI (if neg then -(m:Int) else m) := by
 unfold eI
 cases neg with
 | true => simp
 | false => simp
theorem norm_eI (l : List Nat) (neg:Bool) (hB : ∀ x ∈ l, x < 4294967296) (hl : l.length ≤ 1099511627776) : FnD prog 144 [vs (lim l), vb neg] (eI (if neg then -(val l:Int) else val l)) [] :=
 sgn_eI (val l) neg ▸ norm_ok l neg hB hl
theorem made_eI (l : List Nat) (neg:Bool) (hB : ∀ x ∈ l, x < 4294967296) (hl : l.length ≤ 1099511627776) : FnD prog 71 [vs (lim l), vb neg] (eI (if neg then -(val l:Int) else val l)) [] :=
 sgn_eI (val l) neg ▸ made_ok l neg hB hl
end Go.AM
/- What the functions of package integer, and of its reference, answer: sums and differences of absolute values. -/
namespace Go.AM
open Go.Proofs.Try
theorem wu32 (n:Int) : IntKind.u32.wrap n = n % 4294967296 := rfl
theorem wu64 {n : Int} (h : 0 ≤ n) (h' : n < 18446744073709551616) : IntKind.u64.wrap n = n := by
 show n % 18446744073709551616 = n
 omega
theorem wu64' (n:Int) : IntKind.u64.wrap n = n % 18446744073709551616 := rfl
theorem sh32 {n : Int} : n.fdiv (2 ^ (min (32:Int).toNat IntKind.u64.bits)) = n / 4294967296 := by
 have : (2:Int) ^ (min (32:Int).toNat IntKind.u64.bits) = 4294967296 := by decide
 rw [this, Int.fdiv_eq_ediv_of_nonneg _ (by decide)]
def vu (n:Int) : V := .e (.sc (.dat (.int .u32 n)))
def vu2 (a b:Int) : V := .tup [.sc (.dat (.int .u32 a)), .sc (.dat (.int .u32 b))]
theorem outu2 {a a' b b' : Int} (h1 : a = a') (h2 : b = b') : Out (vu2 a' b') (V.tup [E.sc (S.dat (D.int .u32 a)), E.sc (S.dat (D.int .u32 b))]) [] := by subst h1; subst h2; exact ⟨rfl, rfl⟩
theorem add32_ok (x y c:Nat) (hx : x < 4294967296) (hy : y < 4294967296) (hc : c ≤ 1) :
   FnD prog 155 [vu x, vu y, vu c] (vu2 (((x + y + c) % 4294967296:Nat) : Int) (((x + y + c) / 4294967296:Nat) : Int)) [] := by
 refine vc155_ok x y c (R := Out _) ?_
 unfold vc155
 have e1 : IntKind.u64.wrap (x:Int) = x := wu64 (by omega) (by omega)
 have e2 : IntKind.u64.wrap (y:Int) = y := wu64 (by omega) (by omega)
 have e3 : IntKind.u64.wrap (c:Int) = c := wu64 (by omega) (by omega)
 have e4 : IntKind.u64.wrap ((x:Int) + y) = x + y := wu64 (by omega) (by omega)
 have e5 : IntKind.u64.wrap ((x:Int) + y + c) = x + y + c := wu64 (by omega) (by omega)
 rw [e1, e2, e3, e4, e5, sh32, wu32, wu32]
 exact ⟨by decide, outu2 (by omega) (by omega)⟩
theorem bits_top (w : BitVec 32) : ((IntKind.u32.wrap (w.toNat:Int)).fdiv (2 ^ (min (31:Int).toNat IntKind.u32.bits))) = if w.msb then 1 else 0 := by
 have h1 : (2:Int) ^ (min (31:Int).toNat IntKind.u32.bits) = 2147483648 := by decide
 rw [h1, Int.fdiv_eq_ediv_of_nonneg _ (by decide), wu32, BitVec.msb_eq_decide]
 have := w.isLt
 simp only [decide_eq_true_eq]
 split <;> omega
theorem ofInt_nat (x:Nat) : BitVec.ofInt 32 (x:Int) = BitVec.ofNat 32 x := by
 apply BitVec.eq_of_toNat_eq
 simp [BitVec.toNat_ofNat]
theorem msb_nat {x : Nat} (h : x < 4294967296) : (BitVec.ofNat 32 x).msb = decide (2147483648 ≤ x) := by
 rw [BitVec.msb_eq_decide, BitVec.toNat_ofNat, Nat.mod_eq_of_lt h]
theorem bits_of (f : BitVec 32 → BitVec 32 → BitVec 32) (x y:Int) : BitVec.ofInt 32 (bitsI .u32 f x y) = f (BitVec.ofInt 32 x) (BitVec.ofInt 32 y) := by
 have h : bitsI .u32 f x y = ((f (BitVec.ofInt 32 x) (BitVec.ofInt 32 y)).toNat:Int) := by
   have hlt := (f (BitVec.ofInt 32 x) (BitVec.ofInt 32 y)).isLt
   show IntKind.u32.wrap (((f (BitVec.ofInt 32 x) (BitVec.ofInt 32 y)).toNat:Nat) : Int) = _
   rw [wu32]
   have hlt' : (f (BitVec.ofInt 32 x) (BitVec.ofInt 32 y)).toNat < 4294967296 := hlt
   generalize (f (BitVec.ofInt 32 x) (BitVec.ofInt 32 y)).toNat = q at hlt'
   show (q:Int) % 4294967296 = q
   omega
 rw [h, ofInt_nat]
 simp
theorem sub32_ok (x y c:Nat) (hx : x < 4294967296) (hy : y < 4294967296) (hc : c ≤ 1) :
   FnD prog 158 [vu x, vu y, vu c] (vu2 (((x:Int) - y - c) % 4294967296) (if x < y + c then 1 else 0)) [] := by
 refine vc158_ok x y c (R := Out _) ?_
 unfold vc158
 have hd : IntKind.u32.wrap (IntKind.u32.wrap ((x:Int) - y) - c) = ((x:Int) - y - c) % 4294967296 := by
   rw [wu32, wu32]; omega
 rw [hd]
 obtain ⟨d, hdd⟩ : ∃ d : Nat, ((x:Int) - y - c) % 4294967296 = (d:Int) := ⟨(((x:Int) - y - c) % 4294967296).toNat, by omega⟩
 have hdl : d < 4294967296 := by omega
 refine ⟨by decide, outu2 rfl ?_⟩
 rw [hdd]
 have hm : (if IntKind.u32.signed then (-1:Int) else IntKind.u32.max) = 4294967295 := by decide
 rw [hm]
 have hnot : ∀ w : BitVec 32, (BitVec.ofInt 32 4294967295 ^^^ w) = ~~~ w := fun w => by
   have : BitVec.ofInt 32 4294967295 = BitVec.allOnes 32 := by decide
   rw [this, BitVec.allOnes_xor]
 let an : BitVec 32 → BitVec 32 → BitVec 32 := fun a b => a &&& b
 let xo : BitVec 32 → BitVec 32 → BitVec 32 := fun a b => a ^^^ b
 show ((IntKind.u32.wrap ((((BitVec.ofInt 32 (bitsI .u32 an (bitsI .u32 xo 4294967295 x) y)) ||| (BitVec.ofInt 32 (bitsI .u32 an (bitsI .u32 xo 4294967295 (bitsI .u32 xo x y)) d)) : BitVec 32).toNat:Nat) : Int)).fdiv (2 ^ (min (31:Int).toNat IntKind.u32.bits))) = _
 rw [bits_top]
 rw [bits_of an, bits_of xo, bits_of an, bits_of xo, bits_of xo]
 simp only [an, xo, hnot, BitVec.msb_or, BitVec.msb_and, BitVec.msb_xor, BitVec.msb_not, ofInt_nat, msb_nat hx, msb_nat hy, msb_nat hdl]
 by_cases a1 : 2147483648 ≤ x <;> by_cases a2 : 2147483648 ≤ y <;> by_cases a3 : 2147483648 ≤ d <;> simp [a1, a2, a3] <;> omega
end Go.AM
/- What the functions of package integer, and of its reference, answer: sums of absolute values. -/
namespace Go.AM
open Go.Proofs.Try
def padD:Nat → Nat → List Nat
 | 0, _ => []
 | k + 1, v => v % 4294967296 :: padD k (v / 4294967296)
theorem padD_length : ∀ k v, (padD k v).length = k
 | 0, _ => rfl
 | k + 1, v => by simp [padD, padD_length k]
theorem padD_lt : ∀ k v, ∀ x ∈ padD k v, x < 4294967296
 | 0, _, x, h => by simp [padD] at h
 | k + 1, v, x, h => by
   simp only [padD, List.mem_cons] at h
   rcases h with rfl | h
   · exact Nat.mod_lt _ (by decide)
   · exact padD_lt k _ x h
theorem padD_val : ∀ (l : List Nat), (∀ x ∈ l, x < 4294967296) → l = padD l.length (val l)
 | [], _ => rfl
 | x :: l, h => by
   have hx := h x (by simp)
   have h1 : (x + 4294967296 * val l) % 4294967296 = x := by omega
   have h2 : (x + 4294967296 * val l) / 4294967296 = val l := by omega
   simp only [List.length_cons, padD, val]
   rw [h1, h2, ← padD_val l fun y hy => h y (by simp [hy])]
theorem val_padD : ∀ k v, v < 4294967296 ^ k → val (padD k v) = v
 | 0, v, h => by simp at h; subst h; rfl
 | k + 1, v, h => by
   simp only [padD, val]
   rw [val_padD k (v / 4294967296) ?_]
   · omega
   · rw [Nat.pow_succ, Nat.mul_comm] at h
     exact Nat.div_lt_of_lt_mul h
def dg (l : List Nat) (i:Nat) : Nat := l.getD i 0
theorem dg_lt {l : List Nat} (h : ∀ x ∈ l, x < 4294967296) (i:Nat) : dg l i < 4294967296 := by
 unfold dg
 rcases Nat.lt_or_ge i l.length with hi | hi
 · rw [List.getD_eq_getElem?_getD, List.getElem?_eq_getElem hi]; exact h _ (List.getElem_mem hi)
 · rw [List.getD_eq_getElem?_getD, List.getElem?_eq_none hi]; decide
theorem dg_get {l : List Nat} {i : Nat} (h : i < l.length) : l[i] = dg l i := by
 unfold dg; rw [List.getD_eq_getElem?_getD, List.getElem?_eq_getElem h]; rfl
theorem dg_out {l : List Nat} {i : Nat} (h : l.length ≤ i) : dg l i = 0 := by
 unfold dg; rw [List.getD_eq_getElem?_getD, List.getElem?_eq_none h]; rfl
def low (l : List Nat) (i:Nat) : Nat := val (l.take i)
theorem low_zero (l : List Nat) : low l 0 = 0 := rfl
theorem low_succ (l : List Nat) (i:Nat) : low l (i + 1) = low l i + 4294967296 ^ i * dg l i := by
 unfold low
 rcases Nat.lt_or_ge i l.length with h | h
 · rw [List.take_add_one, List.getElem?_eq_getElem h, Option.toList_some, val_append, dg_get h, List.length_take, Nat.min_eq_left (by omega)]
   simp [val]
 · rw [List.take_of_length_le (by omega), List.take_of_length_le h, dg_out h]; simp
theorem low_all {l : List Nat} {i : Nat} (h : l.length ≤ i) : low l i = val l := by unfold low; rw [List.take_of_length_le h]
theorem low_set (l : List Nat) (i x:Nat) (j:Nat) (h : j ≤ i) : low (l.set i x) j = low l j := by
 unfold low; rw [List.take_set_of_le h]
theorem dg_set {l : List Nat} {i x : Nat} (h : i < l.length) : dg (l.set i x) i = x := by
 unfold dg; rw [List.getD_eq_getElem?_getD]; simp [h]
theorem low_set_succ {l : List Nat} {i x : Nat} (h : i < l.length) : low (l.set i x) (i + 1) = low l i + 4294967296 ^ i * x := by
 rw [low_succ, low_set l i x i (Nat.le_refl _), dg_set h]
theorem set_lt {l : List Nat} {i x : Nat} (h : ∀ y ∈ l, y < 4294967296) (hx : x < 4294967296) : ∀ y ∈ l.set i x, y < 4294967296 := fun y hy => by
 rcases List.mem_or_eq_of_mem_set hy with h1 | rfl
 · exact h y h1
 · exact hx
theorem lim_getI {l : List Nat} {i : Int} (h0 : 0 ≤ i) (h : i < (l.length:Int)) : (lim l)[i.toNat]? = some [D.int .u32 ((dg l i.toNat:Nat) : Int)] := by
 have hi : i.toNat < l.length := by omega
 rw [lim_get hi, dg_get hi]
theorem carry_step (p l s c:Nat) (a b q:Nat) (h : l + p * c = q) (hs : s = a + b + c) : l + p * (s % 4294967296) + p * 4294967296 * (s / 4294967296) = q + p * a + p * b := by
 have h1 : p * (s % 4294967296) + p * 4294967296 * (s / 4294967296) = p * s := by
   rw [Nat.mul_assoc, ← Nat.mul_add, Nat.mod_add_div]
 subst hs
 rw [Nat.add_assoc, h1, ← h]
 simp only [Nat.mul_add]; omega
def plusVC (a b : DL) (R:V → Heap → Prop) : Prop :=
   (0 ≤ (IntKind.i64.wrap ((a.length:Int) + (1:Int))) ∧ (IntKind.i64.wrap ((a.length:Int) + (1:Int))) ≤ (IntKind.i64.wrap ((a.length:Int) + (1:Int))) ∧ (IntKind.i64.wrap ((a.length:Int) + (1:Int))) * (4:Nat) ≤ 281474976710656) ∧
   ((∀ y ∈ a, y.length = 1) ∧
   (∃ (J1 : (DL) → Int → Int → Prop) (μ1 : (DL) → Int → Int → Nat),
   J1 (a.take (List.replicate ((IntKind.i64.wrap ((a.length:Int) + (1:Int)))).toNat [(D.int .u32 (0:Int))]).length ++ (List.replicate ((IntKind.i64.wrap ((a.length:Int) + (1:Int)))).toNat [(D.int .u32 (0:Int))]).drop a.length) (0:Int) (0:Int) ∧ ∀ (out1 : DL) (t251:Int) (carry1:Int), J1 out1 t251 carry1 →
     ((decide (t251 < (a.length:Int))) = true →
       ((decide (t251 < (b.length:Int))) = true →
         ∃ (vx3:Int),
         (0 ≤ t251 ∧ t251 < (b.length:Int)) ∧
         (b[(t251).toNat]? = some [(D.int .u32 vx3)]) ∧
         (∃ (vx4:Int) (r4:Int) (r5:Int),
         (0 ≤ t251 ∧ t251 < (a.length:Int)) ∧
         (a[(t251).toNat]? = some [(D.int .u32 vx4)]) ∧
         (FnD prog 155 [(V.e (E.sc (S.dat (D.int .u32 vx4)))), (V.e (E.sc (S.dat (D.int .u32 vx3)))), (V.e (E.sc (S.dat (D.int .u32 carry1))))] (V.tup [(E.sc (S.dat (D.int .u32 r4))), (E.sc (S.dat (D.int .u32 r5)))]) []) ∧
         (0 ≤ t251 ∧ t251 < (out1.length:Int)) ∧
         (J1 (out1.set (t251).toNat [(D.int .u32 r4)]) (IntKind.i64.wrap (t251 + (1:Int))) r5 ∧ μ1 (out1.set (t251).toNat [(D.int .u32 r4)]) (IntKind.i64.wrap (t251 + (1:Int))) r5 < μ1 out1 t251 carry1))) ∧
       ((decide (t251 < (b.length:Int))) = false →
         ∃ (vx5:Int) (r6:Int) (r7:Int),
         (0 ≤ t251 ∧ t251 < (a.length:Int)) ∧
         (a[(t251).toNat]? = some [(D.int .u32 vx5)]) ∧
         (FnD prog 155 [(V.e (E.sc (S.dat (D.int .u32 vx5)))), (V.e (E.sc (S.dat (D.int .u32 (0:Int))))), (V.e (E.sc (S.dat (D.int .u32 carry1))))] (V.tup [(E.sc (S.dat (D.int .u32 r6))), (E.sc (S.dat (D.int .u32 r7)))]) []) ∧
         (0 ≤ t251 ∧ t251 < (out1.length:Int)) ∧
         (J1 (out1.set (t251).toNat [(D.int .u32 r6)]) (IntKind.i64.wrap (t251 + (1:Int))) r7 ∧ μ1 (out1.set (t251).toNat [(D.int .u32 r6)]) (IntKind.i64.wrap (t251 + (1:Int))) r7 < μ1 out1 t251 carry1))) ∧
     ((decide (t251 < (a.length:Int))) = false →
       (0 ≤ (a.length:Int) ∧ (a.length:Int) < (out1.length:Int)) ∧
       (R (V.e (E.sc (S.dat (D.sl (out1.set ((a.length:Int)).toNat [(D.int .u32 carry1)]))))) []))))
theorem plusVC_ok {a b : List Nat} (ha : ∀ x ∈ a, x < 4294967296) (hb : ∀ x ∈ b, x < 4294967296) (hl : a.length ≤ 1099511627776) (hab : b.length ≤ a.length) : plusVC (lim a) (lim b) (Out (vs (lim (padD (a.length + 1) (val a + val b))))) := by
 unfold plusVC
 simp only [lim_length]
 have hw : IntKind.i64.wrap ((a.length:Int) + 1) = ((a.length + 1:Nat) : Int) := by rw [w64 (by omega) (by omega)]; simp
 rw [hw]
 refine ⟨⟨by omega, by omega, by omega⟩, lim_one a, fun out t c => ∃ (o : List Nat) (i k:Nat), out = lim o ∧ t = (i:Int) ∧ c = (k:Int) ∧ o.length = a.length + 1 ∧ (∀ x ∈ o, x < 4294967296) ∧ i ≤ a.length ∧ k ≤ 1 ∧ low o i + 4294967296 ^ i * k = low a i + low b i,
   fun _ t _ => ((a.length:Int) - t).toNat, ⟨a ++ [0], 0, 0, ?_, rfl, rfl, by simp, ?_, by omega, by omega, by simp [low_zero]⟩, ?_⟩
 · simp only [Int.toNat_natCast, List.length_replicate]
   rw [List.take_of_length_le (by rw [lim_length]; omega), List.drop_replicate, Nat.add_sub_cancel_left, lim_append]; rfl
 · intro x hx
   rcases List.mem_append.1 hx with h | h
   · exact ha x h
   · simp at h; omega
 · rintro _ _ _ ⟨o, i, k, rfl, rfl, rfl, hol, hod, hia, hk, hinv⟩
   have step : i < a.length → ∀ (x y:Nat), x = dg a i → y = dg b i →
       FnD prog 155 [vu x, vu y, vu k] (vu2 (((x + y + k) % 4294967296:Nat) : Int) (((x + y + k) / 4294967296:Nat) : Int)) [] ∧ (0 ≤ (i:Int) ∧ (i:Int) < ((lim o).length:Int)) ∧
       ((∃ (o' : List Nat) (i' k':Nat), (lim o).set (i:Int).toNat [D.int .u32 (((x + y + k) % 4294967296:Nat) : Int)] = lim o' ∧ IntKind.i64.wrap ((i:Int) + 1) = (i':Int) ∧ (((x + y + k) / 4294967296:Nat) : Int) = (k':Int) ∧ o'.length = a.length + 1 ∧ (∀ x ∈ o', x < 4294967296) ∧ i' ≤ a.length ∧ k' ≤ 1 ∧
         low o' i' + 4294967296 ^ i' * k' = low a i' + low b i') ∧ ((a.length:Int) - IntKind.i64.wrap ((i:Int) + 1)).toNat < ((a.length:Int) - (i:Int)).toNat) := fun hi x y hx hy => by
     have hxl : x < 4294967296 := hx ▸ dg_lt ha i
     have hyl : y < 4294967296 := hy ▸ dg_lt hb i
     have hwi : IntKind.i64.wrap ((i:Int) + 1) = ((i + 1:Nat) : Int) := by rw [w64 (by omega) (by omega)]; simp
     refine ⟨add32_ok x y k hxl hyl hk, ⟨by omega, by rw [lim_length]; omega⟩, ⟨o.set i ((x + y + k) % 4294967296), i + 1, (x + y + k) / 4294967296, by rw [Int.toNat_natCast, lim_set], hwi, rfl, by simp [hol], set_lt hod (Nat.mod_lt _ (by decide)), by omega, by omega, ?_⟩, by rw [hwi]; omega⟩
     rw [low_set_succ (by omega), low_succ a, low_succ b, Nat.pow_succ, ← hx, ← hy]
     have := carry_step (4294967296 ^ i) (low o i) (x + y + k) k x y _ hinv rfl
     omega
   refine ⟨fun hc => ⟨fun hd => ?_, fun hd => ?_⟩, fun hc => ?_⟩
   · have hi : i < a.length := by simpa using hc
     have hib : i < b.length := by simpa using hd
     obtain ⟨s1, s2, s3⟩ := step hi _ _ rfl rfl
     exact ⟨(dg b i:Nat), ⟨by omega, by omega⟩, by simpa using lim_getI (l := b) (i := (i:Int)) (by omega) (by omega), (dg a i:Nat), _, _, ⟨by omega, by omega⟩, by simpa using lim_getI (l := a) (i := (i:Int)) (by omega) (by omega), s1, s2, s3⟩
   · have hi : i < a.length := by simpa using hc
     have hib : b.length ≤ i := by simpa using hd
     obtain ⟨s1, s2, s3⟩ := step hi _ 0 rfl (dg_out hib).symm
     exact ⟨(dg a i:Nat), _, _, ⟨by omega, by omega⟩, by simpa using lim_getI (l := a) (i := (i:Int)) (by omega) (by omega), s1, s2, s3⟩
   · have hi : i = a.length := by have : a.length ≤ i := by simpa using hc
                                  omega
     subst hi
     refine ⟨⟨by omega, by rw [lim_length]; omega⟩, outs ?_⟩
     rw [Int.toNat_natCast, lim_set]
     congr 1
     have hv : val (o.set a.length k) = val a + val b := by
       rw [← low_all (l := o.set a.length k) (i := a.length + 1) (by simp [hol]), low_set_succ (by omega), hinv, low_all (Nat.le_refl _), low_all hab]
     have := padD_val (o.set a.length k) (set_lt hod (by omega))
     rw [hv, List.length_set, hol] at this
     exact this
theorem plus_ok {a b : List Nat} (ha : ∀ x ∈ a, x < 4294967296) (hb : ∀ x ∈ b, x < 4294967296) (hla : a.length ≤ 1099511627776) (hlb : b.length ≤ 1099511627776) :
   FnD prog 145 [vs (lim a), vs (lim b)] (vs (lim (padD (max a.length b.length + 1) (val a + val b)))) [] := by
 refine vc145_ok (lim a) (lim b) (R := Out _) ?_
 unfold vc145
 refine ⟨fun hc => ?_, fun hc => ?_⟩
 · have h : a.length < b.length := by simpa [lim_length] using hc
   have := plusVC_ok hb ha hlb (by omega)
   rw [Nat.max_eq_right (by omega), Nat.add_comm (val a)]
   exact this
 · have h : b.length ≤ a.length := by simpa [lim_length] using hc
   rw [Nat.max_eq_left h]
   exact plusVC_ok ha hb hla h
end Go.AM
