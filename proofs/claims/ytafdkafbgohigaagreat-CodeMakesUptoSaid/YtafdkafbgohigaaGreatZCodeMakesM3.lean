/-
  Parts of the proof of CodeMakesUptoSaid, put together: the abstract evaluation and its contracts. Own work.
  What is proved: each lemma as it stands; no condition.
-/
import Derived.KernelRfl
import Derived.Test.YtafdkafbgohigaaGreatProg
import Derived.Lib.Bytealg
import Derived.Test.YtafdkafbgohigaaGreatRows
import Derived.ProofKit
import Derived.OpenShut
import Derived.JoinedCond
import Derived.ChangeArms
import Derived.RowKit
import Derived.WalkKit
import Derived.Test.YtafdkafbgohigaaGreatZCodeMakesM2
open List renaming length → qAt, get?Internal → qAu, getElem?_eq_getElem → qAv, getElem?_eq_some_iff → qAy, take → qAB, take_of_length_le → qAE, append → qAG, length_append → qAI, mem_of_getElem? → qAJ, getElem?_append_left → qAN, drop → qAO, getElem?_append_right → qAP, getElem?_set → qAQ, drop_eq_getElem_cons → qAT, replicate → qAU, drop_eq_nil_of_le → qAV, mem_append → qAY, mem_cons → qAZ, length_cons → qA0, getElem?_cons_succ → qA3, drop_zero → qA4, length_take → qA6, range → qA7, append_assoc → qA8, all_eq_true → qBd, length_map → qBe, map_cons → qBf
open Bool renaming and_eq_true → qAw, false_eq_true → qAK, and_self → qAM, true_and → qA9
open Option renaming bind_eq_some_iff → qAx, map_eq_some_iff → qAD, bind_some → qAL, map_some → qAW
open Nat renaming beq → qAz, le_refl → qAA, eq_of_beq_eq_true → qAC, ble → qAF, mul_le_mul_right → qAX, beq_refl → qA1, ble_eq → qA2, zero_add → qA5, add_assoc → qBa, blt_eq → qBc, add_mul → qBg
open Go.IntKind renaming wrap → qAH
open Int renaming toNat → qAR, toNat_natCast → qAS
open Array renaming getElem?_toList → qBb
set_option maxRecDepth 1000000
set_option maxHeartbeats 0
noncomputable section
namespace Go.Av
noncomputable section
variable {α β : Type}
def EvG(cf:Nat->Orac)(c:Orac)(G:Orac->Option α):Prop:=∀r,G c=some r->∃n,∀m,n<=m->G (cf m)=some r
def Ev(cf:Nat->Orac)(c:Orac):Prop:=∀t a H,EvG cf c (λo=>o t a H)
variable {cf : Nat → Orac} {c : Orac}
theorem EvG.const(x:Option α):EvG cf c (λ_=>x):=λ_r h=>⟨0,λ_ _=>h⟩
theorem EvG.bind{X:Orac->Option α}{K:Orac->α->Option β}(hX:EvG cf c X)(hK:∀a,EvG cf c (λo=>K o a)):EvG cf c (λo=>(X o).bind (K o)):=by
 intro r h;obtain⟨a,h1,h2⟩:=qAx.1 h;obtain⟨n,hn⟩:=hX a h1;obtain⟨n',hn'⟩:=hK a r h2;exact⟨max n n',λm hm=>by
  show(X (cf m)).bind (K (cf m))=some r;rw[hn m (by omega)];exact hn' m (by omega)⟩
theorem EvG.map{X:Orac->Option α}(f:α->β)(hX:EvG cf c X):EvG cf c (λo=>(X o).map f):=by
 intro r h;obtain⟨a,h1,h2⟩:=qAD.1 h;obtain⟨n,hn⟩:=hX a h1;exact⟨n,λm hm=>by
  show(X (cf m)).map f=some r;rw[hn m hm,←h2];rfl⟩
theorem EvG.ite{p:Prop}[Decidable p]{X Y:Orac->Option α}(hX:EvG cf c X)(hY:EvG cf c Y):EvG cf c (λo=>if p then X o else Y o):=by
 by_cases h:p
 ·simp only[qBj h];exact hX
 ·simp only[qBk h];exact hY
theorem qe4(h:Ev cf c)(f:Nat):∀l:List AV,EvG cf c (λo=>z8 o f l)
 |[]=>EvG.const _
 |a::l=>by
  simp only[z8];exact(h _ _ _).bind λr=>(EvG.const _).bind λ_=>qe4 h f l
theorem qg6(h:Ev cf c)(cfg:Cfg)(nid:Option Nat)(t:Tgt)(args:List AV)(H:AH):EvG cf c (λo=>vn cfg o nid t args H):=by
 cases t with
 |y id=>exact(h _ _ _).bind λr=>EvG.const _
 |f f=>
  simp only[vn];cases cfg.mode f with
  |scal=>exact EvG.ite ((h _ _ _).bind λr=>EvG.const _) (EvG.const _)
  |pfrz=>exact EvG.ite ((h _ _ _).bind λr=>EvG.const _) (EvG.const _)
  |nfrz=>exact EvG.ite ((h _ _ _).bind λr=>EvG.const _) (EvG.const _)
  |wfrz=>exact EvG.ite ((h _ _ _).bind λr=>EvG.const _) (EvG.const _)
  |pown=>exact EvG.ite ((h _ _ _).bind λr=>EvG.const _) (EvG.const _)
  |inpl=>
   cases q6 0 args with
   |nil=>exact EvG.ite ((h _ _ _).bind λr=>EvG.const _) (EvG.const _)
   |cons id l=>
    refine EvG.ite ?_ (EvG.const _);cases hb:H[id]? with
    |none=>exact EvG.const _
    |some b=>
     cases b with
     |rows d sz rs=>exact EvG.ite ((h _ _ _).bind λr=>EvG.const _) (EvG.const _)
     |_=>exact EvG.const _
  |inpf=>
   cases q6 0 args with
   |nil=>exact EvG.const _
   |cons id l=>
    refine EvG.ite ?_ (EvG.const _);cases hb:H[id]? with
    |none=>exact EvG.const _
    |some b=>
     cases b with
     |rows d sz rs=>exact EvG.ite ((h _ _ _).bind λr=>EvG.const _) (EvG.const _)
     |_=>exact EvG.const _
  |slf=>
   cases q6 0 args with
   |nil=>exact EvG.const _
   |cons id l=>
    refine EvG.ite ?_ (EvG.const _);cases hb:H[id]? with
    |none=>exact EvG.const _
    |some b=>
     cases b with
     |rows d sz rs=>exact EvG.ite ((h _ _ _).bind λr=>EvG.const _) (EvG.const _)
     |_=>exact EvG.const _
  |imp=>exact(h _ _ _).bind λr=>EvG.const _
  |obj=>exact(EvG.const _).bind λs=>EvG.ite ((h _ _ _).bind λr=>EvG.const _) (EvG.const _)
  |rgn=>exact EvG.ite ((h _ _ _).bind λr=>EvG.const _) (EvG.const _)
  |over=>
   dsimp only;rcases args with _|⟨a,_|⟨b,l⟩⟩
   ·exact EvG.const _
   ·dsimp only;cases q6 0 a.alts with
    |nil=>exact EvG.const _
    |cons id l=>
     refine EvG.ite ?_ (EvG.const _);cases hb:H[id]? with
     |none=>exact EvG.const _
     |some b=>
      cases b with
      |reg=>exact(qe4 h _ _).map _
      |spl=>exact(qe4 h _ _).map _
      |_=>exact EvG.const _
   ·exact EvG.const _
theorem qpw(h:Ev cf c)(cfg:Cfg)(nid:Option Nat)(t:Tgt)(args:List AV)(H:AH):EvG cf c (λo=>xr cfg o nid t args H):=by
 unfold xr;split
 ·intro r hr;simp only at hr;split at hr
  case h_2=>cases hr
  rename_i a b h1 h2;obtain⟨n1,hn1⟩:=qg6 h cfg nid t _ H _ h1;obtain⟨n2,hn2⟩:=qg6 h cfg nid t _ H _ h2;refine⟨max n1 n2,λm hm=>?_⟩;have g1:vn cfg (cf m) nid t [.nilS] H=some a:=hn1 m (by omega);have g2:vn cfg (cf m) nid t [.em] H=some b:=hn2 m (by omega);simp only[g1,g2];exact hr
 ·exact qg6 h cfg nid t args H
theorem qgV(h:Ev cf c)(cfg:Cfg)(frz:Bool)(nid:Option Nat)(o:Oper)(x:Operand->AV)(H:AH):EvG cf c (λq=>vD cfg q frz nid o x H):=by
 have core:∀(x:Operand->AV) (H:AH),EvG cf c (λq=>match o.op with
    | .call cl=>
     match cl.callee with
     | .value f=>(y7 (x f) (cl.args.toList.map x)).bind λt=>xr cfg q nid t.1 t.2 H
     |_=>evOp cfg nid o.op o.type x H
    |_=>evOp cfg nid o.op o.type x H):=by
  intro x H;split
  ·split
   ·exact(EvG.const _).bind λt=>qpw h cfg nid _ _ _
   ·exact EvG.const _
  ·exact EvG.const _
 unfold vD;cases frz with
 |true=>simp only[if_true];exact core _ _
 |false=>simp only[qAK,if_false];exact core _ _
theorem qft(h:Ev cf c)(cfg:Cfg)(f rid:Nat)(ops:Array Oper):∀(l:List Oper) (k:Nat) (fr:List AV) (H:AH),EvG cf c (λq=>zn cfg q f rid ops k l fr H)
 |[],k,fr,H=>EvG.const _
 |o::l,k,fr,H=>by
  simp only[zn];refine(EvG.const _).bind λb=>EvG.ite ((qgV h cfg _ _ _ _ _).bind λr=>qft h cfg f rid ops l _ _ _) (qft h cfg f rid ops l _ _ _)
theorem qdR(h:Ev cf c)(cfg:Cfg)(f rid:Nat)(ops:Array Oper):∀(l:List Oper) (k at_:Nat) (fr:List AV) (H:AH),EvG cf c (λq=>ya cfg q f rid ops k at_ l fr H)
 |[],k,at_,fr,H=>EvG.const _
 |o::l,k,at_,fr,H=>by
  simp only[ya];refine(EvG.const _).bind λb=>EvG.ite ((qgV h cfg _ _ _ _ _).bind λr=>(qdR h cfg f rid ops l _ _ _ _).map _) ((qdR h cfg f rid ops l _ _ _ _).map _)
theorem qke{k:Nat}{ts:Option (List Tmp)}{ls:List (Tmp×Nat)}{body:Den}:∀{n:Nat} {p:List AV×AH} {r:Ex×List AV×AH},yx k ts ls body n p=some r->yx k ts ls body (n+1) p=some r
 |0,_,_,h=>by cases h
 |n+1,p,r,h=>by
  rw[yx]at h⊢;obtain⟨q,h1,h2⟩:=qAx.1 h;rw[h1];simp only[qAL];cases hq:q.1 with
  |normal=>
   rw[hq]at h2;exact qke h2
  |exit id=>rw[hq]at h2;exact h2
  |goto l=>rw[hq]at h2;exact h2
  |ret=>rw[hq]at h2;exact h2
theorem qkg{g:Nat->Option α}(hs:∀n r,g n=some r->g (n+1)=some r){n:Nat}{r:α}(h:g n=some r):lim g=some r:=by
 have up:∀{n:Nat} {r:α},g n=some r->∀d,g (n+d)=some r:=by
  intro n r h d
  induction d with
  |zero=>exact h
  |succ d ih=>exact hs _ _ ih
 have he:∃(n:Nat) (r:α),g n=some r:=⟨n,r,h⟩;unfold lim;rw[dif_pos he];have hc:=Classical.choose_spec (Classical.choose_spec he);have e1:=up h (Classical.choose he);have e2:=up hc n;rw[Nat.add_comm]at e2;rw[e1]at e2;exact e2.symm
theorem qeM{k:Nat}{ts:Option (List Tmp)}{ls:List (Tmp×Nat)}{body:Den}{n:Nat}{p:List AV×AH}{r:Ex×List AV×AH}(h:yx k ts ls body n p=some r):LOOP k ts ls body p=some r:=
 qkg (g:=λn=>yx k ts ls body n p) (λ_ _ h=>qke h) h
theorem qoz{k:Nat}{ts:Option (List Tmp)}{ls:List (Tmp×Nat)}{body:Orac->Den}(hb:∀fr H,EvG cf c (λq=>body q fr H)):∀(n:Nat) (p:List AV×AH),EvG cf c (λq=>yx k ts ls (body q) n p)
 |0,_=>EvG.const _
 |n+1,p=>by
  simp only[yx];refine(hb _ _).bind λr=>?_
  cases r.1 with
  |normal=>exact qoz hb n _
  |exit id=>exact EvG.const _
  |goto l=>exact EvG.const _
  |ret=>exact EvG.const _
theorem qx6{k:Nat}{ts:Option (List Tmp)}{ls:List (Tmp×Nat)}{body:Orac->Den}(hb:∀fr H,EvG cf c (λq=>body q fr H))(p:List AV×AH):EvG cf c (λq=>LOOP k ts ls (body q) p):=by
 intro r h;obtain⟨n,hn⟩:=qbS h;obtain⟨m,hm⟩:=qoz hb n p r hn;exact⟨m,λi hi=>qeM (hm i hi)⟩
theorem qi8(h:Ev cf c)(cfg:Cfg)(f rid:Nat)(ops:Array Oper):∀(n:Nat) (D:List Nat) (fr:List AV) (H:AH),EvG cf c (λq=>zL cfg q f rid ops n D fr H)
 |0,D,fr,H=>EvG.const _
 |n+1,D,fr,H=>by
  simp only[zL];refine EvG.ite (EvG.const _) ?_;have key:∀l:List (Nat×Oper),EvG cf c (λq=>qbK (λi fr H=>zL cfg q f rid ops n (i::D) fr H) (λi o=>qcu cfg q f rid ops i o fr H) l):=by
   intro l
   induction l with
   |nil=>exact EvG.const _
   |cons p l ih=>
    simp only[qbK];refine EvG.bind ?_ λq=>(qi8 h cfg f rid ops n _ _ _).bind λL=>ih.map _
    simp only[qcu];exact(EvG.const _).bind λb=>EvG.ite ((qgV h cfg _ _ _ _ _).map _) (EvG.const _)
  exact key _
theorem qrS{F:Orac->List AV->AH->Option (Ex×List AV×AH)}(hF:∀fr H,EvG cf c (λq=>F q fr H))(l:List (List AV×AH)):EvG cf c (λq=>zZ (F q) l):=by
 have key:∀(r:Ex×List AV×AH) (l:List (List AV×AH)),zx (F c) r l=true->∃n,∀m,n<=m->zx (F (cf m)) r l=true:=by
  intro r l
  induction l with
  |nil=>intro _;exact⟨0,λ_ _=>rfl⟩
  |cons x l ih=>
   intro h;simp only[zx,qAw]at h;obtain⟨n1,hn1⟩:=ih h.2;have h1:=h.1;split at h1
   ·rename_i r' hr';obtain⟨n2,hn2⟩:=hF _ _ _ hr';refine⟨max n1 n2,λm hm=>?_⟩;simp only[zx,qAw];have h2:F (cf m) x.1 x.2=some r':=hn2 m (by omega);exact⟨by rw[h2];exact h1,hn1 m (by omega)⟩
   ·cases h1
 cases l with
 |nil=>exact EvG.const _
 |cons x l=>
  intro r h;obtain⟨r',h1,h⟩:=qAx.1 h;split at h
  ·rename_i h2;cases h;obtain⟨n1,hn1⟩:=hF _ _ _ h1;obtain⟨n2,hn2⟩:=key _ _ h2;refine⟨max n1 n2,λm hm=>?_⟩;have h3:F (cf m) x.1 x.2=some _:=hn1 m (by omega);simp only[zZ,h3,qAL,hn2 m (by omega),if_true]
  ·cases h
theorem qpa(h:Ev cf c)(cfg:Cfg)(f:Nat)(rd:Option Nat)(k:Nat):∀(cd:Code) (fr:List AV) (H:AH),EvG cf c (λq=>evC cfg q f rd k cd fr H):=by
 intro cd
 induction cd with
 |skip=>intro fr H;simp only[evC];exact EvG.const _
 |label l=>intro fr H;simp only[evC];exact EvG.const _
 |exit id=>intro fr H;simp only[evC];exact EvG.const _
 |ret=>intro fr H;simp only[evC];exact EvG.const _
 |goto l=>intro fr H;simp only[evC];exact EvG.const _
 |refuse s=>intro fr H;simp only[evC];exact EvG.const _
 |region id ops draw=>
  intro fr H;simp only[evC];cases draw with
  |true=>simp only[if_true];exact EvG.ite ((qdR h cfg f id ops _ _ _ _ _).bind λq=>EvG.const _) (EvG.const _)
  |false=>simp only[qAK,if_false];exact(qft h cfg f id ops _ _ _ _).map _
 |seq x y ihx ihy=>
  intro fr H;simp only[evC];split
  ·exact(qi8 h cfg f _ _ _ _ _ _).bind λL=>qrS (λfr H=>(ihy _ _).map _) L
  refine(ihx _ _).bind λr=>?_
  cases r.1 with
  |normal=>exact ihy _ _
  |exit id=>exact EvG.const _
  |goto l=>exact EvG.const _
  |ret=>exact EvG.const _
 |cond cnd x y ihx ihy=>
  intro fr H;simp only[evC];split
  ·exact EvG.ite (ihx _ _) (ihy _ _)
  ·exact EvG.const _
 |block id x ih=>
  intro fr H;simp only[evC];exact(ih _ _).bind λr=>EvG.const _
 |loop x ih=>
  intro fr H;simp only[evC];exact(qx6 ih _).map _
 |scope x ih=>
  intro fr H;simp only[evC];exact(ih _ _).bind λr=>EvG.const _
 |rangeFunc g ps assign body=>
  intro fr H;simp only[evC,qae];refine EvG.ite ?_ (EvG.const _);split
  ·exact EvG.ite (EvG.const _) ((h _ _ _).bind λr=>EvG.const _)
  ·exact EvG.const _
theorem qmz(h:Ev cf c)(cfg:Cfg)(t:Tgt)(args:List AV)(H:AH):EvG cf c (λq=>xl cfg q t args H):=by
 unfold xl;cases t with
 |f f=>
  simp only;split
  ·exact EvG.const _
  ·refine EvG.ite ?_ (EvG.const _);split
   ·split
    ·exact(qpa h cfg f none _ _ _ _).bind λr=>EvG.const _
    ·exact EvG.const _
   ·exact EvG.const _
 |y id=>
  simp only;split
  ·refine EvG.ite ((qpa h cfg _ _ _ _ _ _).bind λr=>?_) (EvG.const _);split
   ·exact(qpa h cfg _ _ _ _ _ _).bind λq=>EvG.const _
   ·exact EvG.const _
  ·exact EvG.const _
end
theorem qdv(cfg:Cfg):∀(n:Nat) (t:Tgt) (a:List AV) (H:AH) (r:AV×AH),evF cfg n t a H=some r->evF cfg (n+1) t a H=some r
 |0,t,a,H,r,h=>by cases h
 |n+1,t,a,H,r,h=>by
  have hev:Ev (λ_=>evF cfg (n+1)) (evF cfg n):=λt a H r h=>⟨0,λ_ _=>qdv cfg n t a H r h⟩
  obtain⟨m,hm⟩:=qmz hev cfg t a H r h;exact hm m (qAA _)
theorem qAs(cfg:Cfg):Ev (evF cfg) (EV cfg):=by
 intro t a H r h;obtain⟨n,hn⟩:=qbS h;refine⟨n,λm hm=>?_⟩;obtain⟨d,rfl⟩:=Nat.exists_eq_add_of_le hm
 induction d with
 |zero=>exact hn
 |succ d ih=>exact qdv cfg _ t a H r (ih (by omega))
theorem qlp{cfg:Cfg}{t:Tgt}{a:List AV}{H:AH}{r:AV×AH}(h:xl cfg (EV cfg) t a H=some r):EV cfg t a H=some r:=by
 obtain⟨n,hn⟩:=qmz (qAs cfg) cfg t a H r h;exact qkg (g:=λn=>evF cfg n t a H) (λn r h=>qdv cfg n t a H r h) (n:=n+1) (hn n (qAA _))
theorem qhb{k:Nat}{ts:Option (List Tmp)}{ls:List (Tmp×Nat)}{body:Den}{p:List AV×AH}{q:Ex×List AV×AH}(h:body p.1 p.2=some q)(hq:∀x,q≠(.normal,x)):LOOP k ts ls body p=some q:=by
 refine qeM (n:=1) ?_;rw[yx,h];obtain⟨e,q⟩:=q;cases e with
 |normal=>exact absurd rfl (hq q)
 |exit id=>rfl
 |goto l=>rfl
 |ret=>rfl
theorem qvj{k:Nat}{ts:Option (List Tmp)}{ls:List (Tmp×Nat)}{body:Den}{p:List AV×AH}{fr1:List AV}{H1:AH}{r:Ex×List AV×AH}(h:body p.1 p.2=some (.normal,fr1,H1))(hr:LOOP k ts ls body (yH k ts ls fr1 H1)=some r):LOOP k ts ls body p=some r:=by
 obtain⟨n,hn⟩:=qbS hr;refine qeM (n:=n+1) ?_;rw[yx,h];exact hn
variable {α : Type}
abbrev KV(α:Type):=AV->Option α
abbrev KH(α:Type):=AV->AH->Option α
abbrev KE(α:Type):=Ex->List AV->AH->Option α
abbrev KF(α:Type):=Tgt->List AV->AH->(AV×AH->Option α)->Option α
def kInt(kd:IntKind)(v:AV)(k:Int->Option α):Option α:=
 match v with
 | .int k' n=>cond (qat k' kd) (k n) none
 |_=>none
def qJ(v:AV)(k:Bool->Option α):Option α:=
 match v with
 | .bool b=>k b
 |_=>none
def kStr(v:AV)(k:List UInt8->Option α):Option α:=
 match v with
 | .str s=>k s
 |_=>none
def kSl(v:AV)(k:List (List AV)->Option α):Option α:=
 match v with
 | .sl rows=>k rows
 |_=>none
def kAgg(v:AV)(k:List AV->Option α):Option α:=
 match v with
 | .agg cs=>k cs
 |_=>none
def kOpt{β:Type}(o:Option β)(k:β->Option α):Option α:=
 match o with
 |some b=>k b
 |none=>none
def qf(l:List AV)(k:AV->List AV->Option α):Option α:=
 match l with
 |c::cs=>k c cs
 |[]=>none
def kNil(l:List AV)(x:Option α):Option α:=
 match l with
 |[]=>x
 |_=>none
def qaU(s:FK)(v:AV)(k:KV α):Option α:=
 match s with
 | .int kd=>kInt kd v λn=>k (.int kd n)
 | .bool=>qJ v λb=>k (.bool b)
 | .str=>kStr v λs=>k (.str s)
 | .sl=>kSl v λrows=>k (.sl rows)
 | .any=>k v
def qbA:List FK->List AV->(List AV->Option α)->Option α
 |[],l,k=>kNil l (k [])
 |s::ss,l,k=>qf l λc cs=>qaU s c λv=>qbA ss cs λvs=>k (v::vs)
def qun(sl:Bool):TD->FK
 | .int k=>.int k
 | .bool=>.bool
 | .str=>.str
 | .slice _=>if sl then .sl else .any
 |_=>.any
def qkj(cfg:Cfg)(p:TypeId->Bool):Nat->TypeId->Option (List FK)
 |0,_=>none
 |n+1,t=>
  match cfg.td t with
  |some (.struct fs)=>(fs.foldr (λf acc=>match qkj cfg p n f.2,acc with|some l,some a=>some (l++a)|_,_=>none) (some []))
  |some (.array m e)=>(match qkj cfg p n e with|some l=>some ((qAU m l).flatten)|none=>none)
  |some d=>some [qun (p t) d]
  |none=>none
def kTy1(p:TypeId->Bool)(cfg:Cfg)(t:TypeId)(v:AV)(k:KV α):Option α:=
 match cfg.td t with
 |some d=>
  match d with
  | .struct _=>(match qkj cfg p 6 t with|some ss=>kAgg v λcs=>qbA ss cs λvs=>k (.agg vs)|none=>k v)
  | .array _ _=>(match qkj cfg p 6 t with|some ss=>kAgg v λcs=>qbA ss cs λvs=>k (.agg vs)|none=>k v)
  |d=>qaU (qun (p t) d) v k
 |none=>k v
def kTup(v:AV)(k:List AV->Option α):Option α:=
 match v with
 | .tup cs=>k cs
 |_=>none
def kTys(p:TypeId->Bool)(cfg:Cfg):List TypeId->List AV->(List AV->Option α)->Option α
 |[],l,k=>kNil l (k [])
 |t::ts,l,k=>qf l λc cs=>kTy1 p cfg t c λv=>kTys p cfg ts cs λvs=>k (v::vs)
def kTy(p:TypeId->Bool)(cfg:Cfg)(t:TypeId)(v:AV)(k:KV α):Option α:=
 match cfg.tup t with
 |some ts=>kTup v λcs=>kTys p cfg ts cs λvs=>k (.tup vs)
 |none=>kTy1 p cfg t v k
def AV.regA(i:Nat):AV->AV
 | .agg cs=>.agg (cs.map (AV.regn i))
 |a=>a
def noTy:TypeId->Bool:=λ_=>false
def qcT:TypeId->Bool:=λ_=>true
def qAi(cfg:Cfg)(H:AH)(a:AV):TypeId->Bool:=
 match a with
 | .cptr _ _=>cfg.dat
 | .ptr id _ _=>if xN H id then cfg.dat else noTy
 |_=>noTy
def kNew(nid:Option Nat)(H:AH)(b:ABlk)(k:Nat->AH->Option α):Option α:=
 match nid with
 |none=>k H.length (H++[b])
 |some i=>kOpt H[i]? λx=>match x with| .res=>k i (H.set i b)|_=>none
def qtm(cfg:Cfg)(t:TypeId):Bool:=match cfg.td t with|some d=>d.agg|none=>false
def qbU(agg:Bool)(v:AV)(k:List AV->Option α):Option α:=
 cond agg (kAgg v λcs=>cond (xp cs) (k cs) none) (cond v.isCell (k [v]) none)
def qsu(t:Bool)(a b:AV)(k:KV α):Option α:=
 match a,b with
 | .bool p,.bool q=>k (.bool (cond t p q))
 | .int k1 p,.int k2 q=>cond (qat k1 k2) (k (.int k1 (cond t p q))) (cond t (k a) (k b))
 |a,b=>cond t (k a) (k b)
def qkz(place:Nat->Option (Nat×Nat×Bool))(cells:List AV):List (Nat×AV)->(List AV->Option α)->Option α
 |[],k=>k cells
 |(i,v)::rest,k=>
  match place i with
  |some (off,size,agg)=>qbU agg v λcs=>cond (qAz cs.length size&&qAF (off+size) cells.length) (qkz place (cells.take off++cs++cells.drop (off+size)) rest k) none
  |none=>none
def qhA(cfg:Cfg):List (Nat×TypeId)->Option (List (Nat×Nat×Bool))
 |[]=>some []
 |(off,t)::l=>
  match cfg.sz t,qhA cfg l with
  |some n,some ps=>some ((off,n,qtm cfg t)::ps)
  |_,_=>none
def qnw(agg:Bool)(n:Nat)(rows:List (List AV)):List (Nat×AV)->(List (List AV)->Option α)->Option α
 |[],k=>k rows
 |(i,v)::rest,k=>qbU agg v λcs=>cond (qAz cs.length n&&Nat.blt i rows.length) (qnw agg n (rows.set i cs) rest k) none
def kBlk(H:AH)(id:Nat)(k:Nat->List (List AV)->Option α):Option α:=
 kOpt H[id]? λb=>match b with| .rows _ sz rs=>k sz rs| .froz _ sz rs=>k sz rs|_=>none
def qfj(H:AH)(id:Nat)(k:Bool->Nat->List (List AV)->Option α):Option α:=
 kOpt H[id]? λb=>match b with| .rows d sz rs=>k d sz rs|_=>none
def qb2(agg:Bool)(n:Nat)(cells:List AV)(off:Nat)(k:KV α):Option α:=
 cond agg (cond (qAF (off+n) cells.length) (k (.agg ((cells.drop off).take n))) none) (kOpt cells[off]? k)
def qkv(agg:Bool)(n:Nat)(H:AH)(p:AV)(k:KV α):Option α:=
 match p with
 | .ptr id r off=>kBlk H id λ_ rs=>kOpt rs[r]? λrow=>qb2 agg n row off k
 | .cptr cs off=>qb2 agg n cs off k
 | .lpt cs off=>qb2 agg n (cs.map AV.lend) off k
 | .rpt id cs off=>kOpt H[id]? λb=>match b with
  | .reg=>qb2 agg n (cs.map (AV.regn id)) off k
  | .spl=>cond agg (cond (qAz n 4) (qbA [.int .i64,.int .i64,.str,.sl] ((cs.drop off).take 4) λvs=>k (.alt [.agg (vs.map (AV.regn id)),.agg qhy,.agg row0])) none) (kOpt (qlC cs off) λrows=>k (.rsl id rows))
  |_=>none
 |_=>none
def qoE(agg:Bool)(n:Nat)(H:AH)(p v:AV)(k:AH->Option α):Option α:=
 match p with
 | .ptr id r off=>qbU agg v λcs=>qfj H id λd sz rs=>kOpt rs[r]? λrow=>cond (qAz cs.length n&&qAF (off+n) row.length) (k (H.set id (.rows (d&&qz 0 cs) sz (rs.set r (row.take off++cs++row.drop (off+n)))))) none
 | .rpt id cs off=>kOpt H[id]? λb=>match b with| .spl=>cond (qAz n 4) (cond (qaB ((cs.drop off).take 4)&&is77 v) (k H) none) (cond (qAz n 7&&qeC (cs.drop off)&&qcZ v) (k H) none)|_=>none
 |_=>none
def qgI(v:AV)(k:KV α):Option α:=
 match v with
 | .ptr id r off=>k (.ptr id r off)
 | .cptr cs off=>k (.cptr cs off)
 | .fn (.func f) a b=>k (.fn (.func f) a b)
 | .mp id=>k (.mp id)
 | .yld id=>k (.yld id)
 |_=>none
def qe(a b:Int):Bool:=decide (a<=b)
def qi(a b:Int):Bool:=decide (a<b)
def qgM(lo hi:Nat)(x:Option AV)(dflt:Nat)(k:Nat->Option α):Option α:=
 match x with
 |none=>k dflt
 |some v=>match v with| .int _ i=>cond (qe lo i&&qe i hi) (k i.toNat) none|_=>none
def qbT(n:Nat)(lo hi mx:Option AV)(k:Nat->Nat->Option α):Option α:=
 cond (hi.isNone&&mx.isSome) none (qgM 0 n hi n λh=>qgM h n mx h λ_=>qgM 0 h lo 0 λl=>k l h)
def qoF(cfg:Cfg)(t:TypeId)(H:AH)(x:AV)(lo hi mx:Option AV)(k:KV α):Option α:=
 match cfg.td t with
 |some .str=>(match mx with|none=>(match x with| .str s=>qbT s.length lo hi none λl h=>k (.str ((s.drop l).take (h - l)))|_=>none)|_=>none)
 |some (.slice e)=>
  match cfg.sz e with
  |some n=>
   match x with
   | .nilS=>qbT 0 lo hi mx λ_ _=>k .nilS
   | .sl rows=>qbT rows.length lo hi mx λl h=>cond (vq n rows) (match cfg.ems t with|false=>k (.sl ((rows.drop l).take (h - l)))|true=>k (slE true rows l h)) none
   | .ms id off len=>qbT len lo hi mx λl h=>kBlk H id λsz _=>cond (qAz sz n) (k (.ms id (off+l) (h - l))) none
   | .wr _ v=>(match lo,hi,mx with
    |none,some hv,none=>(match hv with
     | .int _ h=>(match v with
      | .sl rows=>cond (qe 0 h&&qe h rows.length) (k (.wr h.toNat (.sl rows))) none
      | .ms id off len=>cond (qe 0 h&&qe h len) (k (.wr h.toNat (.ms id off len))) none
      |_=>none)
     |_=>none)
    |_,_,_=>none)
   |_=>none
  |none=>none
 |_=>none
def qfd(cfg:Cfg)(t:TypeId)(H:AH)(x i:AV)(k:KV α):Option α:=
 match i with
 | .int _ i=>
  match cfg.td t with
  |some (.slice e)=>
   match cfg.sz e with
   |some n=>
    match x with
    | .ms id off len=>kBlk H id λsz _=>cond (qAz sz n&&qe 0 i&&qi i len) (k (.ptr id (off+i.toNat) 0)) none
    | .sl rows=>cond (qe 0 i&&qi i rows.length) (kOpt rows[i.toNat]? λrow=>cond (qAz row.length n) (k (.cptr row 0)) none) none
    | .lsl rows=>cond (qe 0 i&&qi i rows.length) (kOpt rows[i.toNat]? λrow=>cond (qAz row.length n) (k (.lpt row 0)) none) none
    | .rsl id rows=>cond (qe 0 i&&qi i rows.length) (kOpt rows[i.toNat]? λrow=>cond (qAz row.length n) (k (.rpt id row 0)) none) none
    |_=>none
   |none=>none
  |some (.array n e)=>
   match cfg.sz e with
   |some sz=>
    match x with
    | .ptr id r off=>cond (qe 0 i&&qi i n) (k (.ptr id r (off+i.toNat*sz))) none
    | .cptr cs off=>cond (qe 0 i&&qi i n) (k (.cptr cs (off+i.toNat*sz))) none
    |_=>none
   |none=>none
  |_=>none
 |_=>none
def qoP(cfg:Cfg)(t:TypeId)(x i:AV)(k:KV α):Option α:=
 match i with
 | .int _ i=>
  match cfg.td t with
  |some (.array n e)=>
   match cfg.ty e with
   |some ti=>kAgg x λcs=>cond (qe 0 i&&qi i n) (qb2 ti.d.agg ti.sz cs (i.toNat*ti.sz) k) none
   |none=>none
  |some .str=>kStr x λs=>cond (qe 0 i) (kOpt s[i.toNat]? λb=>k (.int .u8 b.toNat)) none
  |_=>none
 |_=>none
def qoR(cfg:Cfg)(t:TypeId)(x:AV)(f:Nat)(k:KV α):Option α:=
 match cfg.td t with
 |some (.struct fs)=>
  match fs[f]? with
  |some (off,ft)=>(match cfg.ty ft with|some ti=>kAgg x λcs=>qb2 ti.d.agg ti.sz cs off k|none=>none)
  |none=>none
 |_=>none
def qfh(cfg:Cfg)(t:TypeId)(x:AV)(f:Nat)(k:KV α):Option α:=
 match cfg.td t with
 |some (.struct fs)=>
  match fs[f]? with
  |some (o,ft)=>
   match cfg.sz ft with
   |some (_+1)=>(match x with| .ptr id r off=>k (.ptr id r (off+o))| .cptr cs off=>k (.cptr cs (off+o))| .rpt id cs off=>k (.rpt id cs (off+o))|_=>none)
   |_=>none
  |none=>none
 |_=>none
def qi4(cfg:Cfg)(nid:Option Nat)(src dst:TypeId)(x:AV)(H:AH)(k:KH α):Option α:=
 match cfg.td src,cfg.td dst with
 |some (.int _),some (.int kd)=>(match x with| .int _ n=>k (.int kd (kd.wrap n)) H|_=>none)
 |some .str,some .str=>kStr x λs=>k (.str s) H
 |some .str,some (.slice e)=>
  match cfg.td e with
  |some (.int .u8)=>kStr x λs=>kNew nid H (.rows true 1 (zM s)) λi H'=>k (.ms i 0 s.length) H'
  |_=>none
 |some (.slice e),some .str=>
  match cfg.td e with
  |some (.int .u8)=>kOpt (yG H 1 x) λrows=>kOpt (yp rows) λbs=>k (.str bs) H
  |_=>none
 |_,_=>none
def qlL(H:AH)(n:Nat)(x:AV)(k:List (List AV)->Option α):Option α:=
 match x with
 | .nilS=>k []
 | .em=>k []
 | .sl rows=>cond (vq n rows) (k rows) none
 | .ms id off len=>kBlk H id λsz rs=>cond (qAz sz n&&qAF (off+len) rs.length) (k ((rs.drop off).take len)) none
 |_=>none
def kSrc(isStr:Bool)(H:AH)(n:Nat)(x:AV)(k:List (List AV)->Option α):Option α:=
 cond isStr (kStr x λb=>cond (qAz n 1) (k (zM b)) none) (qlL H n x k)
def qrn(cfg:Cfg)(t:TypeId):Bool:=match cfg.td t with|some .str=>true|_=>false
def qlP(cfg:Cfg)(nid:Option Nat)(t xt:TypeId)(s x:AV)(H:AH)(k:KH α):Option α:=
 match cfg.td t,cfg.td xt with
 |some (.slice e),some xd=>
  match cfg.ty e with
  |some ei=>
   cond (xd.notInt&&Nat.blt 0 ei.sz&&qAz ei.zero.length ei.sz)
    (kSrc (qrn cfg xt) H ei.sz x λnews=>
     match s with
     | .nilS=>cond news.isEmpty (k .nilS H) (cond (qo news.length ei.bytes) (kNew nid H (.rows (xU H x) ei.sz news) λi H'=>k (.ms i 0 news.length) H') none)
     | .ms id off len=>qfj H id λd sz rs=>cond (qAz sz ei.sz&&qAF (off+len) rs.length&&qo (len+news.length) ei.bytes)
       (kNew nid (H.set id .dead) (.rows (d&&xU H x) sz ((rs.drop off).take len++news)) λi H'=>k (.ms i 0 (len+news.length)) H') none
     |_=>none) none
  |none=>none
 |_,_=>none
def kLen(cfg:Cfg)(t:TypeId)(x:AV)(H:AH)(k:KV α):Option α:=
 match cfg.td t with
 |some .str=>kStr x λs=>k (.int .i64 s.length)
 |some (.slice _)=>(match x with| .nilS=>k (.int .i64 0)| .em=>k (.int .i64 0)| .sl rows=>k (.int .i64 rows.length)| .ms _ _ len=>k (.int .i64 len)| .lsl rows=>k (.int .i64 rows.length)| .rsl _ rows=>k (.int .i64 rows.length)|_=>none)
 |some (.array n _)=>k (.int .i64 n)
 |some (.map _ _)=>(match x with| .nilM=>k (.int .i64 0)| .mp id=>(kOpt H[id]? λb=>match b with| .mp _ es=>k (.int .i64 es.length)|_=>none)|_=>none)
 |_=>none
def qnx(cfg:Cfg)(nid:Option Nat)(t:TypeId)(len cap:AV)(H:AH)(k:KH α):Option α:=
 match cfg.td t with
 |some (.slice e)=>
  match cfg.ty e with
  |some ei=>
   cond (zr ei) (kInt .i64 len λn=>kInt .i64 cap λc=>
    cond (qe 0 n&&qe n c&&qe (c*ei.bytes) 140737488355328&&qe c 9223372036854775807) (kNew nid H (.rows true ei.sz (qAU n.toNat ei.zero)) λi H'=>k (.ms i 0 n.toNat) H') none) none
  |none=>none
 |_=>none
def qoL(cfg:Cfg)(nid:Option Nat)(t:TypeId)(len cap:AV)(H:AH)(k:KH α):Option α:=
 match cfg.wrt t with
 |false=>qnx cfg nid t len cap H k
 |true=>
  match len,cap with
  | .int _ n,.int _ c=>cond (decide (n=c)) (qnx cfg nid t len cap H λv H'=>match v with| .ms id off l=>k (.wr l (.ms id off l)) H'|_=>none) none
  |_,_=>none
def kCap(cfg:Cfg)(t:TypeId)(x:AV)(k:KV α):Option α:=
 match cfg.td t with
 |some (.slice _)=>(match x with| .wr _ v=>(match v with| .sl rows=>k (.int .i64 rows.length)| .ms _ _ len=>k (.int .i64 len)|_=>none)|_=>none)
 |_=>none
def qoS(cfg:Cfg)(t:TypeId)(x:AV)(H:AH)(k:AH->Option α):Option α:=
 match cfg.td t with
 |some (.slice e)=>
  match x with
  | .nilS=>k H
  | .ms id off len=>
   match cfg.ty e with
   |some ei=>qfj H id λd sz rs=>cond (zr ei&&qAz sz ei.sz&&qAF (off+len) rs.length) (k (H.set id (.rows d sz (rs.take off++qAU len ei.zero++rs.drop (off+len))))) none
   |none=>none
  |_=>none
 |_=>none
def qsB(cfg:Cfg)(t xt:TypeId)(d s:AV)(H:AH)(k:KH α):Option α:=
 match cfg.td t with
 |some (.slice e)=>
  match d with
  | .ms id off len=>
   match cfg.sz e with
   |some n=>qfj H id λd sz rs=>kSrc (qrn cfg xt) H n s λnews=>cond (qAz sz n&&qAF (off+len) rs.length&&Nat.blt 0 sz)
     (k (.int .i64 (Nat.min news.length len)) (H.set id (.rows (d&&xU H s) sz (rs.take off++news.take len++rs.drop (off+(news.take len).length))))) none
   |none=>none
  |_=>none
 |_=>none
def kMpB(b:ABlk)(k:Bool->List (AV×AV)->Option α):Option α:=
 match b with
 | .mp d es=>k d es
 |_=>none
def qoK(H:AH)(x:AV)(k:Bool->List (AV×AV)->Option α):Option α:=
 match x with
 | .nilM=>k true []
 | .mp id=>kOpt H[id]? λb=>kMpB b k
 |_=>none
def qbz(r:Option (Nat×AV))(x:Option α)(y:Nat->AV->Option α):Option α:=
 match r with
 |none=>x
 |some p=>y p.1 p.2
def qyG(cfg:Cfg):Bool->TypeId->Bool
 |true=>cfg.dat
 |false=>noTy
def qlO(cfg:Cfg)(t:TypeId)(x key:AV)(ok:Bool)(H:AH)(k:KV α):Option α:=
 match cfg.td t with
 |some (.map kt et)=>
  match cfg.td kt with
  |some d=>qoK H x λdf es=>cond d.keyed (kOpt (xW d key es 0) λr=>qbz r
    (kOpt (cfg.zeroV et) λz=>k (cond ok (.tup [z,.bool false]) z))
    λ_ v=>kTy1 (qyG cfg df) cfg et v λv=>k (cond ok (.tup [v,.bool true]) v)) none
  |none=>none
 |_=>none
def qlN(cfg:Cfg)(t:TypeId)(m key v:AV)(H:AH)(k:AH->Option α):Option α:=
 match cfg.td t with
 |some (.map kt _)=>
  match m with
  | .mp id=>
   match cfg.td kt with
   |some d=>kOpt H[id]? λb=>kMpB b λd0 es=>cond d.keyed (kOpt (xW d key es 0) λr=>qbz r
     (k (H.set id (.mp (d0&&(key.refsLt 0&&v.refsLt 0)) (es++[(key,v)]))))
     λi _=>k (H.set id (.mp (d0&&(key.refsLt 0&&v.refsLt 0)) (es.set i (key,v))))) none
   |none=>none
  |_=>none
 |_=>none
def qoM(cfg:Cfg)(nid:Option Nat)(t:TypeId)(r:Option AV)(H:AH)(k:KH α):Option α:=
 match cfg.td t with
 |some (.map _ _)=>
  match r with
  |none=>kNew nid H (.mp true []) λi H'=>k (.mp i) H'
  |some h=>(match h with| .int _ _=>kNew nid H (.mp true []) λi H'=>k (.mp i) H'|_=>none)
 |_=>none
def kOp(cfg:Cfg)(nid:Option Nat)(o:Op)(ty:TypeId)(x:Operand->AV)(H:AH)(k:KH α):Option α:=
 match o with
 | .move a| .assign a=>k (x a) H
 | .pick c a b=>qJ (x c) λt=>qsu t (x a) (x b) λv=>k v H
 | .alloc t=>
  match cfg.ty t with
  |some ti=>cond (xp ti.zero) (kNew nid H (qbe cfg t ti.zero) λi H'=>k (.ptr i 0 0) H') none
  |none=>none
 | .box t a=>qbU (qtm cfg t) (x a) λcs=>kNew nid H (qdy cfg t cs) λi H'=>k (.ptr i 0 0) H'
 | .build t parts=>
  match cfg.ty t with
  |some ti=>
   cond (xp ti.zero)
    (match ti.d with
    | .struct fs=>
     match qhA cfg fs with
     |some ps=>qkz (λi=>ps[i]?) ti.zero (parts.toList.map λp=>(p.1,x p.2)) λcs=>k (.agg (cfg.fga t cs)) H
     |none=>none
    | .array _ e=>
     match cfg.sz e with
     |some n=>qkz (λi=>some (i*n,n,qtm cfg e)) ti.zero (parts.toList.map λp=>(p.1,x p.2)) λcs=>k (.agg cs) H
     |none=>none
    |_=>none) none
  |none=>none
 | .buildSlice t len parts=>
  match cfg.td t with
  |some (.slice e)=>
   match cfg.ty e with
   |some ei=>
    cond (zr ei&&qAF (len*ei.sz) 16777216)
     (qnw ei.d.agg ei.sz (qAU len ei.zero) (parts.toList.map λp=>(p.1,x p.2)) λrows=>kNew nid H (.rows (qQ 0 rows) ei.sz rows) λi H'=>k (.ms i 0 len) H') none
   |none=>none
  |_=>none
 | .load t a=>
  match cfg.ty t with
  |some ti=>match x a with
   | .lpt cs off=>qb2 ti.d.agg ti.sz cs off λv=>kTy cfg.dat cfg t v λv=>cond ti.d.agg (k v.lendA H) (k v.lend H)
   | .rpt id cs off=>kOpt H[id]? λb=>match b with
    | .reg=>qb2 ti.d.agg ti.sz cs off λv=>kTy cfg.dat cfg t v λv=>cond ti.d.agg (k (v.regA id) H) (k (v.regn id) H)
    |_=>qkv ti.d.agg ti.sz H (.rpt id cs off) λv=>k v H
   |p=>qkv ti.d.agg ti.sz H p λv=>kTy (qAi cfg H p) cfg t v λv=>k v H
  |none=>none
 | .store t a v=>
  match cfg.ty t with
  |some ti=>qoE ti.d.agg ti.sz H (x a) (x v) λH'=>k .junk H'
  |none=>none
 | .nilCheck a=>qgI (x a) λv=>k v H
 | .binOp op t a b _=>kOpt (aBin cfg (litN a b) op t (x a) (x b)) λv=>kTy noTy cfg ty v λv=>k v H
 | .unOp op _ a=>kOpt (aUn op (x a)) λv=>kTy noTy cfg ty v λv=>k v H
 | .convert s d a=>qi4 cfg nid s d (x a) H k
 | .makeFunc f first caps=>k (.fn f (first.toList.map x) (caps.toList.map x)) H
 | .makeSlice t l c=>qoL cfg nid t (x l) (x c) H k
 | .makeMap t r=>qoM cfg nid t (r.map x) H k
 | .lookup t a key ok=>qlO cfg t (x a) (x key) ok H λv=>k v H
 | .mapUpdate t m key v| .insert t m key v=>qlN cfg t (x m) (x key) (x v) H λH'=>k .junk H'
 | .slice t a lo hi mx=>qoF cfg t H (x a) (lo.map x) (hi.map x) (mx.map x) λv=>k v H
 | .fieldAddr t a f=>qfh cfg t (x a) f λv=>k v H
 | .field t a f=>qoR cfg t (x a) f λv=>kTy noTy cfg ty v λv=>k v H
 | .indexAddr t a i=>qfd cfg t H (x a).unwr (x i) λv=>k v H
 | .index t a i=>qoP cfg t (x a) (x i) λv=>kTy noTy cfg ty v λv=>k v H
 | .extract t i=>(match x t with| .tup vs=>kOpt vs[i]? λv=>kTy noTy cfg ty v λv=>k v H|_=>none)
 | .call c=>
  match c.callee with
  | .builtin b=>
   match b,c.args.toList,c.argTypes.toList with
   | .len,[a],[t]=>kLen cfg t (x a).unwr H λv=>k v H
   | .cap,[a],[t]=>kCap cfg t (x a) λv=>k v H
   | .append,[s,a],[t,xt]=>qlP cfg nid t xt (x s) (x a) H k
   | .copy,[d,s],[t,xt]=>qsB cfg t xt (x d).unwr (x s) H k
   | .clear,[a],[t]=>qoS cfg t (x a) H λH'=>k (.tup []) H'
   | .min,[a,b],_=>kOpt (aMin (λb a=>decide (b<a)) [x a,x b]) λv=>kTy noTy cfg ty v λv=>k v H
   | .max,[a,b],_=>kOpt (aMin (λb a=>decide (a<b)) [x a,x b]) λv=>kTy noTy cfg ty v λv=>k v H
   |_,_,_=>none
  |_=>none
 |_=>none
def qhG(g s:Bool)(H:AH)(v:AV)(k:KV α):Option α:=
 match v with
 | .ms id off len=>kBlk H id λ_ rs=>cond (qAF (off+len) rs.length&&(xN H id||qQ 0 ((rs.drop off).take len))) (k (.sl ((rs.drop off).take len))) none
 | .nilS=>k (cond g (.sl []) .nilS)
 | .em=>k (cond g (.sl []) .em)
 | .wr n v=>(match v with| .sl rows=>k (cond g (.sl (rows.take n)) (.wr n (.sl rows)))|_=>none)
 | .ptr id r off=>cond s (kBlk H id λ_ rs=>kOpt rs[r]? λrow=>cond (qz 0 row) (k (.cptr row off)) none) (k (.ptr id r off))
 | .rsl id rows=>cond s (kOpt H[id]? λb=>match b with| .reg=>k (.sl rows)|_=>none) (k (.rsl id rows))
 |a=>k a
def qa5(g s:Bool)(H:AH):List AV->(List AV->Option α)->Option α
 |[],k=>k []
 |a::l,k=>qhG g s H a λa=>qa5 g s H l λl=>k (a::l)
def qb3(s:Bool)(H:AH)(v:AV)(k:KV α):Option α:=
 match v with
 | .agg cs=>qa5 true s H cs λcs=>k (.agg cs)
 | .tup cs=>cond s (k ((AV.tup cs).fg)) (qa5 true s H cs λcs=>k (.tup cs))
 | .fn f a b=>cond s (qa5 false s H a λa=>qa5 false s H b λb=>k (.fn f a b)) (k (.fn f a b))
 |a=>qhG true s H a k
def qsv(H:AH)(v:AV)(k:KV α):Option α:=
 match v with
 | .agg cs=>qa5 false false H cs λcs=>k (.agg cs)
 | .tup cs=>qa5 false false H cs λcs=>k (.tup cs)
 |a=>qhG false false H a k
def qgL(H:AH):List AV->(List AV->Option α)->Option α
 |[],k=>k []
 |a::l,k=>qsv H a λa=>qgL H l λl=>k (a::l)
def qnC(H:AH):List AV->(List AV->Option α)->Option α
 |[],k=>k []
 |a::l,k=>qb3 true H a λa=>qnC H l λl=>k (a::l)
inductive OV where
 |nil
 |own (sz:Nat) (rs:List (List AV)) (off len:Nat)
def ovOf(r:AV×AH):Option OV:=
 match r.1 with
 | .nilS=>some .nil
 | .ms id off len=>
  match r.2[id]? with
  |some (.rows d sz rs)=>if d||qQ 0 rs then some (.own sz rs off len)else none
  |_=>none
 |_=>none
def qnp(r:AV×AH):Option (OV×AV):=
 match r.1 with
 | .tup [a,s]=>cond ((s.frz s.msIds r.2).fg.refsLt 0) (match ovOf (a,q4 s.msIds r.2)with|some o=>some (o,(s.frz s.msIds r.2).fg)|none=>none) none
 |_=>none
def EVd(cf:Orac)(f:Nat)(args:List AV)(sz:Nat)(rs:List (List AV)):Option (AV×List (List AV)):=(cf (.f f) args [.rows true sz rs]).bind (qo3 sz)
def EVx(cf:Orac)(f:Nat)(args:List AV)(sz:Nat)(rs:List (List AV)):Option (AV×List (List AV)):=(cf (.f f) args [.rows false sz rs]).bind (qjO sz)
open Classical in
def EVk (cf:Orac) (f:Nat) (args:List AV) (sz:Nat) (rs:List (List AV)):Option AV:=(EVx cf f args sz rs).bind λq=>if q.2=rs then some q.1 else none
theorem qlo{cf:Orac}{f:Nat}{args:List AV}{sz:Nat}{rs:List (List AV)}{v:AV}(h:EVx cf f args sz rs=some (v,rs)):EVk cf f args sz rs=some v:=by
 unfold EVk;rw[h];exact qBj rfl
theorem qwJ{cf:Orac}{f:Nat}{args:List AV}{sz:Nat}{rs:List (List AV)}{v:AV}(h:EVk cf f args sz rs=some v):EVx cf f args sz rs=some (v,rs):=by
 unfold EVk at h;obtain⟨q,h1,h2⟩:=qAx.1 h;split at h2
 ·rename_i e;rw[h1,←Option.some.inj h2,←e]
 ·cases h2
def EVs(cf:Orac)(f:Nat)(args:List AV):Option AV:=(cf (.f f) args []).map λr=>r.1
def EVf(cf:Orac)(f:Nat)(args:List AV):Option AV:=(cf (.f f) args []).map λr=>(r.1.frz r.1.msIds r.2).fg
def EVo(cf:Orac)(f:Nat)(args:List AV):Option OV:=(cf (.f f) args []).bind ovOf
def EVw(cf:Orac)(f:Nat)(args:List AV):Option AV:=(cf (.f f) args []).map λr=>r.1.frzW r.1.msIdsW r.2
def kWr(v:AV)(k:Nat->List (List AV)->Option α):Option α:=
 match v with
 | .wr n (.sl rows)=>k n rows
 |_=>none
def EVn(cf:Orac)(f:Nat)(args:List AV):Option AV:=(cf (.f f) args []).bind λr=>qe5 r.2 r.1
def EVg(cf:Orac)(f:Nat)(args:List AV):Option AV:=(cf (.f f) args []).bind λr=>qgj r.2 r.1
def EVz(cf:Orac)(f:Nat)(a:AV):Option Unit:=(cf (.f f) [a] [.spl]).bind qhB
def qkE(cf:Orac)(f:Nat):List AV->Option α->Option α
 |[],k=>k
 |a::l,k=>kOpt (EVz cf f a) λ_=>qkE cf f l k
def EVj(cf:Orac)(f k:Nat)(args:List AV)(G:AH):Option (AV×AH):=(cf (.f f) args G).bind (qj7 k)
def qC(l:AH)(k:ABlk->AH->Option α):Option α:=
 match l with
 |b::bs=>k b bs
 |[]=>none
def vL(l:AH)(x:Option α):Option α:=
 match l with
 |[]=>x
 |_=>none
def q7(l:List (List AV))(k:List AV->List (List AV)->Option α):Option α:=
 match l with
 |b::bs=>k b bs
 |[]=>none
def vw(l:List (List AV))(x:Option α):Option α:=
 match l with
 |[]=>x
 |_=>none
def qE(b:ABlk)(k:Bool->Nat->List (List AV)->Option α):Option α:=
 match b with
 | .rows d n rs=>k d n rs
 |_=>none
def kMsE(v:AV)(k:Nat->Nat->Nat->Option α):Option α:=
 match v with
 | .ms a b c=>k a b c
 |_=>none
def kMpE(v:AV)(k:Nat->Option α):Option α:=
 match v with
 | .mp a=>k a
 |_=>none
def qkq(v:AV)(k:Nat->Nat->Nat->Option α):Option α:=
 match v with
 | .ptr a b c=>k a b c
 |_=>none
def beqB(a b:Bool):Bool:=cond a b (!b)
def kShB(s:BSh)(b:ABlk)(k:ABlk->Option α):Option α:=
 match s with
 | .row d cs=>qE b λd' n rs=>cond (beqB d d'&&qAz n cs.length) (q7 rs λrow rest=>vw rest (k (.rows d cs.length [row]))) none
 | .rows d sz=>qE b λd' n rs=>cond (beqB d d'&&qAz n sz) (k (.rows d sz rs)) none
 | .mp d=>kMpB b λd' es=>cond (beqB d d') (k (.mp d es)) none
def kSh1:List BSh->AH->(AH->Option α)->Option α
 |[],l,k=>vL l (k [])
 |s::ss,l,k=>qC l λb bs=>kShB s b λb=>kSh1 ss bs λbs=>k (b::bs)
def kShC(G:AH)(s:CSh)(c:AV)(k:KV α):Option α:=
 match s with
 | .leaf s=>qaU s c k
 | .sl j=>kMsE c λid off len=>kBlk G j λ_ rs=>cond (qAz id j&&(qAz off 0&&qAz len rs.length)) (k (.ms j 0 rs.length)) none
 | .mp j=>kMpE c λid=>cond (qAz id j) (k (.mp j)) none
 | .is v=>cond (c.same v) (k v) none
 | .ptr j=>qkq c λid r off=>cond (qAz id j&&(qAz r 0&&qAz off 0)) (k (.ptr j 0 0)) none
def qnv(G:AH):List CSh->List AV->(List AV->Option α)->Option α
 |[],l,k=>kNil l (k [])
 |s::ss,l,k=>qf l λc cs=>kShC G s c λv=>qnv G ss cs λvs=>k (v::vs)
def kShD(G:AH)(s:BSh)(b:ABlk)(k:ABlk->Option α):Option α:=
 match s with
 | .row _ cs=>qE b λd' n rs=>q7 rs λrow rest=>vw rest (qnv G cs row λcs'=>k (.rows d' n [cs']))
 |_=>k b
def kSh2(G:AH):List BSh->AH->(AH->Option α)->Option α
 |[],l,k=>vL l (k [])
 |s::ss,l,k=>qC l λb bs=>kShD G s b λb=>kSh2 G ss bs λbs=>k (b::bs)
def kShp(ss:List BSh)(l:AH)(k:AH->Option α):Option α:=kSh1 ss l λG=>kSh2 G ss G k
def EVq(cf:Orac)(f:Nat)(args:List AV):Option (OV×AV):=(cf (.f f) args []).bind qnp
def kOwn(o:OV)(x:Option α)(k:Nat->List (List AV)->Nat->Nat->Option α):Option α:=
 match o with
 | .nil=>x
 | .own sz rs off len=>k sz rs off len
inductive MV where
 |unit
 |nil
 |sl (off len:Nat)
 |int (k:IntKind) (n:Int)
 |bool (b:Bool)
def mvOf:AV->Option MV
 | .tup []=>some .unit
 | .nilS=>some .nil
 | .ms id off len=>if qAz id 0 then some (.sl off len)else none
 | .int k n=>some (.int k n)
 | .bool b=>some (.bool b)
 |_=>none
def MV.av(id:Nat):MV->AV
 | .unit=>.tup []
 | .nil=>.nilS
 | .sl off len=>.ms id off len
 | .int k n=>.int k n
 | .bool b=>.bool b
def EVm(cf:Orac)(f:Nat)(args:List AV)(sz:Nat)(rs:List (List AV)):Option (MV×List (List AV)):=
 (cf (.f f) args [.rows true sz rs]).bind λr=>(qka sz r).bind λq=>(mvOf q.1).map λv=>(v,q.2)
def EVu(cf:Orac)(f:Nat)(args:List AV):Option MV:=(cf (.f f) args []).bind λr=>if r.1.refsLt 0 then mvOf r.1 else none
def kMSl(v:MV)(x:Option α)(k:Nat->Nat->Option α):Option α:=
 match v with
 | .nil=>x
 | .sl off len=>k off len
 |_=>none
def qcn(v:MV)(x:Option α):Option α:=
 match v with
 | .unit=>x
 |_=>none
def qnz(kd:IntKind)(v:MV)(k:Int->Option α):Option α:=
 match v with
 | .int q n=>cond (qat q kd) (k n) none
 |_=>none
def qoN(v:MV)(k:Bool->Option α):Option α:=
 match v with
 | .bool b=>k b
 |_=>none
def qul(cfg:Cfg)(ty:TypeId):Nat:=
 match cfg.td ty with
 |some (.slice _)=>1
 |some (.int _)=>2
 |some .bool=>3
 |_=>0
def qwV(cfg:Cfg)(ty:TypeId):IntKind:=
 match cfg.td ty with
 |some (.int k)=>k
 |_=>.i64
def qny(kd:Nat)(ik:IntKind)(id:Nat)(v:MV)(k:KV α):Option α:=
 match kd with
 |0=>qcn v (k (.tup []))
 |1=>kMSl v (k .nilS) λoff len=>k (.ms id off len)
 |2=>qnz ik v λn=>k (.int ik n)
 |_=>qoN v λb=>k (.bool b)
def qAg(cfg:Cfg)(f:FuncId):List Nat->List BSh
 |[]=>[]
 |_=>cfg.shp f
def qbB(cfg:Cfg)(cf:Orac)(kf:KF α)(nid:Option Nat)(ty:TypeId)(t:Tgt)(args:List AV)(H:AH)(k:KH α):Option α:=
 match t with
 | .y id=>kf (.y id) args H λr=>kOpt (qcr nid H.length r.1 r.2) λr=>kTy noTy cfg ty r.1 λv=>k v r.2
 | .f f=>
  match cfg.mode f with
  | .scal=>qnC H args λal=>cond (qz 0 al) (match cfg.inl f with
   |some _=>kf (.f f) al [] λr=>kTy noTy cfg ty r.1 λv=>cond v.scalar (k v H) none
   |none=>kOpt (EVs cf f al) λv=>kTy noTy cfg ty v λv=>cond v.scalar (k v H) none) none
  | .pfrz=>cond (qz 0 (args.map AV.fg)) (match cfg.inl f with
   |some _=>kf (.f f) (args.map AV.fg) [] λr=>qb3 false r.2 r.1 λv=>kTy qcT cfg ty v λv=>cond (v.refsLt 0) (k v H) none
   |none=>kOpt (EVf cf f (args.map AV.fg)) λv=>kTy qcT cfg ty v λv=>cond (v.refsLt 0) (k v H) none) none
  | .wfrz=>cond (qz 0 args) (kOpt (EVw cf f args) λv=>match cfg.td ty with
    |some (.slice _)=>kWr v λn rows=>k (.wr n (.sl rows)) H
    |_=>kTy noTy cfg ty v λv=>cond (v.refsLt 0) (k v H) none) none
  | .nfrz=>cond (qz 0 (args.map AV.fg)) (kOpt (EVn cf f (args.map AV.fg)) λV=>kTy qcT cfg ty V λV=>k V.lendT H) none
  | .pown=>match cfg.tup ty with
   |some [_,t2]=>cond (qz 0 args) (kOpt (EVq cf f args) λq=>kTy1 qcT cfg t2 q.2 λs=>kOwn q.1 (k (.tup [.nilS,s]) H) λsz rs off len=>kNew nid H (.rows true sz rs) λi H'=>k (.tup [.ms i off len,s]) H') none
   |_=>cond (qz 0 args) (match cfg.inl f with
   |some _=>kf (.f f) args [] λr=>kOpt (ovOf r) λo=>kOwn o (k .nilS H) λsz rs off len=>kNew nid H (.rows true sz rs) λi H'=>k (.ms i off len) H'
   |none=>kOpt (EVo cf f args) λo=>kOwn o (k .nilS H) λsz rs off len=>kNew nid H (.rows true sz rs) λi H'=>k (.ms i off len) H') none
  | .inpl=>
   match q6 0 args with
   |id::l=>cond (xB [id] l) (kOpt H[id]? λb=>match b with
     | .rows d sz rs=>cond (d||qQ 0 rs) (kOpt (EVm cf f (renL (λ_=>0) args) sz rs) λq=>qny (qul cfg ty) (qwV cfg ty) id q.1 λv=>k v (H.set id (.rows true sz q.2))) none
     |_=>none) none
   |[]=>cond (qz 0 args) (kOpt (EVu cf f args) λv=>qny (qul cfg ty) (qwV cfg ty) 0 v λv=>k v H) none
  | .imp=>kf (.f f) args H λr=>kOpt (qcr nid H.length r.1 r.2) λr=>kTy noTy cfg ty r.1 λv=>k v r.2
  | .inpf=>
   match q6 0 args with
   |id::l=>cond (xB [id] l) (kOpt H[id]? λb=>match b with
     | .rows d sz rs=>cond (d||qQ 0 rs) (kOpt (EVd cf f (renL (λ_=>0) args) sz rs) λq=>kTy qcT cfg ty q.1 λv=>k v (H.set id (.rows true sz q.2))) none
     |_=>none) none
   |[]=>none
  | .slf=>
   match q6 0 args with
   |id::l=>cond (xB [id] l) (kOpt H[id]? λb=>match b with
     | .rows _ sz rs=>cond (xB [id] (xT 0 rs)) (kOpt (EVk cf f (renL (λ_=>0) args) sz (renR (λ_=>0) rs)) λq=>kTy qcT cfg ty q λv=>k v (H.set id (.rows false sz (renR (λ_=>id) (renR (λ_=>0) rs))))) none
     |_=>none) none
   |[]=>none
  | .rgn=>cond (qz 0 (args.map AV.fg)) (kOpt (EVg cf f (args.map AV.fg)) λV=>kTy qcT cfg ty V λV=>kNew nid H .reg λi H'=>k (rgIn i V) H') none
  | .over=>
   match args with
   |[a]=>
    (match q6 0 a.alts with
    |id::l=>cond (xB [id] l) (kOpt H[id]? λb=>match b with
      | .reg=>qkE cf f (renL (λ_=>0) a.alts) (k (.tup []) (H.set id .spl))
      | .spl=>qkE cf f (renL (λ_=>0) a.alts) (k (.tup []) H)
      |_=>none) none
    |[]=>none)
   |_=>none
  | .obj=>kOpt (qdC H args) λs=>cond (qAF (objK (cfg.okeep f) (renL (vB 0 s.1) args)) s.1.length)
    (kOpt (EVj cf f (objK (cfg.okeep f) (renL (vB 0 s.1) args)) (qnr (objK (cfg.okeep f) (renL (vB 0 s.1) args)) (cfg.olift f) (renL (vB 0 s.1) args) s.2).1 (qnr (objK (cfg.okeep f) (renL (vB 0 s.1) args)) (cfg.olift f) (renL (vB 0 s.1) args) s.2).2) λq=>
     kShp (qAg cfg f s.1) q.2 λG=>kOpt (y8 nid H (G.length - objK (cfg.okeep f) (renL (vB 0 s.1) args))) λp=>kTy qcT cfg ty q.1 λv=>
      k ((v.ren (yr (objK (cfg.okeep f) (renL (vB 0 s.1) args)) s.1.length)).ren (yv (s.1++p.1))) (zR p.2 (s.1++p.1) (yf (objK (cfg.okeep f) (renL (vB 0 s.1) args)) s.1.length G))) none
open Classical in
def kEqR {β:Type} (a b:β) (x:Option α):Option α:=if a=b then x else none
def qAl(n:Nat)(x y:Option α):Option α:=match n with|0=>x|_+1=>y
def qkC(cfg:Cfg)(cf:Orac)(kf:KF α)(nid:Option Nat)(ty:TypeId)(t:Tgt)(args:List AV)(H:AH)(k:KH α):Option α:=
 match zU cfg t args with
 |some n=>qAl n (qbB cfg cf kf nid ty t [.nilS] H λv H1=>qbB cfg cf kf nid ty t [.em] H λv2 H2=>kEqR (v,H1) (v2,H2) (k v H1)) (qbB cfg cf kf nid ty t args H k)
 |none=>qbB cfg cf kf nid ty t args H k
def kTgt(f:AV)(args:List AV)(k:Tgt->List AV->Option α):Option α:=
 match f with
 | .fn (.func g) first caps=>k (.f g) (first++args++caps)
 | .yld id=>k (.y id) args
 |_=>none
def opEq:Operand->Operand->Bool
 | .tmp a,.tmp b=>qAz a b
 |_,_=>false
def frzX:List Operand->List AV->(Operand->AV)->Operand->AV
 |b::l,v::al,x,a=>cond (opEq b a) v (frzX l al x a)
 |_,_,x,a=>x a
def qnA(cfg:Cfg)(nid:Option Nat)(o:Oper)(x:Operand->AV)(H:AH)(k:KH α):Option α:=
 qgL H (o.op.operands.toList.map x) λal=>
  kOp cfg nid o.op o.type (frzX o.op.operands.toList al λa=>(x a).frz (o.op.operands.toList.flatMap λa=>(x a).msIds) H) (q4 (o.op.operands.toList.flatMap λa=>(x a).msIds) H) k
def qkr(cfg:Cfg)(cf:Orac)(kf:KF α)(frz:Bool)(nid:Option Nat)(o:Oper)(x:Operand->AV)(H:AH)(k:KH α):Option α:=
 cond frz
  (match o.op with
   | .call c=>
    match c.callee with
    | .value f=>qgL H (c.args.toList.map x) λal=>kTgt ((x f).frz (o.op.operands.toList.flatMap λa=>(x a).msIds) H) al λt al=>
      qkC cfg cf kf nid o.type t al (q4 (o.op.operands.toList.flatMap λa=>(x a).msIds) H) k
    |_=>qnA cfg nid o x H k
   |_=>qnA cfg nid o x H k)
  (match o.op with
   | .call c=>
    match c.callee with
    | .value f=>kTgt (x f) (c.args.toList.map x) λt al=>qkC cfg cf kf nid o.type t al H k
    |_=>kOp cfg nid o.op o.type x H k
   |_=>kOp cfg nid o.op o.type x H k)
def qez(ops:Array Oper)(fr:List AV)(o:Oper)(k:Bool->List AV->Option α):Option α:=
 match o.guard with
 |none=>k true fr
 |some (j,want)=>
  match(ops[j]?).bind (·.dst)with
  |some d=>kOpt fr[d]? λv=>match v with
   | .tup l=>(match l with|[]=>k false fr|_=>none)
   |v=>qJ v λb=>cond b (k want (fr.set d (.bool true))) (k (!want) (fr.set d (.bool false)))
  |none=>none
def kOps(cfg:Cfg)(cf:Orac)(kf:KF α)(f rid:Nat)(ops:Array Oper):Nat->List Oper->List AV->AH->(List AV->AH->Option α)->Option α
 |_,[],fr,H,k=>k fr H
 |n,o::rest,fr,H,k=>qez ops fr o λb fr=>
   cond b (qkr cfg cf kf (cfg.frz f rid n) none o (opd fr) H λv H'=>kOps cfg cf kf f rid ops (n+1) rest (put fr o.dst v) H' k) (kOps cfg cf kf f rid ops (n+1) rest (put fr o.dst (.tup [])) H k)
def qkB(cfg:Cfg)(cf:Orac)(kf:KF α)(f rid:Nat)(ops:Array Oper):Nat->Nat->List Oper->List AV->AH->(List DR->List AV->AH->Option α)->Option α
 |_,_,[],fr,H,k=>k [] fr H
 |n,at_,o::rest,fr,H,k=>qez ops fr o λb fr=>
   cond b
    (qkr cfg cf kf (cfg.frz f rid n) (some at_) o (opd fr) H λv H'=>
     qkB cfg cf kf f rid ops (n+1) (at_+qcl cfg o) rest (put fr o.dst v) H' λfps fr' H''=>k (drOf cfg (cfg.frz f rid n) at_ o (opd fr) H v H'::fps) fr' H'')
    (qkB cfg cf kf f rid ops (n+1) (at_+qcl cfg o) rest (put fr o.dst (.tup [])) H λfps fr' H''=>k (drNo H::fps) fr' H'')
open Classical in
def CUT {β:Type} (p:β):Option β:=if ∃q:β,some q=some p then some p else none
theorem qvl{β:Type}(p:β):CUT p=some p:=qBj ⟨p,rfl⟩
def zu(ts:Option (List Tmp))(fr:List AV)(H:AH)(g:List AV->AH->Option α):Option α:=
 match ts with
 |none=>g fr H
 |some ks=>kOpt (CUT (vR (some ks) fr,H)) λp=>g p.1 p.2
theorem qpd{β:Type}{p:β}{K:β->Option α}{r:α}(h:K p=some r):kOpt (CUT p) K=some r:=by rw[qvl];exact h
theorem qqx{ts:Option (List Tmp)}{fr:List AV}{H:AH}{g:List AV->AH->Option α}{r:α}(h:zu ts fr H g=some r):g (vR ts fr) H=some r:=by
 cases ts with
 |none=>exact h
 |some ks=>
  have h:kOpt (CUT (vR (some ks) fr,H)) (λp=>g p.1 p.2)=some r:=h;rw[qvl]at h;exact h
def kSeq(nx:List AV->AH->Option α)(k:KE α):KE α:=λe fr H=>
 match e with
 | .normal=>nx fr H
 |e=>k e fr H
def x9(id:Nat)(k:KE α):KE α:=λe fr H=>
 match e with
 | .exit id'=>cond (qAz id' id) (k .normal fr H) (k (.exit id') fr H)
 |e=>k e fr H
def qkn(k:KE α):KE α:=λe fr H=>
 match e with
 | .goto _=>none
 |e=>k e fr H
def kAft(ts:Option (List Tmp))(k:KE α)(r:Ex×List AV×AH):Option α:=k r.1 (vR ts r.2.1) r.2.2
def known(fr:List AV)(c:Operand)(b:Bool):List AV:=
 match c with
 | .tmp d=>fr.set d (.bool b)
 |_=>fr
def qwX(b:ABlk)(k:Option Code->Option α):Option α:=
 match b with
 | .loop _ _ _ _ _ pend st=>(match st with| .busy=>none|_=>k pend)
 |_=>none
def qoH(pend:Option Code)(k:KE α)(fr:List AV)(H:AH):Option α:=
 match pend with
 |none=>k .normal fr H
 |some c=>(match c with| .ret=>k .ret fr H| .exit id=>k (.exit id) fr H|_=>none)
def y9(bs n:Nat)(fr:List AV)(k:KE α)(H:AH):Option α:=
 kOpt H[n]? λb=>qwX b λpend=>qoH pend k (gc bs fr (H.set n .dead)).1 (gc bs fr (H.set n .dead)).2
def quu(cfg:Cfg)(_cf:Orac)(kf:KF α)(f:Nat)(rd:Option Nat)(bs:Nat)(g:AV)(ps:List Tmp)(assign body:Code)(fr:List AV)(H:AH)(k:KE α):Option α:=
 cond (qok rd H)
  (match g with
   | .fn (.func h) first caps=>cond (cfg.ext h).isNone
     (kf (.f h) (first++[.yld H.length]++caps) (H++[.loop f (vR (cfg.keepIn f (qn body)) fr) ps assign body none .ready]) λr=>
      y9 bs H.length (vR (cfg.keepOut f (qn body)) fr) k r.2) none
   |_=>none) none
def kOrd(cfg:Cfg)(cf:Orac)(kf:KF α)(f rid:Nat)(ops:Array Oper):List (Nat×Oper)->List AV->AH->(List AV->AH->Option α)->Option α
 |[],fr,H,k=>k fr H
 |p::rest,fr,H,k=>qez ops fr p.2 λb fr=>
   cond b (qkr cfg cf kf (cfg.frz f rid p.1) none p.2 (opd fr) H λv H'=>kOrd cfg cf kf f rid ops rest (put fr p.2.dst v) H' k) (kOrd cfg cf kf f rid ops rest (put fr p.2.dst (.tup [])) H k)
def qss{β:Type}(F:β->KE α->Option α)(g:Ex->List AV->AH->Ex×List AV×AH)(r:Ex×List AV×AH):List β->Option α->Option α
 |[],x=>x
 |q::l,x=>F q λe fr H=>kEqR r (g e fr H) (qss F g r l x)
def qwZ{β:Type}(F:β->KE α->Option α)(g:Ex->List AV->AH->Ex×List AV×AH)(k:KE α):List β->Option α
 |[]=>none
 |q::l=>F q λe fr H=>qss F g (g e fr H) l (k (g e fr H).1 (g e fr H).2.1 (g e fr H).2.2)
def vM(cfg:Cfg)(cf:Orac)(kf:KF α)(f:Nat)(rd:Option Nat)(bs:Nat):Code->List AV->AH->KE α->Option α
 | .skip,fr,H,k=>k .normal fr H
 | .label _,fr,H,k=>k .normal fr H
 | .region id ops draw,fr,H,k=>
  cond draw
   (cond (qaw ops)
    (qkB cfg cf kf f id ops 0 H.length ops.toList fr (H++qAU (places cfg ops.toList) .res) λfps fr' H'=>cond (qc1 (ancs [] ops.toList) (H++qAU (places cfg ops.toList) .res) fps) (k .normal fr' H') none) none)
   (kOps cfg cf kf f id ops 0 ops.toList fr H λfr' H'=>k .normal fr' H')
 | .seq a b,fr,H,k=>
  match qcx a with
  |some p=>
   match qhC p.2 p.2.size []with
   |some O=>qwZ (λo k=>kOrd cfg cf kf f p.1 p.2 o fr H λfr H=>vM cfg cf kf f rd bs b (vR (cfg.cut f (qn b)) fr) H k) (λe fr H=>qhK bs (dsts a++dsts b) (e,fr,H)) k O
   |none=>none
  |none=>vM cfg cf kf f rd bs a fr H (kSeq (λfr H=>zu (cfg.cut f (qn b)) fr H λfr H=>vM cfg cf kf f rd bs b fr H k) k)
 | .cond c a b,fr,H,k=>qJ (opd fr c) λt=>cond t (vM cfg cf kf f rd bs a (known fr c true) H k) (vM cfg cf kf f rd bs b (known fr c false) H k)
 | .block id a,fr,H,k=>vM cfg cf kf f rd bs a fr H (x9 id k)
 | .loop a,fr,H,k=>kOpt (LOOP bs (cfg.keepIn f (qn a)) (cfg.lift f (qn a)) (evC cfg cf f rd bs a) (yH bs (cfg.keepIn f (qn a)) (cfg.lift f (qn a)) fr H)) (kAft (cfg.keepOut f (qn a)) k)
 | .scope a,fr,H,k=>vM cfg cf kf f rd bs a fr H (qkn k)
 | .exit id,fr,H,k=>k (.exit id) fr H
 | .goto _,_,_,_=>none
 | .ret,fr,H,k=>k .ret fr H
 | .rangeFunc g ps assign body,fr,H,k=>quu cfg cf kf f rd bs (opd (vO (cfg.lift f (qn body)) fr H).1 g) ps.toList assign body (vO (cfg.lift f (qn body)) fr H).1 (vO (cfg.lift f (qn body)) fr H).2 k
 | .refuse _,_,_,_=>none
inductive Ko where
 |seq (c:Code)
 |block (id:Nat)
 |scope
def kRun(cfg:Cfg)(cf:Orac)(kf:KF α)(f:Nat)(rd:Option Nat)(bs:Nat)(k:KE α):List Ko->KE α
 |[]=>k
 | .seq c::s=>kSeq (λfr H=>zu (cfg.cut f (qn c)) fr H λfr H=>vM cfg cf kf f rd bs c fr H (kRun cfg cf kf f rd bs k s)) (kRun cfg cf kf f rd bs k s)
 | .block id::s=>x9 id (kRun cfg cf kf f rd bs k s)
 | .scope::s=>qkn (kRun cfg cf kf f rd bs k s)
def kRes(cfg:Cfg)(fr:List AV)(H:AH):List ResultVar->(List AV->Option α)->Option α
 |[],k=>k []
 | .tmp t::l,k=>kRes cfg fr H l λvs=>k (fr.getD t .junk::vs)
 | .cell a t::l,k=>
  match cfg.ty t with
  |some ti=>qkv ti.d.agg ti.sz H (fr.getD a .junk) λv=>kTy noTy cfg t v λv=>kRes cfg fr H l λvs=>k (v::vs)
  |none=>none
variable {α : Type} {r : α} {H : AH}
theorem qj{b:Bool}{x:Option α}(h:cond b x none=some r):b=true∧x=some r:=by cases b<;>simp_all
theorem qs9{b:Bool}{x:Option α}(h:cond b none x=some r):b=false∧x=some r:=by cases b<;>simp_all
theorem yh{b:Bool}{x y:Option α}(h:cond b x y=some r):(b=true∧x=some r)∨(b=false∧y=some r):=by cases b<;>simp_all
theorem qgC{a b:IntKind}(h:qat a b=true):a=b:=by simpa [qat]using h
theorem xa{a b:Int}:qe a b=true↔a<=b:=by simp[qe]
theorem qas{a b:Int}:qi a b=true↔a<b:=by simp[qi]
theorem qco{kd:IntKind}{v:AV}{k:Int->Option α}(h:kInt kd v k=some r):∃n,v= .int kd n∧k n=some r:=by
 unfold kInt at h;split at h
 ·obtain⟨h1,h2⟩:=qj h;rw[qgC h1];exact⟨_,rfl,h2⟩
 ·cases h
theorem qcR{v:AV}{k:Bool->Option α}(h:qJ v k=some r):∃b,v= .bool b∧k b=some r:=by
 unfold qJ at h;split at h
 ·exact⟨_,rfl,h⟩
 ·cases h
theorem qau{v:AV}{k:List UInt8->Option α}(h:kStr v k=some r):∃b,v= .str b∧k b=some r:=by
 unfold kStr at h;split at h
 ·exact⟨_,rfl,h⟩
 ·cases h
theorem qdQ{v:AV}{k:List AV->Option α}(h:kAgg v k=some r):∃b,v= .agg b∧k b=some r:=by
 unfold kAgg at h;split at h
 ·exact⟨_,rfl,h⟩
 ·cases h
theorem qx{β:Type}{o:Option β}{k:β->Option α}(h:kOpt o k=some r):∃b,o=some b∧k b=some r:=by
 unfold kOpt at h;split at h
 ·exact⟨_,rfl,h⟩
 ·cases h
theorem zI{l:List AV}{k:AV->List AV->Option α}(h:qf l k=some r):∃a b,l=a::b∧k a b=some r:=by
 unfold qf at h;split at h
 ·exact⟨_,_,rfl,h⟩
 ·cases h
theorem qdP{l:List AV}{x:Option α}(h:kNil l x=some r):l=[]∧x=some r:=by
 unfold kNil at h;split at h
 ·exact⟨rfl,h⟩
 ·cases h
theorem qec{s:FK}{v:AV}{k:KV α}(h:qaU s v k=some r):k v=some r:=by
 cases s with
 |int kd=>obtain⟨n,rfl,h1⟩:=qco h;exact h1
 |bool=>obtain⟨n,rfl,h1⟩:=qcR h;exact h1
 |str=>obtain⟨n,rfl,h1⟩:=qau h;exact h1
 |sl=>
  have h:kSl v (λrows=>k (.sl rows))=some r:=h;unfold kSl at h;split at h
  ·exact h
  ·cases h
 |any=>exact h
theorem qed:∀{ss:List FK} {l:List AV} {k:List AV->Option α},qbA ss l k=some r->k l=some r
 |[],l,k,h=>by
  obtain⟨rfl,h1⟩:=qdP h;exact h1
 |s::ss,l,k,h=>by
  obtain⟨a,b,rfl,h1⟩:=zI h;exact qed (k:=λvs=>k (a::vs)) (qec (k:=λv=>qbA ss b λvs=>k (v::vs)) h1)
theorem qsD{l0:List AV}{k:List AV->Option α}(h0:qbA [.int .i64,.int .i64,.str,.sl] l0 k=some r):qaB l0=true∧k l0=some r:=by
 refine⟨?_,qed h0⟩;simp only[qbA]at h0;obtain⟨a,l1,rfl,h1⟩:=zI h0;obtain⟨n,rfl,h2⟩:=qco (k:=λn=>qf l1 λc cs=>qaU (.int .i64) c λv=>qf cs λc cs=>qaU .str c λv1=>qf cs λc cs=>qaU .sl c λv2=>kNil cs (k [.int .i64 n,v,v1,v2])) h1;obtain⟨a,l2,rfl,h3⟩:=zI h2;obtain⟨m,rfl,h4⟩:=qco (k:=λm=>qf l2 λc cs=>qaU .str c λv1=>qf cs λc cs=>qaU .sl c λv2=>kNil cs (k [.int .i64 n,.int .i64 m,v1,v2])) h3
 obtain⟨a,l3,rfl,h5⟩:=zI h4;obtain⟨s,rfl,h6⟩:=qau (k:=λs=>qf l3 λc cs=>qaU .sl c λv2=>kNil cs (k [.int .i64 n,.int .i64 m,.str s,v2])) h5;obtain⟨a,l4,rfl,h7⟩:=zI h6;have h8:kSl a (λrows=>kNil l4 (k [.int .i64 n,.int .i64 m,.str s,.sl rows]))=some r:=h7;unfold kSl at h8;split at h8
 ·obtain⟨rfl,_⟩:=qdP h8;rfl
 ·cases h8
theorem qdN{p:TypeId->Bool}{cfg:Cfg}{t:TypeId}{v:AV}{k:KV α}(h:kTy1 p cfg t v k=some r):k v=some r:=by
 unfold kTy1 at h;have agg:∀{ss:List FK},(kAgg v λcs=>qbA ss cs λvs=>k (.agg vs))=some r->k v=some r:=by
  intro ss h;obtain⟨cs,rfl,h⟩:=qdQ h;exact qed (k:=λvs=>k (.agg vs)) h
 split at h
 ·split at h
  ·split at h
   ·exact agg h
   ·exact h
  ·split at h
   ·exact agg h
   ·exact h
  ·exact qec h
 ·exact h
theorem qmq{p:TypeId->Bool}{cfg:Cfg}:∀{ts:List TypeId} {l:List AV} {k:List AV->Option α},kTys p cfg ts l k=some r->k l=some r
 |[],l,k,h=>by
  rw[kTys]at h;obtain⟨h1,h2⟩:=qdP h;rw[h1];exact h2
 |t::ts,l,k,h=>by
  rw[kTys]at h;obtain⟨a,b,rfl,h⟩:=zI h;have h1:=qdN (k:=λv=>kTys p cfg ts b λvs=>k (v::vs)) h;exact qmq (k:=λvs=>k (a::vs)) h1
theorem vS{p:TypeId->Bool}{cfg:Cfg}{t:TypeId}{v:AV}{k:KV α}(h:kTy p cfg t v k=some r):k v=some r:=by
 unfold kTy at h;split at h
 ·unfold kTup at h;split at h
  ·exact qmq (k:=λvs=>k (.tup vs)) h
  ·cases h
 ·exact qdN h
theorem xZ{nid:Option Nat}{b:ABlk}{k:Nat->AH->Option α}(h:kNew nid H b k=some r):∃i H',aNew nid H b=some (i,H')∧k i H'=some r:=by
 unfold kNew at h;unfold aNew;cases nid with
 |none=>exact⟨_,_,rfl,h⟩
 |some i=>
  simp only at h⊢;obtain⟨x,hx,h⟩:=qx h;rw[hx];split at h
  ·exact⟨_,_,rfl,h⟩
  ·cases h
theorem qoU{v:AV}(h:v.isCell=true):v.cells=some [v]:=by cases v<;>simp_all [AV.isCell,AV.cells]
theorem qa6{agg:Bool}{v:AV}{k:List AV->Option α}(h:qbU agg v k=some r):∃cs,v.cells=some cs∧k cs=some r:=by
 unfold qbU at h;rcases yh h with⟨_,h⟩|⟨_,h⟩
 ·obtain⟨cs,rfl,h⟩:=qdQ h;obtain⟨h1,h2⟩:=qj h;exact⟨cs,by simp[AV.cells,h1],h2⟩
 ·obtain⟨h1,h2⟩:=qj h;exact⟨_,qoU h1,h2⟩
theorem qst{t:Bool}{a b:AV}{k:KV α}(h:qsu t a b k=some r):k (if t then a else b)=some r:=by
 have sp:∀{a b:AV},cond t (k a) (k b)=some r->k (if t then a else b)=some r:=by
  intro a b h;cases t<;>simpa using h
 unfold qsu at h;split at h
 ·cases t<;>simpa using h
 ·rcases yh h with⟨h1,h⟩|⟨_,h⟩
  ·have:=qgC h1;subst this;cases t<;>simpa using h
  ·exact sp h
 ·exact sp h
theorem qfg{place:Nat->Option (Nat×Nat×Bool)}{place':Nat->Option (Nat×Nat)}(hp:∀i off n g,place i=some (off,n,g)->place' i=some (off,n)):∀{parts:List (Nat×AV)} {cells:List AV} {k:List AV->Option α},
  qkz place cells parts k=some r->∃cs,qcf place' cells parts=some cs∧k cs=some r
 |[],cells,k,h=>⟨cells,rfl,h⟩
 |(i,v)::rest,cells,k,h=>by
  rw[qkz]at h;split at h
  ·rename_i off n g hi;obtain⟨cs,h1,h⟩:=qa6 h;obtain⟨h2,h⟩:=qj h;obtain⟨cs',h3,h4⟩:=qfg hp h;refine⟨cs',?_,h4⟩;rw[qAw]at h2;rw[qcf,hp _ _ _ _ hi,h1];simp only;rw[qBj]
   ·exact h3
   ·rw[qAw,beq_iff_eq];exact⟨qAC h2.1,h2.2⟩
  ·cases h
theorem qj4{cfg:Cfg}:∀{fs:List (Nat×TypeId)} {ps:List (Nat×Nat×Bool)},qhA cfg fs=some ps->∃qs,qaq cfg fs=some qs∧∀(i off n:Nat) (g:Bool),ps[i]? =some (off,n,g)->qs[i]? =some (off,n)
 |[],ps,h=>by cases h;exact⟨[],rfl,λi off n g h=>by simp at h⟩
 |(off,t)::l,ps,h=>by
  rw[qhA]at h;split at h
  ·rename_i n ps' h1 h2;cases h;obtain⟨qs,h3,h4⟩:=qj4 h2;refine⟨(off,n)::qs,by rw[qaq,h1,h3],λi o m g hi=>?_⟩;cases i with
   |zero=>simp at hi⊢;exact⟨hi.1,hi.2.1⟩
   |succ i=>simpa using h4 i o m g (by simpa using hi)
  ·cases h
theorem qkp{agg:Bool}{n:Nat}:∀{parts:List (Nat×AV)} {rows:List (List AV)} {k:List (List AV)->Option α},qnw agg n rows parts k=some r->∃rs,qbO n rows parts=some rs∧k rs=some r
 |[],rows,k,h=>⟨rows,rfl,h⟩
 |(i,v)::rest,rows,k,h=>by
  rw[qnw]at h;obtain⟨cs,h1,h⟩:=qa6 h;obtain⟨h2,h⟩:=qj h;obtain⟨rs,h3,h4⟩:=qkp h;refine⟨rs,?_,h4⟩;rw[qAw]at h2;rw[qbO,h1];simp only;rw[qBj]
  ·exact h3
  ·rw[qAw,beq_iff_eq];exact⟨qAC h2.1,h2.2⟩
theorem qav{id:Nat}{k:Nat->List (List AV)->Option α}(h:kBlk H id k=some r):∃sz rs,vr H id=some (sz,rs)∧k sz rs=some r:=by
 unfold kBlk at h;obtain⟨b,hb,h⟩:=qx h;unfold vr;rw[hb];split at h
 ·exact⟨_,_,rfl,h⟩
 ·exact⟨_,_,rfl,h⟩
 ·cases h
theorem qaH{g s:Bool}{v:AV}{k:KV α}(h:qhG g s H v k=some r):(∀ids,(∀id off len,v= .ms id off len->id∈ids)->s=false->k (cond g (v.frz1 ids H).fg1 (v.frz1 ids H))=some r)∧(s=true->k (cond g (v.snap1 H).fg1 (v.snap1 H))=some r):=by
 unfold qhG at h;split at h
 ·rename_i id off len;obtain⟨sz,rs,h1,h⟩:=qav h;rcases hc:(qAF (off+len) rs.length&&(xN H id||qQ 0 ((rs.drop off).take len)))with _|_
  ·rw[hc]at h;cases h
  ·rw[hc]at h;have h:k (.sl ((rs.drop off).take len))=some r:=h;have aux:∀ids:List Nat,id∈ids->(AV.ms id off len).frz1 ids H= .sl ((rs.drop off).take len):=by
    intro ids hi;simp only[AV.frz1,h1];rw[qBj];rw[Bool.and_assoc,hc,Bool.and_true];exact vT.2 hi
   refine⟨λids hi _=>?_,λ_=>?_⟩
   ·rw[aux ids (hi _ _ _ rfl)];cases g<;>exact h
   ·simp only[AV.snap1];rw[aux [id] (by simp)];cases g<;>exact h
 ·refine⟨λids _ _=>?_,λ_=>?_⟩<;>(cases g<;>exact h)
 ·refine⟨λids _ _=>?_,λ_=>?_⟩<;>(cases g<;>exact h)
 ·split at h
  ·refine⟨λids _ _=>?_,λ_=>?_⟩<;>(cases g<;>exact h)
  ·cases h
 ·rename_i id r' off;cases s with
  |false=>exact⟨λids _ _=>by cases g<;>exact h,λh=>by cases h⟩
  |true=>
   refine⟨λ_ _ h=>by(cases h),λ_=>?_⟩;obtain⟨sz,rs,h1,h⟩:=qav h;obtain⟨row,h2,h⟩:=qx h;obtain⟨h3,h⟩:=qj h;simp only[AV.snap1,h1,h2,qk7,h3,if_true];cases g<;>exact h
 ·rename_i id rows;cases s with
  |false=>exact⟨λids _ _=>by cases g<;>exact h,λh=>by cases h⟩
  |true=>
   refine⟨λ_ _ h=>by(cases h),λ_=>?_⟩;obtain⟨b,h1,h⟩:=qx h;split at h
   ·simp only[AV.snap1,h1];cases rows<;>cases g<;>exact h
   ·cases h
 ·rename_i hn1 hn2 hn4 hn6 hn3 hn5;refine⟨λids _ _=>?_,λ_=>?_⟩
  ·have:v.frz1 ids H=v:=by
    cases v<;>first|rfl|exact absurd rfl (hn1 _ _ _)
   rw[this];have:v.fg1=v:=by
    cases v<;>first|rfl|exact absurd rfl hn2|exact absurd rfl hn4|exact absurd rfl (hn6 _ _)
   rw[this];cases g<;>exact h
  ·have:v.snap1 H=v:=by
    cases v<;>first|rfl|exact absurd rfl (hn1 _ _ _)|exact absurd rfl (hn3 _ _ _)|exact absurd rfl (hn5 _ _)
   rw[this];have:v.fg1=v:=by
    cases v<;>first|rfl|exact absurd rfl hn2|exact absurd rfl hn4|exact absurd rfl (hn6 _ _)
   rw[this];cases g<;>exact h
theorem qcp{g:Bool}{ids:List Nat}:∀{l:List AV} {k:List AV->Option α},(∀v∈l,∀id off len,v= .ms id off len->id∈ids)->qa5 g false H l k=some r->k (l.map λv=>cond g (v.frz1 ids H).fg1 (v.frz1 ids H))=some r
 |[],k,_,h=>h
 |a::l,k,hi,h=>by
  rw[qa5]at h;have h1:=(qaH h).1 ids (hi a (by simp)) rfl;exact qcp (k:=λl=>k (cond g (a.frz1 ids H).fg1 (a.frz1 ids H)::l)) (λv hv=>hi v (by simp[hv])) h1
theorem qcP{g:Bool}:∀{l:List AV} {k:List AV->Option α},qa5 g true H l k=some r->k (l.map λv=>cond g (v.snap1 H).fg1 (v.snap1 H))=some r
 |[],k,h=>h
 |a::l,k,h=>by
  rw[qa5]at h;have h1:=(qaH h).2 rfl;exact qcP (k:=λl=>k (cond g (a.snap1 H).fg1 (a.snap1 H)::l)) h1
theorem qdK{l:List AV}{v:AV}(hv:v∈l){id off len:Nat}(h:v= .ms id off len):id∈l.flatMap AV.msId:=by
 subst h;exact List.mem_flatMap.2 ⟨_,hv,by simp[AV.msId]⟩
theorem qcq{v:AV}{k:KV α}(h:qb3 false H v k=some r):k (v.frz v.msIds H).fg=some r:=by
 unfold qb3 at h;split at h
 ·rename_i cs;have:=qcp (ids:=cs.flatMap AV.msId) (λv hv id off len e=>qdK hv e) h
  simpa [AV.frz,AV.fg,AV.msIds,Function.comp_def]using this
 ·rename_i cs;have:=qcp (k:=λcs=>k (.tup cs)) (ids:=cs.flatMap AV.msId) (λv hv id off len e=>qdK hv e) h
  simpa [AV.frz,AV.fg,AV.msIds,Function.comp_def]using this
 ·exact h
 ·rename_i h1 h2 h3;have h4:=(qaH h).1 v.msIds (λid off len e=>by subst e;simp[AV.msIds,AV.msId]) rfl;have e1:v.frz v.msIds H=v.frz1 v.msIds H:=by
   cases v<;>first|rfl|exact absurd rfl (h1 _)|exact absurd rfl (h2 _)
  have e2:(v.frz1 v.msIds H).fg=(v.frz1 v.msIds H).fg1:=by
   cases v<;>first|rfl|exact absurd rfl (h1 _)|exact absurd rfl (h2 _)|skip
   simp only[AV.frz1];split
   ·split<;>rfl
   ·rfl
  rw[e1,e2];exact h4
theorem qsw{v:AV}{k:KV α}(h:qb3 true H v k=some r):k (v.snap H).fg=some r:=by
 unfold qb3 at h;split at h
 ·rename_i cs;have:=qcP h
  simpa [AV.snap,AV.fg,Function.comp_def]using this
 ·exact h
 ·rename_i f a b;have h2:=qcP (k:=λa=>qa5 false true H b λb=>k (.fn f a b)) h;have h3:=qcP (k:=λb=>k (.fn f (a.map (AV.snap1 H)) b)) h2;exact h3
 ·rename_i h1 h2 h3;have h4:=(qaH h).2 rfl;have e1:v.snap H=v.snap1 H:=by
   cases v<;>first|rfl|exact absurd rfl (h1 _)|exact absurd rfl (h3 _ _ _)
  have e2:(v.snap1 H).fg=(v.snap1 H).fg1:=by
   cases v<;>first|rfl|exact absurd rfl (h1 _)|exact absurd rfl (h2 _)|skip
   ·simp only[AV.snap1,AV.frz1];split
    ·split<;>rfl
    ·rfl
   ·simp only[AV.snap1];split
    ·split<;>rfl
    ·rfl
   ·simp only[AV.snap1];split<;>rfl
  rw[e1,e2];exact h4
theorem qkD:∀{l:List AV} {k:List AV->Option α},qnC H l k=some r->k (l.map λa=>(a.snap H).fg)=some r
 |[],k,h=>h
 |a::l,k,h=>by
  rw[qnC]at h;have h1:=qsw h;exact qkD (k:=λl=>k ((a.snap H).fg::l)) h1
theorem qbC{id:Nat}{k:Bool->Nat->List (List AV)->Option α}(h:qfj H id k=some r):∃d sz rs,H[id]? =some (.rows d sz rs)∧k d sz rs=some r:=by
 unfold qfj at h;obtain⟨b,hb,h⟩:=qx h;split at h
 ·exact⟨_,_,_,hb,h⟩
 ·cases h
theorem za{agg:Bool}{n off:Nat}{cells:List AV}{k:KV α}(h:qb2 agg n cells off k=some r):
  ∃v,(if agg then(if qAF (off+n) cells.length then some (AV.agg ((cells.drop off).take n))else none)else cells[off]?)=some v∧k v=some r:=by
 unfold qb2 at h;rcases yh h with⟨rfl,h⟩|⟨rfl,h⟩
 ·obtain⟨h1,h2⟩:=qj h;exact⟨_,by simp[h1],h2⟩
 ·obtain⟨v,h1,h2⟩:=qx h;exact⟨v,by simp[h1],h2⟩
theorem qfc{agg:Bool}{n:Nat}{p:AV}{k:KV α}(h:qkv agg n H p k=some r):∃v,zO agg n H p=some v∧k v=some r:=by
 unfold qkv at h;unfold zO;split at h
 ·obtain⟨sz,rs,h1,h⟩:=qav h;obtain⟨row,h2,h⟩:=qx h;obtain⟨v,h3,h4⟩:=za h;exact⟨v,by simp only[h1,h2];exact h3,h4⟩
 ·obtain⟨v,h3,h4⟩:=za h;exact⟨v,h3,h4⟩
 ·obtain⟨v,h3,h4⟩:=za h;refine⟨v,?_,h4⟩;rw[←h3];simp only[qBe,List.map_take,List.map_drop,List.getElem?_map]
 ·obtain⟨b,h1,h⟩:=qx h;split at h
  ·obtain⟨v,h3,h4⟩:=za h;refine⟨v,?_,h4⟩;simp only[h1];rw[←h3];simp only[qBe,List.map_take,List.map_drop,List.getElem?_map]
  ·simp only[h1];rcases yh h with⟨ha,h⟩|⟨ha,h⟩
   ·obtain⟨h2,h⟩:=qj h;obtain⟨h3,h⟩:=qsD h;exact⟨_,by rw[qBj ha,qBj (by rw[h2,h3];rfl)],h⟩
   ·obtain⟨rows,h2,h⟩:=qx h;exact⟨_,by rw[qBk (by rw[ha];simp)];unfold qlD;rw[h2];rfl,h⟩
  ·cases h
 ·cases h
theorem qqp{agg:Bool}{n:Nat}{p v:AV}{k:AH->Option α}(h:qoE agg n H p v k=some r):∃H',zy n H p v=some H'∧k H'=some r:=by
 unfold qoE at h;unfold zy;split at h
 ·obtain⟨cs,h1,h⟩:=qa6 h;obtain⟨d,sz,rs,h2,h⟩:=qbC h;obtain⟨row,h3,h⟩:=qx h;obtain⟨h4,h⟩:=qj h;rw[qAw]at h4;refine⟨_,?_,h⟩;simp only[h1,h2,h3];rw[qBj];rw[qAw,beq_iff_eq];exact⟨qAC h4.1,h4.2⟩
 ·obtain⟨b,h1,h⟩:=qx h;split at h
  ·rcases yh h with⟨h4,h⟩|⟨h4,h⟩
   ·obtain⟨h2,h⟩:=qj h;refine⟨H,?_,h⟩;have h77:is77 v=true:=by rw[qAw]at h2;exact h2.2
    have hv:∃cs,v.cells=some cs:=by
     rcases qro h77 with rfl|rfl
     ·exact⟨_,rfl⟩
     ·exact⟨_,rfl⟩
    obtain⟨cs,hv⟩:=hv;simp only[hv,h1];rw[qBj (by rw[h4,qA9];exact h2)]
   ·obtain⟨h2,h⟩:=qj h;refine⟨H,?_,h⟩;have h99:qcZ v=true:=by rw[qAw]at h2;exact h2.2
    have hv:∃cs,v.cells=some cs:=by
     unfold qcZ at h99;split at h99
     ·exact⟨_,rfl⟩
     ·exact⟨_,rfl⟩
     ·cases h99
    obtain⟨cs,hv⟩:=hv;simp only[hv,h1];rw[qBk (by rw[h4];simp),qBj h2]
  ·cases h
 ·cases h
theorem qee{lo hi d:Nat}{x:Option AV}{k:Nat->Option α}(h:qgM lo hi x d k=some r):∃n,qbM lo hi x d=some n∧k n=some r:=by
 unfold qgM at h;unfold qbM;split at h
 ·exact⟨_,rfl,h⟩
 ·split at h
  ·obtain⟨h1,h⟩:=qj h;rw[qAw,xa,xa]at h1;exact⟨_,by simp only;rw[qBj h1],h⟩
  ·cases h
theorem qa4{n:Nat}{lo hi mx:Option AV}{k:Nat->Nat->Option α}(h:qbT n lo hi mx k=some r):∃l h',qbg n lo hi mx=some (l,h')∧k l h'=some r:=by
 unfold qbT at h;obtain⟨h0,h⟩:=qs9 h;obtain⟨a,h1,h⟩:=qee h;obtain⟨b,h2,h⟩:=qee h;obtain⟨c,h3,h⟩:=qee h;refine⟨c,a,?_,h⟩;unfold qbg;rw[qBk (by rw[h0];simp),h1];simp only[h2,h3]
theorem qqq{cfg:Cfg}{t:TypeId}{x:AV}{lo hi mx:Option AV}{k:KV α}(h:qoF cfg t H x lo hi mx k=some r):∃v,qbN cfg t H x lo hi mx=some v∧k v=some r:=by
 unfold qoF at h;unfold qbN;split at h
 ·rename_i ht;rw[ht];split at h
  ·split at h
   ·obtain⟨l,h',h1,h⟩:=qa4 h;exact⟨_,by simp only[h1],h⟩
   ·cases h
  ·cases h
 ·rename_i e ht;rw[ht];split at h
  ·rename_i n hn;split at h
   ·obtain⟨l,h',h1,h⟩:=qa4 h;exact⟨_,by simp only[hn,h1],h⟩
   ·rename_i rows;obtain⟨l,h',h1,h⟩:=qa4 h;obtain⟨h2,h⟩:=qj h;refine⟨slE (cfg.ems t) rows l h',by simp only[hn,h1,h2,if_true],?_⟩;split at h
    ·rename_i he;rw[he];exact h
    ·rename_i he;rw[he];exact h
   ·obtain⟨l,h',h1,h⟩:=qa4 h;obtain⟨sz,rs,h2,h⟩:=qav h;obtain⟨h3,hz⟩:=qj h;have:=qAC h3;subst this;exact⟨_,by simp[hn,h1,h2],hz⟩
   ·split at h
    ·split at h
     ·rename_i kd hh _;split at h
      ·obtain⟨h2,hz⟩:=qj h;rw[qAw,xa,xa]at h2;exact⟨_,by simp only[hn,AV.lenW];rw[qBj h2],hz⟩
      ·obtain⟨h2,hz⟩:=qj h;rw[qAw,xa,xa]at h2;exact⟨_,by simp only[hn,AV.lenW];rw[qBj h2],hz⟩
      ·cases h
     ·cases h
    ·cases h
   ·cases h
  ·cases h
 ·cases h
theorem qkw{cfg:Cfg}{t:TypeId}{x i:AV}{k:KV α}(h:qfd cfg t H x i k=some r):∃v,yO cfg t H x i=some v∧k v=some r:=by
 unfold qfd at h;unfold yO;split at h
 case h_2=>cases h
 rename_i kk i;split at h
 ·rename_i e ht;rw[ht];split at h
  case h_2=>cases h
  rename_i n hn;split at h
  ·obtain⟨sz,rs,h1,h⟩:=qav h;obtain⟨h2,hz⟩:=qj h;rw[qAw,qAw,xa,qas]at h2;have:=qAC h2.1.1;subst this;exact⟨_,by simp[hn,h1,h2.1.2,h2.2],hz⟩
  ·obtain⟨h2,h⟩:=qj h;rw[qAw,xa,qas]at h2;obtain⟨row,h3,h⟩:=qx h;obtain⟨h4,hz⟩:=qj h;refine⟨.cptr row 0,?_,hz⟩;have h5:=qAC h4;simp only[hn,qBj h2,h3];rw[qBj (by rw[h5];exact beq_self_eq_true n)]
  ·obtain⟨h2,h⟩:=qj h;rw[qAw,xa,qas]at h2;obtain⟨row,h3,h⟩:=qx h;obtain⟨h4,hz⟩:=qj h;refine⟨.lpt row 0,?_,hz⟩;have h5:=qAC h4;simp only[hn,qBj h2,h3];rw[qBj (by rw[h5];exact beq_self_eq_true n)]
  ·rename_i id rows;obtain⟨h2,h⟩:=qj h;rw[qAw,xa,qas]at h2;obtain⟨row,h3,h⟩:=qx h;obtain⟨h4,hz⟩:=qj h;refine⟨.rpt id row 0,?_,hz⟩;have h5:=qAC h4;simp only[hn,qBj h2,h3];rw[qBj (by rw[h5];exact beq_self_eq_true n)]
  ·cases h
 ·rename_i m e ht;rw[ht];split at h
  case h_2=>cases h
  rename_i n hn;split at h
  ·obtain⟨h2,h⟩:=qj h;rw[qAw,xa,qas]at h2;exact⟨_,by simp[hn,h2.1,h2.2],h⟩
  ·obtain⟨h2,h⟩:=qj h;rw[qAw,xa,qas]at h2;exact⟨_,by simp[hn,h2.1,h2.2],h⟩
  ·cases h
 ·cases h
theorem qwT{cfg:Cfg}{t:TypeId}{ti:TI}(h:cfg.ty t=some ti):cfg.sz t=some ti.sz∧cfg.td t=some ti.d:=by
 unfold Cfg.sz Cfg.td;rw[h];exact⟨rfl,rfl⟩
theorem qqu{cfg:Cfg}{t:TypeId}{x i:AV}{k:KV α}(h:qoP cfg t x i k=some r):∃v,qeJ cfg t x i=some v∧k v=some r:=by
 unfold qoP at h;unfold qeJ;split at h
 case h_2=>cases h
 rename_i kk i;split at h
 ·rename_i n e ht;rw[ht];split at h
  case h_2=>cases h
  rename_i ti hti;obtain⟨cs,rfl,h⟩:=qdQ h;obtain⟨h2,h⟩:=qj h;rw[qAw,xa,qas]at h2;obtain⟨v,h3,h⟩:=za h;refine⟨v,?_,h⟩;simp only[(qwT hti).1];rw[qBj h2];unfold qhM;rw[hti];exact h3
 ·rename_i ht;rw[ht];obtain⟨s,rfl,h⟩:=qau h;obtain⟨h2,h⟩:=qj h;rw[xa]at h2;obtain⟨b,h3,h⟩:=qx h;exact⟨_,by simp[h2,h3],h⟩
 ·cases h
theorem qqw{cfg:Cfg}{t:TypeId}{x:AV}{f:Nat}{k:KV α}(h:qoR cfg t x f k=some r):∃v,qeK cfg t x f=some v∧k v=some r:=by
 unfold qoR at h;unfold qeK;split at h
 case h_2=>cases h
 rename_i fs ht;rw[ht];split at h
 case h_2=>cases h
 rename_i off ft hf;split at h
 case h_2=>cases h
 rename_i ti hti;obtain⟨cs,rfl,h⟩:=qdQ h;obtain⟨v,h3,h⟩:=za h;refine⟨v,?_,h⟩;simp only[hf];unfold qhM;rw[hti];exact h3
theorem qkA{cfg:Cfg}{t:TypeId}{x:AV}{f:Nat}{k:KV α}(h:qfh cfg t x f k=some r):∃v,qaP cfg t x f=some v∧k v=some r:=by
 unfold qfh at h;unfold qaP;split at h
 case h_2=>cases h
 rename_i fs ht;rw[ht];simp only;split at h
 case h_2=>cases h
 rename_i off ft hf;simp only[hf];split at h
 case h_2=>cases h
 rename_i n hn;split at h
 ·exact⟨_,by simp only[hn],h⟩
 ·exact⟨_,by simp only[hn],h⟩
 ·exact⟨_,by simp only[hn],h⟩
 ·cases h
variable {α : Type} {r : α} {H : AH}
theorem qoG{n:Nat}{x:AV}{k:List (List AV)->Option α}(h:qlL H n x k=some r):∃rows,yG H n x=some rows∧k rows=some r:=by
 unfold qlL at h;unfold yG;split at h
 ·exact⟨_,rfl,h⟩
 ·exact⟨_,rfl,h⟩
 ·obtain⟨h1,hz⟩:=qj h;exact⟨_,by simp only[h1,if_true],hz⟩
 ·obtain⟨sz,rs,h1,h⟩:=qav h;obtain⟨h2,hz⟩:=qj h;rw[qAw]at h2;refine⟨_,?_,hz⟩;simp only[h1];rw[qBj];rw[qAw,beq_iff_eq];exact⟨qAC h2.1,h2.2⟩
 ·cases h
theorem qmr{b:Bool}{n:Nat}{x:AV}{k:List (List AV)->Option α}(h:kSrc b H n x k=some r):∃rows,yw H n x=some rows∧k rows=some r:=by
 unfold kSrc at h;rcases yh h with⟨_,h⟩|⟨_,h⟩
 ·obtain⟨s,rfl,h⟩:=qau h;obtain⟨h1,hz⟩:=qj h;exact⟨_,by simp only[yw,h1,if_true],hz⟩
 ·obtain⟨rows,h1,hz⟩:=qoG h;refine⟨rows,?_,hz⟩;unfold yw;split
  ·simp[yG]at h1
  ·exact h1
theorem qm2{cfg:Cfg}{nid:Option Nat}{s d:TypeId}{x:AV}{k:KH α}(h:qi4 cfg nid s d x H k=some r):∃v H',zl cfg nid s d x H=some (v,H')∧k v H'=some r:=by
 unfold qi4 at h;unfold zl;split at h
 ·rename_i hs hd;split at h
  ·exact⟨_,_,by simp only[hs,hd],h⟩
  ·cases h
 ·rename_i hs hd;obtain⟨b,rfl,hz⟩:=qau h;exact⟨_,_,by simp only[hs,hd],hz⟩
 ·rename_i e hs hd;split at h
  ·rename_i hte;obtain⟨b,rfl,h0⟩:=qau h;obtain⟨i,H',h1,hz⟩:=xZ h0;exact⟨_,_,by simp only[hs,hd,hte,h1],hz⟩
  ·cases h
 ·rename_i e hs hd;split at h
  ·rename_i hte;obtain⟨rows,h1,h⟩:=qx h;obtain⟨bs,h2,hz⟩:=qx h;refine⟨.str bs,H,?_,hz⟩;simp only[hs,hd];cases x<;>first|(simp only[hte,h1,h2];done)|(simp[yG]at h1)
  ·cases h
 ·cases h
theorem qoT{cfg:Cfg}{nid:Option Nat}{t xt:TypeId}{s x:AV}{k:KH α}(h:qlP cfg nid t xt s x H k=some r):∃v H',qbn cfg nid t xt s x H=some (v,H')∧k v H'=some r:=by
 unfold qlP at h;unfold qbn;split at h
 case h_2=>cases h
 rename_i e xd ht hxt;split at h
 case h_2=>cases h
 rename_i ei hei;obtain⟨h1,h⟩:=qj h;obtain⟨news,h2,h⟩:=qmr h;simp only[ht,hxt,hei,h1,if_true,h2];split at h
 ·rcases yh h with⟨h3,hz⟩|⟨h3,h⟩
  ·exact⟨_,_,by simp only[h3,if_true],hz⟩
  ·obtain⟨h4,h⟩:=qj h;obtain⟨i,H',h5,hz⟩:=xZ h;exact⟨_,_,by simp only[h3,qAK,if_false,h4,if_true,h5],hz⟩
 ·obtain⟨d,sz,rs,h3,h⟩:=qbC h;obtain⟨h4,h⟩:=qj h;obtain⟨i,H',h5,hz⟩:=xZ h;exact⟨_,_,by simp only[h3,h4,if_true,h5],hz⟩
 ·cases h
theorem quw{cfg:Cfg}{t:TypeId}{x:AV}{k:KV α}(h:kLen cfg t x H k=some r):∃v,aLen cfg t x H=some v∧k v=some r:=by
 unfold kLen at h;unfold aLen;split at h
 ·rename_i ht;obtain⟨s,rfl,hz⟩:=qau h;exact⟨_,by simp only[ht],hz⟩
 ·rename_i e ht;split at h
  ·exact⟨_,by simp only[ht],h⟩
  ·exact⟨_,by simp only[ht],h⟩
  ·exact⟨_,by simp only[ht],h⟩
  ·exact⟨_,by simp only[ht],h⟩
  ·exact⟨_,by simp only[ht],h⟩
  ·exact⟨_,by simp only[ht],h⟩
  ·cases h
 ·rename_i n e ht;exact⟨_,by simp only[ht],h⟩
 ·rename_i a b ht;split at h
  ·exact⟨_,by simp only[ht],h⟩
  ·obtain⟨b,h1,h⟩:=qx h;split at h
   ·exact⟨_,by simp only[ht,h1],h⟩
   ·cases h
  ·cases h
 ·cases h
theorem qku{cfg:Cfg}{nid:Option Nat}{t:TypeId}{l c:AV}{k:KH α}(h:qnx cfg nid t l c H k=some r):∃v H',qce cfg nid t l c H=some (v,H')∧k v H'=some r:=by
 unfold qnx at h;unfold qce;split at h
 case h_2=>cases h
 rename_i e ht;split at h
 case h_2=>cases h
 rename_i ei hei;obtain⟨h1,h⟩:=qj h;obtain⟨n,rfl,ha⟩:=qco h;obtain⟨m,rfl,hb⟩:=qco ha;obtain⟨h2,hd⟩:=qj hb;obtain⟨i,H',h3,hz⟩:=xZ hd;rw[qAw,qAw,qAw,xa,xa,xa,xa]at h2;exact⟨_,_,by simp only[ht,hei,h1,if_true];rw[qBj ⟨h2.1.1.1,h2.1.1.2,h2.1.2,h2.2⟩];simp only[h3],hz⟩
theorem qqt{cfg:Cfg}{nid:Option Nat}{t:TypeId}{l c:AV}{k:KH α}(h:qoL cfg nid t l c H k=some r):∃v H',qa0 cfg nid t l c H=some (v,H')∧k v H'=some r:=by
 unfold qoL at h;unfold qa0;split at h
 ·rename_i hw;rw[hw];exact qku h
 ·rename_i hw;rw[hw];split at h
  ·obtain⟨h1,h⟩:=qj h;obtain⟨v,H',h2,h⟩:=qku h;split at h
   ·refine⟨_,_,?_,h⟩;simp only;rw[qBj h1,h2];rfl
   ·cases h
  ·cases h
theorem quy{cfg:Cfg}{t:TypeId}{x:AV}{k:KV α}(h:kCap cfg t x k=some r):∃v,aCap cfg t x=some v∧k v=some r:=by
 unfold kCap at h;unfold aCap;split at h
 ·rename_i e ht;split at h
  ·split at h
   ·exact⟨_,by simp only[ht,AV.lenW,qAW],h⟩
   ·exact⟨_,by simp only[ht,AV.lenW,qAW],h⟩
   ·cases h
  ·cases h
 ·cases h
theorem qv3{v:AV}{k:Nat->List (List AV)->Option α}(h:kWr v k=some r):∃n rows,v= .wr n (.sl rows)∧k n rows=some r:=by
 unfold kWr at h;split at h
 ·exact⟨_,_,rfl,h⟩
 ·cases h
theorem qlM{v:AV}{k:KV α}{cfg:Cfg}{nid:Option Nat}{a:Operand}{ty:TypeId}{x:Operand->AV}(hx:x a=v)(h:qgI v k=some r):evOp cfg nid (.nilCheck a) ty x H=some (v,H)∧k v=some r:=by
 unfold qgI at h;simp only[evOp,hx];split at h<;>first|exact⟨rfl,h⟩|cases h
theorem qqy{cfg:Cfg}{t:TypeId}{x:AV}{k:AH->Option α}(h:qoS cfg t x H k=some r):∃H',qeL cfg t x H=some H'∧k H'=some r:=by
 unfold qoS at h;unfold qeL;split at h
 case h_2=>cases h
 rename_i e he;rw[he];split at h
 ·exact⟨H,rfl,h⟩
 ·rename_i id off len;split at h
  case h_2=>cases h
  rename_i ei hei;obtain⟨d,sz,rs,h1,h⟩:=qbC h;obtain⟨h2,hz⟩:=qj h;exact⟨_,by simp only[hei,h1,h2,if_true],hz⟩
 ·cases h
theorem qsA{cfg:Cfg}{t xt:TypeId}{d s:AV}{k:KH α}(h:qsB cfg t xt d s H k=some r):∃v H',qhN cfg t d s H=some (v,H')∧k v H'=some r:=by
 unfold qsB at h;unfold qhN;split at h
 case h_2=>cases h
 rename_i e he;rw[he];split at h
 case h_2=>cases h
 rename_i id off len;split at h
 case h_2=>cases h
 rename_i n hn;obtain⟨db,sz,rs,h1,h⟩:=qbC h;obtain⟨news,h2,h⟩:=qmr h;obtain⟨h3,hz⟩:=qj h;exact⟨_,_,by simp only[hn,h1,h2,h3,if_true],hz⟩
theorem qgJ{b:ABlk}{k:Bool->List (AV×AV)->Option α}(h:kMpB b k=some r):∃d es,b= .mp d es∧k d es=some r:=by
 unfold kMpB at h;split at h
 ·exact⟨_,_,rfl,h⟩
 ·cases h
theorem qqs{x:AV}{k:Bool->List (AV×AV)->Option α}(h:qoK H x k=some r):∃d es,qdL H x=some es∧k d es=some r:=by
 unfold qoK at h;split at h
 ·exact⟨_,_,rfl,h⟩
 ·obtain⟨b,h1,h⟩:=qx h;obtain⟨d,es,rfl,h⟩:=qgJ h;exact⟨d,es,by simp only[qdL,h1],h⟩
 ·cases h
theorem qiA{q:Option (Nat×AV)}{x:Option α}{y:Nat->AV->Option α}(h:qbz q x y=some r):(q=none∧x=some r)∨∃p,q=some p∧y p.1 p.2=some r:=by
 unfold qbz at h;split at h
 ·exact .inl ⟨rfl,h⟩
 ·exact .inr ⟨_,rfl,h⟩
theorem qoO{cfg:Cfg}{t:TypeId}{x key:AV}{ok:Bool}{k:KV α}(h:qlO cfg t x key ok H k=some r):∃v,qaO cfg t x key ok H=some v∧k v=some r:=by
 unfold qlO at h;split at h
 case h_2=>cases h
 rename_i kt et ht;split at h
 case h_2=>cases h
 rename_i d hd;obtain⟨df,es,h1,h⟩:=qqs h;obtain⟨h2,h⟩:=qj h;obtain⟨q,h3,h⟩:=qx h;rcases qiA h with⟨rfl,h⟩|⟨p,rfl,h⟩
 ·obtain⟨z,hz,h⟩:=qx h;exact⟨_,by simp only[qaO,ht,hd,h1,h2,if_true,h3,hz];cases ok<;>rfl,h⟩
 ·have h:=qdN (k:=λv=>k (cond ok (.tup [v,.bool true]) v)) h;exact⟨_,by simp only[qaO,ht,hd,h1,h2,if_true,h3];cases ok<;>rfl,h⟩
theorem qgK{cfg:Cfg}{t:TypeId}{m key v:AV}{k:AH->Option α}(h:qlN cfg t m key v H k=some r):∃H',qbm cfg t m key v H=some H'∧k H'=some r:=by
 unfold qlN at h;split at h
 case h_2=>cases h
 rename_i kt et ht;split at h
 case h_2=>cases h
 rename_i id;split at h
 case h_2=>cases h
 rename_i d hd;obtain⟨b,h1,h⟩:=qx h;obtain⟨d0,es,rfl,h⟩:=qgJ h;obtain⟨h2,h⟩:=qj h;obtain⟨q,h3,h⟩:=qx h;rcases qiA h with⟨rfl,h⟩|⟨p,rfl,h⟩
 ·exact⟨_,by simp only[qbm,ht,hd,h1,h2,if_true,h3],h⟩
 ·exact⟨_,by simp only[qbm,ht,hd,h1,h2,if_true,h3],h⟩
theorem qoI{cfg:Cfg}{nid:Option Nat}{o:Op}{ty:TypeId}{x:Operand->AV}{k:KH α}(h:kOp cfg nid o ty x H k=some r):∃v H',evOp cfg nid o ty x H=some (v,H')∧k v H'=some r:=by
 cases o with
 |move a=>exact⟨_,_,rfl,h⟩
 |assign a=>exact⟨_,_,rfl,h⟩
 |pick c a b=>
  simp only[kOp]at h;obtain⟨t,h1,h⟩:=qcR h;have:=qst (k:=λv=>k v H) h;exact⟨_,_,by simp only[evOp,h1],this⟩
 |alloc t=>
  simp only[kOp]at h;split at h
  ·rename_i ti hti;obtain⟨h1,h⟩:=qj h;obtain⟨i,H',h2,hz⟩:=xZ h;exact⟨_,_,by simp only[evOp,hti,h1,if_true,h2],hz⟩
  ·cases h
 |box t a=>
  simp only[kOp]at h;obtain⟨cs,h1,h⟩:=qa6 h;obtain⟨i,H',h2,hz⟩:=xZ h;exact⟨_,_,by simp only[evOp,h1,h2],hz⟩
 |build t parts=>
  simp only[kOp]at h;split at h
  case h_2=>cases h
  rename_i ti hti;obtain⟨h1,h⟩:=qj h;split at h
  ·rename_i fs hfs;split at h
   case h_2=>cases h
   rename_i ps hps;obtain⟨qs,h2,h3⟩:=qj4 hps;obtain⟨cs,h4,hz⟩:=qfg (place':=λi=>qs[i]?) (λi off n g hi=>h3 i off n g hi) h;exact⟨_,_,by simp only[evOp,hti,h1,if_true,hfs,h2,h4,qAW],hz⟩
  ·rename_i m e hfs;split at h
   case h_2=>cases h
   rename_i n hn;obtain⟨cs,h4,hz⟩:=qfg (place':=λi=>some (i*n,n)) (λi off m g hi=>by cases hi;rfl) h;exact⟨_,_,by simp only[evOp,hti,h1,if_true,hfs,hn,h4,qAW],hz⟩
  ·cases h
 |buildSlice t len parts=>
  simp only[kOp]at h;split at h
  case h_2=>cases h
  rename_i e ht;split at h
  case h_2=>cases h
  rename_i ei hei;obtain⟨h1,h⟩:=qj h;obtain⟨rows,h2,h⟩:=qkp h;obtain⟨i,H',h3,hz⟩:=xZ h;exact⟨_,_,by simp only[evOp,ht,hei,h1,if_true,h2,h3],hz⟩
 |load t a=>
  simp only[kOp]at h;split at h
  case h_2=>cases h
  rename_i ti hti;split at h
  ·rename_i cs off hx;obtain⟨v,h1,h⟩:=za h;have h2:=vS (k:=λv=>cond ti.d.agg (k v.lendA H) (k v.lend H)) h;rcases yh h2 with⟨ha,h2⟩|⟨ha,h2⟩
   ·rw[ha]at h1;simp only[if_true]at h1;split at h1
    ·rename_i hb;cases h1;refine⟨_,_,?_,h2⟩;simp only[evOp,hti,hx,zO,ha,if_true,hb,qAW,AV.lendA]
    ·cases h1
   ·rw[ha]at h1;simp only[qAK,if_false]at h1;refine⟨_,_,?_,h2⟩;simp only[evOp,hti,hx,zO,ha,qAK,if_false,h1,qAW]
  ·rename_i id cs off hx;obtain⟨b,hb0,h⟩:=qx h;split at h
   ·obtain⟨v,h1,h⟩:=za h;have h2:=vS (k:=λv=>cond ti.d.agg (k (v.regA id) H) (k (v.regn id) H)) h;rcases yh h2 with⟨ha,h2⟩|⟨ha,h2⟩
    ·rw[ha]at h1;simp only[if_true]at h1;split at h1
     ·rename_i hb;cases h1;refine⟨_,_,?_,h2⟩;simp only[evOp,hti,hx,zO,hb0,ha,if_true,hb,qAW,AV.regA]
     ·cases h1
    ·rw[ha]at h1;simp only[qAK,if_false]at h1;refine⟨_,_,?_,h2⟩;simp only[evOp,hti,hx,zO,hb0,ha,qAK,if_false,h1,qAW]
   ·obtain⟨v,h1,h⟩:=qfc h;exact⟨_,_,by simp only[evOp,hti,hx,h1,qAW],h⟩
  ·obtain⟨v,h1,h⟩:=qfc h;exact⟨_,_,by simp only[evOp,hti,h1,qAW],vS (k:=λv=>k v H) h⟩
 |store t a v=>
  simp only[kOp]at h;split at h
  case h_2=>cases h
  rename_i ti hti;obtain⟨H',h1,hz⟩:=qqp h;exact⟨_,_,by simp only[evOp,(qwT hti).1,h1,qAW],hz⟩
 |nilCheck a=>
  obtain⟨h1,h2⟩:=qlM (cfg:=cfg) (nid:=nid) (ty:=ty) (H:=H) (x:=x) (a:=a) (k:=λv=>k v H) rfl h;exact⟨_,_,h1,h2⟩
 |binOp op t a b yt=>
  simp only[kOp]at h;obtain⟨v,h1,h⟩:=qx h;exact⟨_,_,by simp only[evOp,h1,qAW],vS (k:=λv=>k v H) h⟩
 |unOp op t a=>
  simp only[kOp]at h;obtain⟨v,h1,h⟩:=qx h;exact⟨_,_,by simp only[evOp,h1,qAW],vS (k:=λv=>k v H) h⟩
 |convert s d a=>exact qm2 h
 |makeFunc f first caps=>exact⟨_,_,rfl,h⟩
 |makeSlice t l c=>exact qqt h
 |makeMap t r=>
  simp only[kOp]at h;unfold qoM at h;split at h
  case h_2=>cases h
  rename_i kt et ht;cases r with
  |none=>
   simp only[Option.map_none]at h;obtain⟨i,H',h1,hz⟩:=xZ h;exact⟨_,_,by simp only[evOp,ht,h1],hz⟩
  |some a=>
   simp only[qAW]at h;split at h
   ·rename_i hxa;obtain⟨i,H',h1,hz⟩:=xZ h;exact⟨_,_,by simp only[evOp,ht,hxa,h1],hz⟩
   ·cases h
 |lookup t a key ok=>
  simp only[kOp]at h;obtain⟨v,h1,hz⟩:=qoO h;exact⟨_,_,by simp only[evOp,h1,qAW],hz⟩
 |mapUpdate t m key v=>
  simp only[kOp]at h;obtain⟨H',h1,hz⟩:=qgK h;exact⟨_,_,by simp only[evOp,h1,qAW],hz⟩
 |insert t m key v=>
  simp only[kOp]at h;obtain⟨H',h1,hz⟩:=qgK h;exact⟨_,_,by simp only[evOp,h1,qAW],hz⟩
 |slice t a lo hi mx=>
  simp only[kOp]at h;obtain⟨v,h1,hz⟩:=qqq h;exact⟨_,_,by simp only[evOp,h1,qAW],hz⟩
 |fieldAddr t a f=>
  simp only[kOp]at h;obtain⟨v,h1,hz⟩:=qkA h;exact⟨_,_,by simp only[evOp,h1,qAW],hz⟩
 |field t a f=>
  simp only[kOp]at h;obtain⟨v,h1,h⟩:=qqw h;exact⟨_,_,by simp only[evOp,h1,qAW],vS (k:=λv=>k v H) h⟩
 |indexAddr t a i=>
  simp only[kOp]at h;obtain⟨v,h1,hz⟩:=qkw h;exact⟨_,_,by simp only[evOp,h1,qAW],hz⟩
 |index t a i=>
  simp only[kOp]at h;obtain⟨v,h1,h⟩:=qqu h;exact⟨_,_,by simp only[evOp,h1,qAW],vS (k:=λv=>k v H) h⟩
 |extract t i=>
  simp only[kOp]at h;split at h
  ·rename_i vs hvs;obtain⟨v,h1,h⟩:=qx h;exact⟨_,_,by simp only[evOp,hvs,h1,qAW],vS (k:=λv=>k v H) h⟩
  ·cases h
 |call c=>
  simp only[kOp]at h;obtain⟨callee,args,argTypes⟩:=c;simp only at h;simp only[evOp];split at h
  case h_2=>cases h
  generalize args.toList=al at *;generalize argTypes.toList=tl at *;split at h
  ·obtain⟨v,h1,hz⟩:=quw h;exact⟨_,_,by simp only[h1,qAW],hz⟩
  ·obtain⟨v,h1,hz⟩:=quy h;exact⟨_,_,by simp only[h1,qAW],hz⟩
  ·exact qoT h
  ·rename_i d s t xt;obtain⟨v,H',h1,hz⟩:=qsA h;exact⟨_,_,h1,hz⟩
  ·obtain⟨v,h1,hz⟩:=qqy h;exact⟨_,_,by simp only[h1,qAW],hz⟩
  ·obtain⟨v,h1,h⟩:=qx h;exact⟨_,_,by simp only[h1,qAW],vS (k:=λv=>k v H) h⟩
  ·obtain⟨v,h1,h⟩:=qx h;exact⟨_,_,by simp only[h1,qAW],vS (k:=λv=>k v H) h⟩
  ·cases h
 |_=>simp only[kOp]at h;cases h
def KfOk(cf:Orac)(kf:KF α):Prop:=∀t a H k r,kf t a H k=some r->∃q,cf t a H=some q∧k q=some r
theorem qfk{cf:Orac}{f:Nat}:∀{l:List AV} {k:Option α},qkE cf f l k=some r->z8 cf f l=some ()∧k=some r
 |[],_,h=>⟨rfl,h⟩
 |a::l,k,h=>by
  rw[qkE]at h;obtain⟨u,h1,h⟩:=qx h;obtain⟨h2,hz⟩:=qfk h;refine⟨?_,hz⟩;unfold EVz at h1;obtain⟨q,h3,h4⟩:=qAx.1 h1;rw[z8,h3];simp only[qAL,h4,h2]
theorem qlZ{a b:Bool}(h:beqB a b=true):a=b:=by cases a<;>cases b<;>first|rfl|cases h
theorem qeb{b:ABlk}{k:Bool->Nat->List (List AV)->Option α}(h:qE b k=some r):∃d n rs,b= .rows d n rs∧k d n rs=some r:=by
 unfold qE at h;split at h
 ·exact⟨_,_,_,rfl,h⟩
 ·cases h
theorem qiD{l:AH}{k:ABlk->AH->Option α}(h:qC l k=some r):∃a b,l=a::b∧k a b=some r:=by
 unfold qC at h;split at h
 ·exact⟨_,_,rfl,h⟩
 ·cases h
theorem qkt{l:AH}{x:Option α}(h:vL l x=some r):l=[]∧x=some r:=by
 unfold vL at h;split at h
 ·exact⟨rfl,h⟩
 ·cases h
theorem qiC{l:List (List AV)}{k:List AV->List (List AV)->Option α}(h:q7 l k=some r):∃a b,l=a::b∧k a b=some r:=by
 unfold q7 at h;split at h
 ·exact⟨_,_,rfl,h⟩
 ·cases h
theorem qks{l:List (List AV)}{x:Option α}(h:vw l x=some r):l=[]∧x=some r:=by
 unfold vw at h;split at h
 ·exact⟨rfl,h⟩
 ·cases h
theorem qut{s:BSh}{b:ABlk}{k:ABlk->Option α}(h:kShB s b k=some r):k b=some r:=by
 cases s with
 |row d cs=>
  obtain⟨d',n,rs,rfl,h⟩:=qeb h;obtain⟨h1,h⟩:=qj h;obtain⟨row,rest,rfl,h⟩:=qiC h;obtain⟨rfl,h⟩:=qks h;rw[qAw]at h1;rw[←qlZ h1.1,qAC h1.2];exact h
 |rows d sz=>
  obtain⟨d',n,rs,rfl,h⟩:=qeb h;obtain⟨h1,h⟩:=qj h;rw[qAw]at h1;rw[←qlZ h1.1,qAC h1.2];exact h
 |mp d=>
  obtain⟨d',es,rfl,h⟩:=qgJ h;obtain⟨h1,h⟩:=qj h;rw[←qlZ h1];exact h
theorem qmt:∀{ss:List BSh} {l:AH} {k:AH->Option α},kSh1 ss l k=some r->k l=some r
 |[],l,k,h=>by
  obtain⟨rfl,h⟩:=qkt h;exact h
 |s::ss,l,k,h=>by
  obtain⟨b,bs,rfl,h⟩:=qiD h;have h:=qut (k:=λb=>kSh1 ss bs λbs=>k (b::bs)) h;exact qmt (k:=λbs=>k (b::bs)) h
theorem qus{G:AH}{s:CSh}{c:AV}{k:KV α}(h:kShC G s c k=some r):k c=some r:=by
 cases s with
 |leaf s=>exact qec h
 |sl j=>
  simp only[kShC]at h;unfold kMsE at h;split at h
  case h_2=>cases h
  obtain⟨sz,rs,_,h⟩:=qav h;obtain⟨h1,h⟩:=qj h;rw[qAw,qAw]at h1;rw[qAC h1.1,qAC h1.2.1,qAC h1.2.2];exact h
 |mp j=>
  simp only[kShC]at h;unfold kMpE at h;split at h
  case h_2=>cases h
  obtain⟨h1,h⟩:=qj h;rw[qAC h1];exact h
 |ptr j=>
  simp only[kShC]at h;unfold qkq at h;split at h
  case h_2=>cases h
  obtain⟨h1,h⟩:=qj h;rw[qAw,qAw]at h1;rw[qAC h1.1,qAC h1.2.1,qAC h1.2.2];exact h
 |is v=>
  simp only[kShC]at h;obtain⟨h1,h⟩:=qj h;rw[AV.same_eq h1];exact h
theorem qkm{G:AH}:∀{ss:List CSh} {l:List AV} {k:List AV->Option α},qnv G ss l k=some r->k l=some r
 |[],l,k,h=>by
  obtain⟨rfl,h⟩:=qdP h;exact h
 |s::ss,l,k,h=>by
  obtain⟨c,cs,rfl,h⟩:=zI h;have h:=qus (k:=λv=>qnv G ss cs λvs=>k (v::vs)) h;exact qkm (k:=λvs=>k (c::vs)) h
theorem qur{G:AH}{s:BSh}{b:ABlk}{k:ABlk->Option α}(h:kShD G s b k=some r):k b=some r:=by
 cases s with
 |row d cs=>
  obtain⟨d',n,rs,rfl,h⟩:=qeb h;obtain⟨row,rest,rfl,h⟩:=qiC h;obtain⟨rfl,h⟩:=qks h;exact qkm (k:=λcs'=>k (.rows d' n [cs'])) h
 |rows d sz=>exact h
 |mp d=>exact h
theorem qms{G:AH}:∀{ss:List BSh} {l:AH} {k:AH->Option α},kSh2 G ss l k=some r->k l=some r
 |[],l,k,h=>by
  obtain⟨rfl,h⟩:=qkt h;exact h
 |s::ss,l,k,h=>by
  obtain⟨b,bs,rfl,h⟩:=qiD h;have h:=qur (k:=λb=>kSh2 G ss bs λbs=>k (b::bs)) h;exact qms (k:=λbs=>k (b::bs)) h
theorem quq{ss:List BSh}{l:AH}{k:AH->Option α}(h:kShp ss l k=some r):k l=some r:=
 qms (qmt (k:=λG=>kSh2 G ss G k) h)
theorem qb4{cfg:Cfg}{cf:Orac}{kf:KF α}(hkf:KfOk cf kf){nid:Option Nat}{ty:TypeId}{t:Tgt}{args:List AV}{k:KH α}(h:qbB cfg cf kf nid ty t args H k=some r):∃v H',vn cfg cf nid t args H=some (v,H')∧k v H'=some r:=by
 cases t with
 |y id=>
  simp only[qbB]at h;obtain⟨q,h1,h⟩:=hkf _ _ _ _ _ h;obtain⟨p,h2,h⟩:=qx h;exact⟨_,_,by simp only[vn,h1,qAL];exact h2,vS (k:=λv=>k v p.2) h⟩
 |f f=>
  simp only[qbB]at h;cases hm:cfg.mode f with
  |scal=>
   simp only[hm]at h;obtain⟨h1,h⟩:=qj (qkD h);split at h
   ·obtain⟨q,h5,h⟩:=hkf _ _ _ _ _ h;have h3:=vS (k:=λv=>cond v.scalar (k v H) none) h;obtain⟨h4,hz⟩:=qj h3;exact⟨q.1,H,by simp only[vn,hm,h1,if_true,h5,qAL,h4],hz⟩
   obtain⟨v,h2,h⟩:=qx h;have h3:=vS (k:=λv=>cond v.scalar (k v H) none) h;obtain⟨h4,hz⟩:=qj h3;unfold EVs at h2;obtain⟨q,h5,h6⟩:=qAD.1 h2;exact⟨v,H,by simp only[vn,hm,h1,if_true,h5,qAL,h6,h4],hz⟩
  |pfrz=>
   simp only[hm]at h;obtain⟨h1,h⟩:=qj h;split at h
   ·obtain⟨q,h5,h⟩:=hkf _ _ _ _ _ h;have h2:=qcq (k:=λv=>kTy qcT cfg ty v λv=>cond (v.refsLt 0) (k v H) none) h;have h3:=vS (k:=λv=>cond (v.refsLt 0) (k v H) none) h2;obtain⟨h4,hz⟩:=qj h3;exact⟨_,H,by simp only[vn,hm,h1,if_true,h5,qAL,h4],hz⟩
   obtain⟨v,h2,h⟩:=qx h;have h3:=vS (k:=λv=>cond (v.refsLt 0) (k v H) none) h;obtain⟨h4,hz⟩:=qj h3;unfold EVf at h2;obtain⟨q,h5,h6⟩:=qAD.1 h2;exact⟨v,H,by simp only[vn,hm,h1,if_true,h5,qAL,h6,h4],hz⟩
  |pown=>
   simp only[hm]at h;split at h
   ·rename_i t1 t2 _;obtain⟨h1,h⟩:=qj h;obtain⟨q,h2,h⟩:=qx h;obtain⟨p,h5,h6⟩:=qAx.1 h2;unfold qnp at h6;split at h6
    case h_2=>cases h6
    rename_i a sc hp;obtain⟨h7,h6⟩:=qj h6;split at h6
    case h_2=>cases h6
    rename_i o ho;cases h6;have h:=qdN (k:=λs=>kOwn o (k (.tup [.nilS,s]) H) λsz rs off len=>kNew nid H (.rows true sz rs) λi H'=>k (.tup [.ms i off len,s]) H') h;unfold ovOf at ho;split at ho
    ·rename_i hq;cases ho;refine⟨.tup [.nilS,(sc.frz sc.msIds p.2).fg],H,?_,h⟩;have hq:a= .nilS:=hq;simp only[vn,hm,h1,if_true,h5,qAL,qdi,hp,h7,hq,y4,AV.refsLt,qAW]
    ·rename_i id off len hq;split at ho
     case h_2=>cases ho
     rename_i sz rs hid;split at ho
     case isFalse=>cases ho
     rename_i hr;cases ho;simp only[kOwn]at h;obtain⟨i,H',h8,hz⟩:=xZ h;have hq:a= .ms id off len:=hq;refine⟨_,_,?_,hz⟩;simp only[vn,hm,h1,if_true,h5,qAL,qdi,hp,h7,hq,y4,hid,hr,h8,qAW]
    ·cases ho
   ·obtain⟨h1,h⟩:=qj h;have key:∃q o,cf (.f f) args []=some q∧ovOf q=some o∧(kOwn o (k .nilS H) λsz rs off len=>kNew nid H (.rows true sz rs) λi H'=>k (.ms i off len) H')=some r:=by
     split at h
     ·obtain⟨q,h5,h⟩:=hkf _ _ _ _ _ h;obtain⟨o,h6,h⟩:=qx h;exact⟨q,o,h5,h6,h⟩
     ·obtain⟨o,h2,h⟩:=qx h;unfold EVo at h2;obtain⟨q,h5,h6⟩:=qAx.1 h2;exact⟨q,o,h5,h6,h⟩
    obtain⟨q,o,h5,h6,h⟩:=key;unfold ovOf at h6;split at h6
    ·rename_i hq;cases h6;exact⟨.nilS,H,by simp only[vn,hm,h1,if_true,h5,qAL,qdi,y4,hq,AV.refsLt],h⟩
    ·rename_i id off len hq;split at h6
     case h_2=>cases h6
     rename_i sz rs hid;split at h6
     case isFalse=>cases h6
     rename_i hr;cases h6;simp only[kOwn]at h;obtain⟨i,H',h7,hz⟩:=xZ h;exact⟨_,_,by simp only[vn,hm,h1,if_true,h5,qAL,qdi,y4,hq,hid,hr,h7],hz⟩
    ·cases h6
  |inpl=>
   simp only[hm]at h;have res:∀(kd:Nat) (ik:IntKind) (id:Nat) (v:MV) (k:KV α),qny kd ik id v k=some r->k (v.av id)=some r:=by
    intro kd ik id v k h;unfold qny at h;split at h
    ·cases v<;>first|exact h|exact absurd h (by simp[qcn])
    ·cases v<;>first|exact h|exact absurd h (by simp[kMSl])
    ·cases v with
     |int q n=>
      obtain⟨h1,h2⟩:=qj h;rw[←qgC h1]at h2;exact h2
     |_=>exact absurd h (by simp[qnz])
    ·cases v<;>first|exact h|exact absurd h (by simp[qoN])
   split at h
   case h_2=>
    rename_i hids;obtain⟨h1,h⟩:=qj h;obtain⟨v1,h2,h⟩:=qx h;unfold EVu at h2;obtain⟨r1,h5,h6⟩:=qAx.1 h2;split at h6
    case isFalse=>cases h6
    rename_i hrf;have hav:r1.1=v1.av 0:=by
     unfold mvOf at h6;split at h6
     ·rename_i e;cases h6;rw[e];rfl
     ·rename_i e;cases h6;rw[e];rfl
     ·rename_i i off len e;rw[e]at hrf;simp[AV.refsLt,qBc]at hrf
     ·rename_i e;cases h6;rw[e];rfl
     ·rename_i e;cases h6;rw[e];rfl
     ·cases h6
    refine⟨v1.av 0,H,?_,res _ _ _ _ (λv=>k v H) h⟩;simp only[vn,hm,hids,h1,if_true,h5,qAL,hrf];rw[hav]
   rename_i id l hids;obtain⟨h1,h⟩:=qj h;obtain⟨b,h2,h⟩:=qx h;split at h
   case h_2=>cases h
   rename_i d sz rs;obtain⟨h3,h⟩:=qj h;obtain⟨q,h4,h⟩:=qx h;unfold EVm at h4;obtain⟨r1,h5,h6⟩:=qAx.1 h4;obtain⟨q1,h7,h8⟩:=qAx.1 h6;obtain⟨v1,h9,h10⟩:=qAD.1 h8;cases h10;have hav:q1.1.ren (λ_=>id)=v1.av id:=by
    unfold mvOf at h9;split at h9
    ·rename_i e;cases h9;rw[e];simp[AV.ren,renL,MV.av]
    ·rename_i e;cases h9;rw[e];simp[AV.ren,MV.av]
    ·rename_i i off len e;split at h9
     ·cases h9;rw[e];simp[AV.ren,MV.av]
     ·cases h9
    ·rename_i e;cases h9;rw[e];simp[AV.ren,MV.av]
    ·rename_i e;cases h9;rw[e];simp[AV.ren,MV.av]
    ·cases h9
   have hk:k (v1.av id) (H.set id (.rows true sz q1.2))=some r:=res _ _ _ _ (λv=>k v (H.set id (.rows true sz q1.2))) h;refine⟨v1.av id,_,?_,hk⟩;simp only[vn,hm,hids,h1,if_true,h2,h3,h5,qAL,h7,qAW,hav]
  |inpf=>
   simp only[hm]at h;split at h
   case h_2=>cases h
   rename_i id l hids;obtain⟨h1,h⟩:=qj h;obtain⟨b,h2,h⟩:=qx h;split at h
   case h_2=>cases h
   rename_i d sz rs;obtain⟨h3,h⟩:=qj h;obtain⟨q,h4,h⟩:=qx h;unfold EVd at h4;obtain⟨r1,h5,h6⟩:=qAx.1 h4;have hk:=vS (k:=λv=>k v (H.set id (.rows true sz q.2))) h;refine⟨q.1,_,?_,hk⟩;simp only[vn,hm,hids,h1,if_true,h2,h3,h5,qAL,h6,qAW]
  |slf=>
   simp only[hm]at h;split at h
   case h_2=>cases h
   rename_i id l hids;obtain⟨h1,h⟩:=qj h;obtain⟨b,h2,h⟩:=qx h;split at h
   case h_2=>cases h
   rename_i d sz rs;obtain⟨h3,h⟩:=qj h;obtain⟨q,h4,h⟩:=qx h;have h4:=qwJ h4;unfold EVx at h4;obtain⟨r1,h5,h6⟩:=qAx.1 h4;have hk:=vS (k:=λv=>k v (H.set id (.rows false sz (renR (λ_=>id) (renR (λ_=>0) rs))))) h;refine⟨q,_,?_,hk⟩;simp only[vn,hm,hids,h1,if_true,h2,h3,h5,qAL,h6,qAW]
  |wfrz=>
   simp only[hm]at h;obtain⟨h1,h⟩:=qj h;obtain⟨v,h2,h⟩:=qx h;unfold EVw at h2;obtain⟨q,h5,h6⟩:=qAD.1 h2;split at h
   ·obtain⟨n,rows,rfl,hz⟩:=qv3 h;exact⟨_,H,by simp only[vn,hm,h1,if_true,h5,qAL,h6];rfl,hz⟩
   ·have h3:=vS (k:=λv=>cond (v.refsLt 0) (k v H) none) h;obtain⟨h4,hz⟩:=qj h3;exact⟨v,H,by simp only[vn,hm,h1,if_true,h5,qAL,h6,h4],hz⟩
  |nfrz=>
   simp only[hm]at h;obtain⟨h1,h⟩:=qj h;obtain⟨V,h2,h⟩:=qx h;have h3:=vS (k:=λV=>k V.lendT H) h;unfold EVn at h2;obtain⟨q,h5,h6⟩:=qAx.1 h2;exact⟨_,_,by simp only[vn,hm,h1,if_true,h5,qAL,h6,qAW],h3⟩
  |rgn=>
   simp only[hm]at h;obtain⟨h1,h⟩:=qj h;obtain⟨V,h2,h⟩:=qx h;have h3:=vS (k:=λV=>kNew nid H .reg λi H'=>k (rgIn i V) H') h;obtain⟨i,H',h4,hz⟩:=xZ h3;unfold EVg at h2;obtain⟨q,h5,h6⟩:=qAx.1 h2;exact⟨_,_,by simp only[vn,hm,h1,if_true,h5,qAL,h6,h4,qAW],hz⟩
  |over=>
   simp only[hm]at h;split at h
   case h_2=>cases h
   rename_i a;split at h
   case h_2=>cases h
   rename_i id l hids;obtain⟨h1,h⟩:=qj h;obtain⟨b,h2,h⟩:=qx h;split at h
   ·obtain⟨h3,hz⟩:=qfk h;exact⟨_,_,by simp only[vn,hm,hids,h1,if_true,h2,h3,qAW],hz⟩
   ·obtain⟨h3,hz⟩:=qfk h;exact⟨_,_,by simp only[vn,hm,hids,h1,if_true,h2,h3,qAW],hz⟩
   ·cases h
  |imp=>
   simp only[hm]at h;obtain⟨q,h1,h⟩:=hkf _ _ _ _ _ h;obtain⟨p,h2,h⟩:=qx h;exact⟨_,_,by simp only[vn,hm,h1,qAL];exact h2,vS (k:=λv=>k v p.2) h⟩
  |obj=>
   simp only[hm]at h;obtain⟨s,h0,h⟩:=qx h;obtain⟨hk,h⟩:=qj h;obtain⟨q,h1,h⟩:=qx h;have h:=quq h;obtain⟨p2,h3,h⟩:=qx h;unfold EVj at h1;obtain⟨q0,h4,h5⟩:=qAx.1 h1;exact⟨_,_,by simp only[vn,hm,h0,hk,if_true,h4,h5,h3,qAL,qAW],vS (k:=λv=>k ((v.ren (yr (objK (cfg.okeep f) (renL (vB 0 s.1) args)) s.1.length)).ren (yv (s.1++p2.1))) (zR p2.2 (s.1++p2.1) (yf (objK (cfg.okeep f) (renL (vB 0 s.1) args)) s.1.length q.2))) h⟩
theorem qsE{cfg:Cfg}{cf:Orac}{kf:KF α}(hkf:KfOk cf kf){nid:Option Nat}{ty:TypeId}{t:Tgt}{args:List AV}{k:KH α}(h:qkC cfg cf kf nid ty t args H k=some r):∃v H',xr cfg cf nid t args H=some (v,H')∧k v H'=some r:=by
 unfold qkC at h;unfold xr;cases hn:zU cfg t args with
 |none=>rw[hn]at h;exact qb4 hkf h
 |some n=>
  rw[hn]at h;simp only at h;cases n with
  |zero=>
   have h:(qbB cfg cf kf nid ty t [.nilS] H λv H1=>qbB cfg cf kf nid ty t [.em] H λv2 H2=>kEqR (v,H1) (v2,H2) (k v H1))=some r:=h;obtain⟨v,H1,h1,h⟩:=qb4 hkf h;obtain⟨v2,H2,h2,h⟩:=qb4 hkf h;unfold kEqR at h;split at h
   case isFalse=>cases h
   rename_i he;exact⟨v,H1,by simp only[h1,h2,he,qpc,if_true],h⟩
  |succ n=>exact qb4 hkf h
theorem qup{f:AV}{args:List AV}{k:Tgt->List AV->Option α}(h:kTgt f args k=some r):∃t,y7 f args=some t∧k t.1 t.2=some r:=by
 unfold kTgt at h;unfold y7;split at h
 ·exact⟨_,rfl,h⟩
 ·exact⟨_,rfl,h⟩
 ·cases h
theorem qux{ids:List Nat}{v:AV}{k:KV α}(hi:∀id∈v.msIds,id∈ids)(h:qsv H v k=some r):k (v.frz ids H)=some r:=by
 unfold qsv at h;split at h
 ·rename_i cs;have:=qcp (ids:=ids) (λv hv id off len e=>hi id (qdK hv e)) h
  simpa [AV.frz,Function.comp_def]using this
 ·rename_i cs;have:=qcp (k:=λcs=>k (.tup cs)) (ids:=ids) (λv hv id off len e=>hi id (qdK hv e)) h
  simpa [AV.frz,Function.comp_def]using this
 ·rename_i h1 h2;have h4:=(qaH h).1 ids (λid off len e=>hi id (by subst e;simp[AV.msIds,AV.msId])) rfl;have e1:v.frz ids H=v.frz1 ids H:=by
   cases v<;>first|rfl|exact absurd rfl (h1 _)|exact absurd rfl (h2 _)
  rw[e1];exact h4
theorem qfe{ids:List Nat}:∀{l:List AV} {k:List AV->Option α},(∀v∈l,∀id∈v.msIds,id∈ids)->qgL H l k=some r->k (l.map λv=>v.frz ids H)=some r
 |[],k,_,h=>h
 |a::l,k,hi,h=>by
  rw[qgL]at h;have h1:=qux (ids:=ids) (hi a (by simp)) h;exact qfe (k:=λl=>k (a.frz ids H::l)) (λv hv=>hi v (by simp[hv])) h1
theorem qxn{a b:Operand}(h:opEq a b=true):a=b:=by
 cases a<;>cases b<;>simp_all [opEq]
theorem qrp{y:Operand->AV}(a:Operand):∀l:List Operand,frzX l (l.map y) y a=y a
 |[]=>rfl
 |b::l=>by
  rw[qBf,frzX];cases hb:opEq b a with
  |true=>rw[cond_true,qxn hb]
  |false=>rw[cond_false];exact qrp a l
theorem qkx{cfg:Cfg}{nid:Option Nat}{o:Oper}{x:Operand->AV}{k:KH α}(h:qnA cfg nid o x H k=some r):
  kOp cfg nid o.op o.type (λa=>(x a).frz (o.op.operands.toList.flatMap λa=>(x a).msIds) H) (q4 (o.op.operands.toList.flatMap λa=>(x a).msIds) H) k=some r:=by
 unfold qnA at h;have h1:=qfe (ids:=o.op.operands.toList.flatMap λa=>(x a).msIds) (λv hv id hid=>by
  obtain⟨a,ha,rfl⟩:=List.mem_map.1 hv;exact List.mem_flatMap.2 ⟨a,ha,hid⟩) h
 rw[List.map_map]at h1;have e:frzX o.op.operands.toList (o.op.operands.toList.map ((λv=>v.frz (o.op.operands.toList.flatMap λa=>(x a).msIds) H)∘x)) (λa=>(x a).frz (o.op.operands.toList.flatMap λa=>(x a).msIds) H)=λa=>(x a).frz (o.op.operands.toList.flatMap λa=>(x a).msIds) H:=funext λa=>qrp a _
 rw[e]at h1;exact h1
theorem qfb{cfg:Cfg}{cf:Orac}{kf:KF α}(hkf:KfOk cf kf){frz:Bool}{nid:Option Nat}{o:Oper}{x:Operand->AV}{k:KH α}(h:qkr cfg cf kf frz nid o x H k=some r):∃v H',vD cfg cf frz nid o x H=some (v,H')∧k v H'=some r:=by
 have core:∀{x:Operand->AV} {H:AH},(match o.op with
   | .call c=>
    match c.callee with
    | .value f=>kTgt (x f) (c.args.toList.map x) λt al=>qkC cfg cf kf nid o.type t al H k
    |_=>kOp cfg nid o.op o.type x H k
   |_=>kOp cfg nid o.op o.type x H k)=some r->∃v H',(match o.op with
    | .call c=>
     match c.callee with
     | .value f=>(y7 (x f) (c.args.toList.map x)).bind λt=>xr cfg cf nid t.1 t.2 H
     |_=>evOp cfg nid o.op o.type x H
    |_=>evOp cfg nid o.op o.type x H)=some (v,H')∧k v H'=some r:=by
  intro x H h;cases ho:o.op with
  |call c=>
   simp only[ho]at h⊢;cases hc:c.callee with
   |value f=>
    simp only[hc]at h⊢;obtain⟨t,h1,h⟩:=qup h;obtain⟨v,H',h2,hz⟩:=qsE hkf h;exact⟨v,H',by rw[h1];exact h2,hz⟩
   |_=>simp only[hc]at h⊢;exact qoI h
  |_=>simp only[ho]at h⊢;exact qoI h
 unfold qkr at h;unfold vD;cases frz with
 |true=>
  simp only[cond_true]at h;simp only[if_true];refine core (x:=λa=>(x a).frz (o.op.operands.toList.flatMap λa=>(x a).msIds) H) (H:=q4 (o.op.operands.toList.flatMap λa=>(x a).msIds) H) ?_;cases ho:o.op with
  |call c=>
   simp only[ho]at h⊢;cases hc:c.callee with
   |value f=>
    simp only[hc]at h⊢;have h1:=qfe (ids:=(Op.call c).operands.toList.flatMap λa=>(x a).msIds) (λv hv id hid=>by
     obtain⟨a,ha,rfl⟩:=List.mem_map.1 hv;refine List.mem_flatMap.2 ⟨a,?_,hid⟩;simp[Op.operands,Call.operands,hc,Array.mem_toList_iff.1 ha]) h
    rw[List.map_map]at h1;exact h1
   |_=>simp only[hc]at h⊢;have h:=qkx h;rw[ho]at h;exact h
  |_=>simp only[ho]at h⊢;have h:=qkx h;rw[ho]at h;exact h
 |false=>simp only[cond_false]at h;simp only[qAK,if_false];exact core h
theorem qiU{fr:List AV}{d:Nat}{v:AV}(h:fr[d]? =some v):fr.set d v=fr:=by
 obtain⟨hl,e⟩:=qAy.1 h;rw[←e];exact List.set_getElem_self hl
theorem qdn{ops:Array Oper}{fr:List AV}{o:Oper}{k:Bool->List AV->Option α}(h:qez ops fr o k=some r):∃b,xD ops fr o=some b∧k b fr=some r:=by
 unfold qez at h;unfold xD;split at h
 ·rename_i hg;rw[hg];exact⟨true,rfl,h⟩
 ·rename_i j want hg;rw[hg];simp only;split at h
  ·rename_i d hd;rw[hd];simp only;obtain⟨v,h1,h⟩:=qx h;rw[h1];split at h
   ·split at h
    ·exact⟨false,rfl,h⟩
    ·cases h
   ·obtain⟨b,rfl,h⟩:=qcR h;simp only;refine⟨_,rfl,?_⟩;rcases yh h with⟨rfl,h⟩|⟨rfl,h⟩
    ·rw[qiU h1]at h;cases want<;>exact h
    ·rw[qiU h1]at h;cases want<;>exact h
  ·cases h
theorem qgE{cfg:Cfg}{cf:Orac}{kf:KF α}(hkf:KfOk cf kf){f rid:Nat}{ops:Array Oper}:∀{l:List Oper} {n:Nat} {fr:List AV} {H:AH} {k:List AV->AH->Option α},kOps cfg cf kf f rid ops n l fr H k=some r->∃q,zn cfg cf f rid ops n l fr H=some q∧k q.1 q.2=some r
 |[],n,fr,H,k,h=>⟨(fr,H),rfl,h⟩
 |o::l,n,fr,H,k,h=>by
  rw[kOps]at h;obtain⟨b,h1,h⟩:=qdn h;rw[zn,h1];simp only[qAL];rcases yh h with⟨rfl,h⟩|⟨rfl,h⟩
  ·obtain⟨v,H',h2,h⟩:=qfb hkf h;simp only[if_true,h2,qAL];exact qgE hkf h
  ·simp only[qAK,if_false];exact qgE hkf h
theorem qfi{cfg:Cfg}{cf:Orac}{kf:KF α}(hkf:KfOk cf kf){f rid:Nat}{ops:Array Oper}:∀{l:List Oper} {n at_:Nat} {fr:List AV} {H:AH} {k:List DR->List AV->AH->Option α},qkB cfg cf kf f rid ops n at_ l fr H k=some r ->
  ∃q,ya cfg cf f rid ops n at_ l fr H=some q∧k q.1 q.2.1 q.2.2=some r
 |[],n,at_,fr,H,k,h=>⟨([],fr,H),rfl,h⟩
 |o::l,n,at_,fr,H,k,h=>by
  rw[qkB]at h;obtain⟨b,h1,h⟩:=qdn h;rw[ya,h1];simp only[qAL];rcases yh h with⟨rfl,h9⟩|⟨rfl,h9⟩
  ·obtain⟨v,H',h2,h8⟩:=qfb hkf h9;simp only[if_true,h2,qAL];obtain⟨q,h3,hz⟩:=qfi hkf h8;exact⟨_,by rw[h3];rfl,hz⟩
  ·simp only[qAK,if_false];obtain⟨q,h3,hz⟩:=qfi hkf h9;exact⟨_,by rw[h3];rfl,hz⟩
theorem qkk{fr:List AV}{c:Operand}{b:Bool}(h:opd fr c= .bool b):known fr c b=fr:=by
 cases c with
 |tmp d=>
  simp only[known];have hg:fr[d]? =some (.bool b):=by
   have h':fr.getD d .junk= .bool b:=h;rw[List.getD_eq_getElem?_getD]at h';cases hd:fr[d]? with
   |none=>rw[hd]at h';cases h'
   |some v=>rw[hd]at h';simp at h';rw[h']
  exact qiU hg
 |_=>rfl
theorem qgD{cfg:Cfg}{cf:Orac}{kf:KF α}(hkf:KfOk cf kf){f rid:Nat}{ops:Array Oper}:∀{l:List (Nat×Oper)} {fr:List AV} {H:AH} {k:List AV->AH->Option α},kOrd cfg cf kf f rid ops l fr H k=some r->∃q,qcb cfg cf f rid ops l fr H=some q∧k q.1 q.2=some r
 |[],fr,H,k,h=>⟨(fr,H),rfl,h⟩
 |p::l,fr,H,k,h=>by
  rw[kOrd]at h;obtain⟨b,h1,h⟩:=qdn h;rw[qcb,qcu,h1];simp only[qAL];rcases yh h with⟨rfl,h⟩|⟨rfl,h⟩
  ·obtain⟨v,H',h2,h⟩:=qfb hkf h;simp only[if_true,h2,qAW,qAL];exact qgD hkf h
  ·simp only[qAK,if_false,qAL];exact qgD hkf h
theorem qko{β:Type}{F:β->KE α->Option α}{E:β->Option (List AV×AH)}{G:List AV->AH->Option (Ex×List AV×AH)}(hF:∀o (k:KE α),F o k=some r->∃p q,E o=some p∧G p.1 p.2=some q∧k q.1 q.2.1 q.2.2=some r){g:Ex->List AV->AH->Ex×List AV×AH}{z:Ex×List AV×AH}{x:Option α}:∀{l:List β},qss F g z l x=some r->∃L,l.map E=L.map some∧zx (λfr H=>(G fr H).map λq=>g q.1 q.2.1 q.2.2) z L=true∧x=some r
 |[],h=>⟨[],rfl,rfl,h⟩
 |o::l,h=>by
  obtain⟨p,q,h0,h1,h2⟩:=hF _ _ h;unfold kEqR at h2;split at h2
  case isFalse=>cases h2
  rename_i he;obtain⟨L,h3,h4,h5⟩:=qko hF h2;refine⟨p::L,by rw[qBf,qBf,h0,h3],?_,h5⟩;simp only[zx,h1,qAW,←he,qpc,Bool.or_true,h4,qAM]
theorem qsC{β:Type}{F:β->KE α->Option α}{E:β->Option (List AV×AH)}{G:List AV->AH->Option (Ex×List AV×AH)}(hF:∀o (k:KE α),F o k=some r->∃p q,E o=some p∧G p.1 p.2=some q∧k q.1 q.2.1 q.2.2=some r){g:Ex->List AV->AH->Ex×List AV×AH}{k:KE α}{O:List β}(h:qwZ F g k O=some r):
  ∃L q,O.map E=L.map some∧zZ (λfr H=>(G fr H).map λq=>g q.1 q.2.1 q.2.2) L=some q∧k q.1 q.2.1 q.2.2=some r:=by
 cases O with
 |nil=>cases h
 |cons o l=>
  obtain⟨p,q,h0,h1,h2⟩:=hF _ _ h;obtain⟨L,h3,h4,h5⟩:=qko hF h2;refine⟨p::L,g q.1 q.2.1 q.2.2,by rw[qBf,qBf,h0,h3],?_,h5⟩;simp only[zZ,h1,qAW,qAL,h4,if_true]
theorem qmy{cfg:Cfg}{cf:Orac}{f rid:Nat}{ops:Array Oper}{fr:List AV}{H:AH}:∀{O:List (List (Nat×Oper))} {L:List (List AV×AH)},O.map (λo=>qcb cfg cf f rid ops o fr H)=L.map some->yX cfg cf f rid ops O fr H=some L
 |[],[],_=>rfl
 |[],_::_,h=>by cases h
 |_::_,[],h=>by cases h
 |o::O,q::L,h=>by
  rw[qBf,qBf,List.cons.injEq]at h;simp only[yX,h.1,qAL,qmy h.2,qAW]
theorem qcQ{cfg:Cfg}{cf:Orac}{kf:KF α}(hkf:KfOk cf kf){f:Nat}{rd:Option Nat}{bs:Nat}:∀(c:Code) {fr:List AV} {H:AH} {k:KE α},vM cfg cf kf f rd bs c fr H k=some r->∃q,evC cfg cf f rd bs c fr H=some q∧k q.1 q.2.1 q.2.2=some r:=by
 intro c
 induction c with
 |skip=>intro fr H k h;exact⟨(.normal,fr,H),by simp only[evC],by simpa only[vM]using h⟩
 |label l=>intro fr H k h;exact⟨(.normal,fr,H),by simp only[evC],by simpa only[vM]using h⟩
 |exit id=>intro fr H k h;exact⟨(.exit id,fr,H),by simp only[evC],by simpa only[vM]using h⟩
 |ret=>intro fr H k h;exact⟨(.ret,fr,H),by simp only[evC],by simpa only[vM]using h⟩
 |goto l=>intro fr H k h;simp only[vM]at h;cases h
 |refuse s=>intro fr H k h;simp only[vM]at h;cases h
 |region id ops draw=>
  intro fr H k h;simp only[vM]at h;simp only[evC];cases draw with
  |true=>
   simp only[cond_true]at h;simp only[if_true];obtain⟨h1,h⟩:=qj h;obtain⟨q,h2,h⟩:=qfi hkf h;obtain⟨h3,hz⟩:=qj h;exact⟨(.normal,q.2),by simp only[h1,if_true,h2,qAL,h3],hz⟩
  |false=>
   simp only[cond_false]at h;simp only[qAK,if_false];obtain⟨q,h2,hz⟩:=qgE hkf h;exact⟨(.normal,q),by simp only[h2,qAW],hz⟩
 |seq x y ihx ihy=>
  intro fr H k h;simp only[vM]at h;simp only[evC];cases hco:qcx x with
  |some p=>
   rw[hco]at h;simp only at h⊢;split at h
   case h_2=>cases h
   rename_i O hO;obtain⟨L,q,h0,hq1,hq2⟩:=qsC (E:=λo=>qcb cfg cf f p.1 p.2 o fr H) (G:=λfr H=>evC cfg cf f rd bs y (vR (cfg.cut f (qn y)) fr) H) (λo k h=>by
    obtain⟨p',g1,g2⟩:=qgD hkf h;obtain⟨q',g3,g4⟩:=ihy g2;exact⟨p',q',g1,g3,g4⟩) h
   exact⟨q,by rw[qkZ _ _ hO (qmy h0)];exact hq1,hq2⟩
  |none=>?_
  rw[hco]at h;simp only at h⊢;obtain⟨q,h1,h⟩:=ihx h;rw[h1];simp only[qAL];unfold kSeq at h;cases hq:q.1 with
  |normal=>simp only[hq]at h⊢;exact ihy (qqx h)
  |exit id=>simp only[hq]at h⊢;exact⟨_,rfl,h⟩
  |goto l=>simp only[hq]at h⊢;exact⟨_,rfl,h⟩
  |ret=>simp only[hq]at h⊢;exact⟨_,rfl,h⟩
 |cond cnd x y ihx ihy=>
  intro fr H k h;simp only[vM]at h;simp only[evC];obtain⟨b,h1,h⟩:=qcR h;rw[h1];simp only;rcases yh h with⟨rfl,h⟩|⟨rfl,h⟩
  ·rw[qkk h1]at h;simp only[if_true];exact ihx h
  ·rw[qkk h1]at h;simp only[qAK,if_false];exact ihy h
 |block id x ih=>
  intro fr H k h;simp only[vM]at h;simp only[evC];obtain⟨q,h1,h⟩:=ih h;rw[h1];simp only[qAL];unfold x9 at h;cases hq:q.1 with
  |normal=>simp only[hq]at h⊢;exact⟨_,rfl,by rw[hq];exact h⟩
  |exit id'=>
   simp only[hq]at h⊢;rcases yh h with⟨h2,hz⟩|⟨h2,hz⟩
   ·exact⟨_,by simp only[h2,if_true];rfl,hz⟩
   ·exact⟨q,by simp only[h2,qAK,if_false],by rw[hq];exact hz⟩
  |goto l=>simp only[hq]at h⊢;exact⟨_,rfl,by rw[hq];exact h⟩
  |ret=>simp only[hq]at h⊢;exact⟨_,rfl,by rw[hq];exact h⟩
 |loop x ih=>
  intro fr H k h;simp only[vM]at h;simp only[evC];obtain⟨q,h1,hz⟩:=qx h;exact⟨(q.1,vR (cfg.keepOut f (qn x)) q.2.1,q.2.2),by rw[h1];rfl,hz⟩
 |scope x ih=>
  intro fr H k h;simp only[vM]at h;simp only[evC];obtain⟨q,h1,h⟩:=ih h;rw[h1];simp only[qAL];unfold qkn at h;cases hq:q.1 with
  |goto l=>simp only[hq]at h;cases h
  |normal=>simp only[hq]at h⊢;exact⟨_,rfl,by rw[hq];exact h⟩
  |exit id=>simp only[hq]at h⊢;exact⟨_,rfl,by rw[hq];exact h⟩
  |ret=>simp only[hq]at h⊢;exact⟨_,rfl,by rw[hq];exact h⟩
 |rangeFunc g ps assign body=>
  intro fr H k h;simp only[vM]at h;simp only[evC];generalize (vO (cfg.lift f (qn body)) fr H).1=fr at h⊢;generalize (vO (cfg.lift f (qn body)) _ H).2=H at h⊢;unfold quu at h;obtain⟨h1,h⟩:=qj h;split at h
  case h_2=>cases h
  rename_i g' first caps hg;obtain⟨h2,h⟩:=qj h;obtain⟨q,h3,h⟩:=hkf _ _ _ _ _ h;unfold y9 at h;obtain⟨b,h4,h⟩:=qx h;unfold qwX at h;split at h
  case h_2=>cases h
  rename_i pend st;have hx:¬(cfg.ext g').isSome=true:=by
   cases he:cfg.ext g' with
   |none=>simp
   |some s=>rw[he]at h2;cases h2
  have hst:st≠.busy:=by
   intro e;subst e;simp at h
  have hpk:qoH pend k (gc bs (vR (cfg.keepOut f (qn body)) fr) (q.2.set H.length .dead)).1 (gc bs (vR (cfg.keepOut f (qn body)) fr) (q.2.set H.length .dead)).2=some r:=by
   cases st with
   |busy=>exact absurd rfl hst
   |_=>exact h
  unfold qae;rw[qBj h1,hg];simp only[hx,h3,qAL,h4];unfold qoH at hpk;cases st with
  |busy=>exact absurd rfl hst
  |_=>
   cases pend with
   |none=>exact⟨_,rfl,hpk⟩
   |some c=>
    cases c<;>first|exact⟨_,rfl,hpk⟩|cases hpk
theorem qdO{cfg:Cfg}{fr:List AV}:∀{rs:List ResultVar} {k:List AV->Option α},kRes cfg fr H rs k=some r->∃vs,xV rs cfg.ty fr H=some vs∧k vs=some r
 |[],k,h=>⟨[],rfl,h⟩
 | .tmp t::l,k,h=>by
  rw[kRes]at h;obtain⟨vs,h1,hz⟩:=qdO h;exact⟨_,by simp only[xV,h1,qAW],hz⟩
 | .cell a t::l,k,h=>by
  rw[kRes]at h;split at h
  ·rename_i ti hti;obtain⟨v,h1,h⟩:=qfc h;have h2:=vS (k:=λv=>kRes cfg fr H l λvs=>k (v::vs)) h;obtain⟨vs,h3,hz⟩:=qdO h2;exact⟨_,by simp only[xV,hti,h1,qAL,h3,qAW],hz⟩
  ·cases h
variable {α : Type}
def fxGo(i:Nat)(l:List (Nat×AV)):Nat->List AV
 |0=>[]
 |n+1=>match l with
  |[]=>.junk::fxGo (i+1) [] n
  |p::l'=>if qAz p.1 i then p.2::fxGo (i+1) l' n else .junk::fxGo (i+1) (p::l') n
def fx(n:Nat)(l:List (Nat×AV)):List AV:=fxGo 0 l n
def qg(fn:Func):Code:=match fn.body with|some c=>c|none=>.skip
def sub:Code->List Nat->Code
 |c,[]=>c
 | .seq a b,i::l=>match i with|0=>sub a l|_=>sub b l
 | .cond _ a b,i::l=>match i with|0=>sub a l|_=>sub b l
 | .block _ a,_::l=>sub a l
 | .loop a,_::l=>sub a l
 | .scope a,_::l=>sub a l
 | .rangeFunc _ _ a b,i::l=>match i with|0=>sub a l|_=>sub b l
 |c,_=>c
def rngB(fn:Func)(f:Nat)(p:List Nat)(fr:List AV)(pend:Option Code)(st:LoopState):ABlk:=
 match sub (qg fn) p with
 | .rangeFunc _ ps a b=>.loop f fr ps.toList a b pend st
 |_=>.dead
def kLp(k:Nat)(ts:Option (List Tmp))(ls:List (Tmp×Nat))(L:Den)(A:Ex×List AV×AH->Option α):KE α:=λe fr H=>
 match e with
 | .normal=>kOpt (LOOP k ts ls L (yH k ts ls fr H)) A
 |e=>A (e,fr,H)
theorem qsn{cfg:Cfg}{kf:KF α}(hkf:KfOk (EV cfg) kf){f:Nat}{rd:Option Nat}{bs:Nat}{c:Code}{k:Nat}{ts:Option (List Tmp)}{ls:List (Tmp×Nat)}{A:Ex×List AV×AH->Option α}{fr:List AV}{H:AH}{r:α}(h:vM cfg (EV cfg) kf f rd bs c fr H (kLp k ts ls (evC cfg (EV cfg) f rd bs c) A)=some r):kOpt (LOOP k ts ls (evC cfg (EV cfg) f rd bs c) (fr,H)) A=some r:=by
 obtain⟨⟨e,fr1,H1⟩,h1,h2⟩:=qcQ hkf c h;cases e with
 |normal=>
  simp only[kLp]at h2;cases hl:LOOP k ts ls (evC cfg (EV cfg) f rd bs c) (yH k ts ls fr1 H1)with
  |none=>rw[hl]at h2;cases h2
  |some q=>
   rw[hl]at h2;rw[qvj (p:=(fr,H)) h1 hl];exact h2
 |exit id=>rw[qhb (p:=(fr,H)) h1 (λx=>by intro h;cases h)];exact h2
 |goto l=>rw[qhb (p:=(fr,H)) h1 (λx=>by intro h;cases h)];exact h2
 |ret=>rw[qhb (p:=(fr,H)) h1 (λx=>by intro h;cases h)];exact h2
def ym(cfg:Cfg)(ls:List (Tmp×Nat))(g:AV->AH->Option α)(rs:List ResultVar):KE α:=λe fr H=>
 match e with
 | .normal=>kRes cfg (vO ls fr H).1 (vO ls fr H).2 rs λvs=>g (zs vs) (vO ls fr H).2
 | .ret=>kRes cfg (vO ls fr H).1 (vO ls fr H).2 rs λvs=>g (zs vs) (vO ls fr H).2
 |_=>none
def yK(cfg:Cfg)(ls:List (Tmp×Nat))(rs:List ResultVar):KE AV:=ym cfg ls (λv _=>some v) rs
def yn(cfg:Cfg)(ls:List (Tmp×Nat))(rs:List ResultVar):KE AV:=ym cfg ls (λv H=>qb3 false H v some) rs
def qky(cfg:Cfg)(ls:List (Tmp×Nat))(rs:List ResultVar):KE OV:=ym cfg ls (λv H=>ovOf (v,H)) rs
def kOv2(v:AV)(H:AH):Option (OV×AV):=
 match v with
 | .tup [a,s]=>qb3 false H s λs'=>cond (s'.refsLt 0) (match ovOf (a,q4 s.msIds H)with|some o=>some (o,s')|none=>none) none
 |_=>none
theorem quv{v:AV}{H:AH}{r:OV×AV}(h:kOv2 v H=some r):qnp (v,H)=some r:=by
 unfold kOv2 at h;unfold qnp;split at h
 ·rename_i a s;exact qcq (k:=λs'=>cond (s'.refsLt 0) (match ovOf (a,q4 s.msIds H)with|some o=>some (o,s')|none=>none) none) h
 ·cases h
def qff(cfg:Cfg)(ls:List (Tmp×Nat))(rs:List ResultVar):KE (OV×AV):=ym cfg ls kOv2 rs
def qnB(cfg:Cfg)(sz:Nat)(ls:List (Tmp×Nat))(rs:List ResultVar):KE (MV×List (List AV)):=ym cfg ls (λv H=>(qka sz (v,H)).bind λq=>(mvOf q.1).map λv=>(v,q.2)) rs
def qai(cfg:Cfg)(cf:Orac)(kf:KF α)(f:Nat)(fn:Func)(c:Code)(args:List AV)(H:AH)(fin:KE α):Option α:=
 vM cfg cf kf f none H.length c (args++qAU (fn.ntmps - args.length) .junk) H fin
theorem qiB{cfg:Cfg}{kf:KF α}(hkf:KfOk (EV cfg) kf){g:AV->AH->Option α}{f:Nat}{fn:Func}{args:List AV}{H:AH}{r:α}(hx:cfg.ext f=none)(hk:cfg.known f=true)(hf:cfg.P.funcs[f]? =some fn)(hb:fn.body=some (qg fn))(h:qai cfg (EV cfg) kf f fn (qg fn) args H (ym cfg (cfg.lift f 0) g fn.results.toList)=some r):∃v H',EV cfg (.f f) args H=some (v,H')∧g v H'=some r:=by
 unfold qai at h;obtain⟨q,h1,h⟩:=qcQ hkf _ h;have key:∀(vs:List AV),xV fn.results.toList cfg.ty (vO (cfg.lift f 0) q.2.1 q.2.2).1 (vO (cfg.lift f 0) q.2.1 q.2.2).2=some vs->(q.1= .normal∨q.1= .ret)->EV cfg (.f f) args H=some (zs vs,(vO (cfg.lift f 0) q.2.1 q.2.2).2):=by
  intro vs h2 hq;refine qlp ?_;unfold xl;simp only[hx,hk,if_true,hf,hb,h1,qAL];unfold qcs;rcases hq with hq|hq<;>simp only[hq,h2,qAW]
 unfold ym at h;split at h
 ·rename_i hq;obtain⟨vs,h2,h⟩:=qdO h;exact⟨_,_,key vs h2 (.inl hq),h⟩
 ·rename_i hq;obtain⟨vs,h2,h⟩:=qdO h;exact⟨_,_,key vs h2 (.inr hq),h⟩
 ·cases h
def kY2(id:Nat)(K:AV×AH->Option α):KE α:=λe _ H=>
 kOpt H[id]? λb=>match b with
  | .loop f fr ps a b _ _=>(match e with
   | .normal=>K (.bool true,H.set id (.loop f fr ps a b none .ready))
   | .ret=>K (.bool false,H.set id (.loop f fr ps a b (some .ret) .done))
   | .exit x=>K (.bool false,H.set id (.loop f fr ps a b (some (.exit x)) .done))
   | .goto _=>none)
  |_=>none
def kY1(cfg:Cfg)(cf:Orac)(kf:KF α)(bs f id:Nat)(body:Code)(K:AV×AH->Option α):KE α:=λe fr H=>
 match e with
 | .normal=>kOpt H[id]? λb=>match b with
  | .loop f' fr' ps' a' b' p' st=>(match st with
   | .ready=>vM cfg cf kf f (some id) bs body fr (H.set id (.loop f' fr' ps' a' b' p' .busy)) (kY2 id K)
   |_=>none)
  |_=>none
 |_=>none
def kY(cfg:Cfg)(cf:Orac)(kf:KF α)(id:Nat)(args:List AV)(H:AH)(K:AV×AH->Option α):Option α:=
 kOpt H[id]? λb=>match b with
  | .loop f fr ps assign body _ st=>(match st with
   | .ready=>cond (qAz args.length ps.length) (vM cfg cf kf f (some id) H.length assign (yP fr ps args) H (kY1 cfg cf kf H.length f id body K)) none
   |_=>none)
  |_=>none
theorem qv2{cfg:Cfg}{kf:KF α}(hkf:KfOk (EV cfg) kf){id:Nat}{args:List AV}{H:AH}{K:AV×AH->Option α}{r:α}(h:kY cfg (EV cfg) kf id args H K=some r):∃q,EV cfg (.y id) args H=some q∧K q=some r:=by
 unfold kY at h;obtain⟨b,h1,h⟩:=qx h;cases b with
 |loop f fr ps assign body pend st=>
  simp only at h;cases st with
  |ready=>
   simp only at h;obtain⟨h2,h⟩:=qj h;obtain⟨q,h3,h⟩:=qcQ hkf _ h;unfold kY1 at h;cases hq:q.1 with
   |normal=>
    rw[hq]at h;simp only at h;obtain⟨b,h4,h⟩:=qx h;cases b with
    |loop f' fr' ps' a' b' p' st'=>
     simp only at h;cases st' with
     |ready=>
      simp only at h;obtain⟨q2,h5,h⟩:=qcQ hkf _ h;unfold kY2 at h;obtain⟨b,h6,h⟩:=qx h;cases b with
      |loop f2 fr2 ps2 a2 b2 p2 st2=>
       have key:∀q',xl cfg (EV cfg) (.y id) args H=some q'->K q'=some r->∃q,EV cfg (.y id) args H=some q∧K q=some r:=λq' h8 h9=>⟨q',qlp h8,h9⟩
       cases hq2:q2.1 with
       |normal=>
        rw[hq2]at h;refine key _ ?_ h;unfold xl;simp only[h1,qBj (qAC h2),h3,qAL,hq,h4,h5,h6,hq2]
       |ret=>
        rw[hq2]at h;refine key _ ?_ h;unfold xl;simp only[h1,qBj (qAC h2),h3,qAL,hq,h4,h5,h6,hq2]
       |exit x=>
        rw[hq2]at h;refine key _ ?_ h;unfold xl;simp only[h1,qBj (qAC h2),h3,qAL,hq,h4,h5,h6,hq2]
       |goto x=>rw[hq2]at h;cases h
      |_=>cases h
     |_=>cases h
    |_=>cases h
   |_=>rw[hq]at h;cases h
  |_=>cases h
 |_=>cases h
class InlOk (cfg:Cfg):Prop where
 ok:∀f fn,cfg.inl f=some fn->cfg.ext f=none∧cfg.known f=true∧cfg.P.funcs[f]? =some fn∧fn.body=some (qg fn)
def z9(f:Nat):List (Nat×Func)->Option Func
 |[]=>none
 |p::l=>if qAz p.1 f then some p.2 else z9 f l
def qvk(cfg:Cfg):List (Nat×Func)->Prop
 |[]=>True
 |p::l=>(cfg.ext p.1=none∧cfg.known p.1=true∧cfg.P.funcs[p.1]? =some p.2∧p.2.body=some (qg p.2))∧qvk cfg l
theorem InlOk.of{cfg:Cfg}(tab:List (Nat×Func))(h:∀f,cfg.inl f=z9 f tab)(ha:qvk cfg tab):InlOk cfg where
 ok:=by
  intro f fn hf;rw[h]at hf;clear h
  induction tab with
  |nil=>cases hf
  |cons p l ih=>
   rw[z9]at hf;split at hf
   ·rename_i e;have e:=qAC e;cases hf;rw[←e];exact ha.1
   ·exact ih ha.2 hf
def kfN(cfg:Cfg):Nat->KF α
 |0=>λt a H k=>kOpt (EV cfg t a H) k
 |n+1=>λt a H k=>match t with
  | .f f=>(match cfg.inl f with
   |some fn=>qai cfg (EV cfg) (kfN cfg n) f fn (qg fn) a H (ym cfg (cfg.lift f 0) (λv H=>k (v,H)) fn.results.toList)
   |none=>kOpt (EV cfg (.f f) a H) k)
  | .y id=>kY cfg (EV cfg) (kfN cfg n) id a H k
theorem qkl{cfg:Cfg}[InlOk cfg]:∀n,KfOk (α:=α) (EV cfg) (kfN cfg n)
 |0=>λt a H k r h=>qx h
 |n+1=>λt a H k r h=>by
  unfold kfN at h;cases t with
  |f f=>
   simp only at h;split at h
   ·rename_i fn hf;obtain⟨o1,o2,o3,o4⟩:=InlOk.ok f fn hf;obtain⟨v,H',h1,h2⟩:=qiB (qkl n) o1 o2 o3 o4 h;exact⟨_,h1,h2⟩
   ·exact qx h
  |y id=>exact qv2 (qkl n) h
theorem qt{cfg:Cfg}[InlOk cfg]{f:Nat}{rd:Option Nat}{bs:Nat}{c:Code}{k:Nat}{ts:Option (List Tmp)}{ls:List (Tmp×Nat)}{A:Ex×List AV×AH->Option α}{fr:List AV}{H:AH}{r:α}(h:vM cfg (EV cfg) (kfN cfg 6) f rd bs c fr H (kLp k ts ls (evC cfg (EV cfg) f rd bs c) A)=some r):kOpt (LOOP k ts ls (evC cfg (EV cfg) f rd bs c) (fr,H)) A=some r:=qsn (qkl 6) h
theorem yl{cfg:Cfg}[InlOk cfg]{g:AV->AH->Option α}{f:Nat}{fn:Func}{args:List AV}{H:AH}{r:α}(hx:cfg.ext f=none)(hk:cfg.known f=true)(hf:cfg.P.funcs[f]? =some fn)(hb:fn.body=some (qg fn))(h:qai cfg (EV cfg) (kfN cfg 6) f fn (qg fn) args H (ym cfg (cfg.lift f 0) g fn.results.toList)=some r):∃v H',EV cfg (.f f) args H=some (v,H')∧g v H'=some r:=qiB (qkl 6) hx hk hf hb h
def Gets{β:Type}(o:Option β)(P:β->Prop):Prop:=∃r,o=some r∧P r
theorem Gets.ev{β:Type}{o o':Option β}{P:β->Prop}(h:∀r,o=some r->o'=some r)(hy:Gets o P):Gets o' P:=by
 obtain⟨r,h1,h2⟩:=hy;exact⟨r,h r h1,h2⟩
theorem Gets.eq{β:Type}{o o':Option β}{P:β->Prop}(h:o'=o)(hy:Gets o P):Gets o' P:=h▸hy
theorem gE{β:Type}{o o' x:Option β}{P:β->Prop}(f:∀r,o=some r->o'=some r)(e:o=x)(h:Gets x P):Gets o' P:=Gets.ev f (Gets.eq e h)
theorem Gets.mono{β:Type}{o:Option β}{P Q:β->Prop}(h:Gets o P)(hq:∀b,P b->Q b):Gets o Q:=by
 obtain⟨r,h1,h2⟩:=h;exact⟨r,h1,hq r h2⟩
theorem Gets.bind{β γ:Type}{o:Option β}{k:β->Option γ}{Q:β->Prop}{P:γ->Prop}(h:Gets o Q)(hk:∀b,Q b->Gets (k b) P):Gets (kOpt o k) P:=by
 obtain⟨r,h1,h2⟩:=h;subst h1;exact hk r h2
@[simp] theorem gets_some{β:Type}{a:β}{P:β->Prop}:Gets (some a) P↔P a:=⟨fun⟨r,h1,h2⟩=>by cases h1;exact h2,λh=>⟨a,rfl,h⟩⟩
theorem Gets.get{β:Type}{o:Option β}{a:β}(h:Gets o (·=a)):o=some a:=by
 obtain⟨r,h1,h2⟩:=h;rw[h1,h2]
theorem qzH{cfg:Cfg}{f:Nat}{args:List AV}{v:AV}{H:AH}(h:EV cfg (.f f) args []=some (v,H)):EVs (EV cfg) f args=some v:=by unfold EVs;rw[h];rfl
theorem qzJ{cfg:Cfg}{f:Nat}{args:List AV}{v v':AV}{H:AH}(h:EV cfg (.f f) args []=some (v',H))(e:(v'.frz v'.msIds H).fg=v):EVf (EV cfg) f args=some v:=by unfold EVf;rw[h];exact congrArg some e
theorem qzI{cfg:Cfg}{f:Nat}{args:List AV}{v:OV}{r:AV×AH}(h:EV cfg (.f f) args []=some r)(e:ovOf r=some v):EVo (EV cfg) f args=some v:=by unfold EVo;rw[h];exact e
theorem funS{cfg:Cfg}[InlOk cfg]{f:Nat}{fn:Func}{args:List AV}{r:AV}(hx:cfg.ext f=none)(hk:cfg.known f=true)(hf:cfg.P.funcs[f]? =some fn)(hb:fn.body=some (qg fn))(h:qai cfg (EV cfg) (kfN cfg 6) f fn (qg fn) args [] (yK cfg (cfg.lift f 0) fn.results.toList)=some r):EVs (EV cfg) f args=some r:=by
 obtain⟨v,H',h1,h2⟩:=yl hx hk hf hb h;cases h2;exact qzH h1
theorem funF{cfg:Cfg}[InlOk cfg]{f:Nat}{fn:Func}{args:List AV}{r:AV}(hx:cfg.ext f=none)(hk:cfg.known f=true)(hf:cfg.P.funcs[f]? =some fn)(hb:fn.body=some (qg fn))(h:qai cfg (EV cfg) (kfN cfg 6) f fn (qg fn) args [] (yn cfg (cfg.lift f 0) fn.results.toList)=some r):EVf (EV cfg) f args=some r:=by
 obtain⟨v,H',h1,h2⟩:=yl hx hk hf hb h;exact qzJ h1 (Option.some.inj (qcq h2))
theorem funO{cfg:Cfg}[InlOk cfg]{f:Nat}{fn:Func}{args:List AV}{r:OV}(hx:cfg.ext f=none)(hk:cfg.known f=true)(hf:cfg.P.funcs[f]? =some fn)(hb:fn.body=some (qg fn))(h:qai cfg (EV cfg) (kfN cfg 6) f fn (qg fn) args [] (qky cfg (cfg.lift f 0) fn.results.toList)=some r):EVo (EV cfg) f args=some r:=by
 obtain⟨v,H',h1,h2⟩:=yl hx hk hf hb h;exact qzI h1 h2
theorem funQ{cfg:Cfg}[InlOk cfg]{f:Nat}{fn:Func}{args:List AV}{r:OV×AV}(hx:cfg.ext f=none)(hk:cfg.known f=true)(hf:cfg.P.funcs[f]? =some fn)(hb:fn.body=some (qg fn))(h:qai cfg (EV cfg) (kfN cfg 6) f fn (qg fn) args [] (qff cfg (cfg.lift f 0) fn.results.toList)=some r):EVq (EV cfg) f args=some r:=by
 obtain⟨v,H',h1,h2⟩:=yl hx hk hf hb h;unfold EVq;rw[h1];exact quv h2
theorem funM{cfg:Cfg}[InlOk cfg]{f sz:Nat}{fn:Func}{args:List AV}{rows:List (List AV)}{r:MV×List (List AV)}(hx:cfg.ext f=none)(hk:cfg.known f=true)(hf:cfg.P.funcs[f]? =some fn)(hb:fn.body=some (qg fn))(h:qai cfg (EV cfg) (kfN cfg 6) f fn (qg fn) args [.rows true sz rows] (qnB cfg sz (cfg.lift f 0) fn.results.toList)=some r):EVm (EV cfg) f args sz rows=some r:=by
 obtain⟨v,H',h1,h2⟩:=yl hx hk hf hb h;unfold EVm;rw[h1];exact h2
def qsy(cfg:Cfg)(sz:Nat)(ls:List (Tmp×Nat))(rs:List ResultVar):KE (AV×List (List AV)):=ym cfg ls (λv H=>qfj H 0 λd sz' rows=>
 cond (!d&&qAz sz' sz&&qcY v.msIds&&xB [0] (xT 0 rows)) (qb3 false H v λv'=>cond (v'.refsLt 0) (some (v',rows)) none) none) rs
theorem funX{cfg:Cfg}[InlOk cfg]{f sz:Nat}{fn:Func}{args:List AV}{rows:List (List AV)}{r:AV×List (List AV)}(hx:cfg.ext f=none)(hk:cfg.known f=true)(hf:cfg.P.funcs[f]? =some fn)(hb:fn.body=some (qg fn))(h:qai cfg (EV cfg) (kfN cfg 6) f fn (qg fn) args [.rows false sz rows] (qsy cfg sz (cfg.lift f 0) fn.results.toList)=some r):EVx (EV cfg) f args sz rows=some r:=by
 obtain⟨v,H',h1,h2⟩:=yl hx hk hf hb h;unfold EVx;rw[h1];obtain⟨d,sz',rs',h3,h4⟩:=qbC h2;obtain⟨h5,h6⟩:=qj h4;have h7:=qcq (k:=λv'=>cond (v'.refsLt 0) (some (v',rs')) none) h6;obtain⟨h8,h9⟩:=qj h7;simp only[qAw,Bool.not_eq_true']at h5;obtain⟨⟨⟨hd,hs⟩,hn⟩,ha⟩:=h5;subst hd;cases H' with
 |nil=>simp at h3
 |cons b l=>
  simp only[List.getElem?_cons_zero,Option.some.injEq]at h3;subst h3;simp only[qAL,qjO,hs,hn,h8,ha,qAM,if_true];exact h9
def qwY(cfg:Cfg)(ls:List (Tmp×Nat))(rs:List ResultVar):KE AV:=ym cfg ls (λv H=>match v with
 | .wr n u=>(match u with
  | .ms id off len=>qhG false false H (.ms id off len) λx=>some (.wr n x)
  |_=>none)
 | .int k n=>some (.int k n)
 | .bool b=>some (.bool b)
 |_=>none) rs
theorem funW{cfg:Cfg}[InlOk cfg]{f:Nat}{fn:Func}{args:List AV}{r:AV}(hx:cfg.ext f=none)(hk:cfg.known f=true)(hf:cfg.P.funcs[f]? =some fn)(hb:fn.body=some (qg fn))(h:qai cfg (EV cfg) (kfN cfg 6) f fn (qg fn) args [] (qwY cfg (cfg.lift f 0) fn.results.toList)=some r):EVw (EV cfg) f args=some r:=by
 obtain⟨v,H',h1,h2⟩:=yl hx hk hf hb h;unfold EVw;rw[h1];split at h2
 ·rename_i n u;split at h2
  ·rename_i id off len;exact(qaH (k:=λx=>some (AV.wr n x)) h2).1 [id] (λi o l e=>by cases e;simp) rfl
  ·cases h2
 ·exact h2
 ·exact h2
 ·cases h2
def qhF{α:Type}(G:AH)(a:AV)(k:AV->Option α):Option α:=
 match a with
 | .ms id off len=>kOpt G[id]? λb=>match b with
  | .rows _ _ rs=>cond (qAF (off+len) rs.length) (kOpt (unlR ((rs.drop off).take len)) λrows=>k (.sl rows)) none
  |_=>none
 | .sl rows=>cond rows.isEmpty (k (.sl [])) none
 | .lsl rows=>k (.sl rows)
 | .nilS=>k (.sl [])
 | .em=>k (.sl [])
 | .int x n=>k (.int x n)
 | .bool b=>k (.bool b)
 | .str s=>k (.str s)
 |_=>none
def kNwL{α:Type}(g:AV->(AV->Option α)->Option α):List AV->(List AV->Option α)->Option α
 |[],k=>k []
 |a::l,k=>g a λa=>kNwL g l λl=>k (a::l)
def qhE{α:Type}(G:AH)(a:AV)(k:AV->Option α):Option α:=
 match a with
 | .agg cs=>kNwL (qhF G) cs λcs=>k (.agg cs)
 |a=>qhF G a k
def qoJ{α:Type}(G:AH)(a:AV)(k:AV->Option α):Option α:=
 match a with
 | .tup cs=>kNwL (qhE G) cs λcs=>k (.tup cs)
 |a=>qhE G a k
theorem qgH{α:Type}{G:AH}{a:AV}{k:AV->Option α}{r:α}(h:qhF G a k=some r):∃V,qar G a=some V∧k V=some r:=by
 unfold qhF at h;split at h
 ·obtain⟨b,h1,h⟩:=qx h;split at h
  ·obtain⟨h2,h⟩:=qj h;obtain⟨rows,h3,h⟩:=qx h;exact⟨_,by simp only[qar,h1,h2,if_true,h3,qAW],h⟩
  ·cases h
 ·rename_i rows;obtain⟨h1,h⟩:=qj h;cases rows with
  |nil=>exact⟨_,rfl,h⟩
  |cons=>cases h1
 all_goals first|exact⟨_,rfl,h⟩|cases h
theorem qgG{α:Type}{g:AV->(AV->Option α)->Option α}{g':AV->Option AV}(hg:∀(a:AV) (k:AV->Option α) (r:α),g a k=some r->∃V,g' a=some V∧k V=some r):∀{l:List AV} {k:List AV->Option α} {r:α},kNwL g l k=some r->∃q,datL g' l=some q∧k q=some r
 |[],_,_,h=>⟨[],rfl,h⟩
 |a::l,k,r,h=>by
  rw[kNwL]at h;obtain⟨V,h1,h⟩:=hg _ _ _ h;obtain⟨q,h2,h⟩:=qgG hg h;exact⟨V::q,by rw[datL,h1,h2],h⟩
theorem qgF{α:Type}{G:AH}{a:AV}{k:AV->Option α}{r:α}(h:qhE G a k=some r):∃V,qbv G a=some V∧k V=some r:=by
 unfold qhE at h;split at h
 ·obtain⟨q,h1,h2⟩:=qgG (λ_ _ _ h=>qgH h) h;exact⟨_,by simp only[qbv,h1,qAW],h2⟩
 ·rename_i hn;obtain⟨V,h1,h2⟩:=qgH h;refine⟨V,?_,h2⟩;rw[←h1];cases a<;>first|rfl|exact absurd rfl (hn _)
theorem qqr{α:Type}{G:AH}{a:AV}{k:AV->Option α}{r:α}(h:qoJ G a k=some r):∃V,qe5 G a=some V∧k V=some r:=by
 unfold qoJ at h;split at h
 ·obtain⟨q,h1,h2⟩:=qgG (λ_ _ _ h=>qgF h) h;exact⟨_,by simp only[qe5,h1,qAW],h2⟩
 ·rename_i hn;obtain⟨V,h1,h2⟩:=qgF h;refine⟨V,?_,h2⟩;rw[←h1];cases a<;>first|rfl|exact absurd rfl (hn _)
def qsz(cfg:Cfg)(ls:List (Tmp×Nat))(rs:List ResultVar):KE AV:=ym cfg ls (λv H=>qoJ H v some) rs
theorem funN{cfg:Cfg}[InlOk cfg]{f:Nat}{fn:Func}{args:List AV}{r:AV}(hx:cfg.ext f=none)(hk:cfg.known f=true)(hf:cfg.P.funcs[f]? =some fn)(hb:fn.body=some (qg fn))(h:qai cfg (EV cfg) (kfN cfg 6) f fn (qg fn) args [] (qsz cfg (cfg.lift f 0) fn.results.toList)=some r):EVn (EV cfg) f args=some r:=by
 obtain⟨v,H',h1,h2⟩:=yl hx hk hf hb h;obtain⟨V,h3,h4⟩:=qqr h2;cases h4;unfold EVn;rw[h1];exact h3
def qsx(cfg:Cfg)(ls:List (Tmp×Nat))(rs:List ResultVar):KE Unit:=ym cfg ls (λv H=>qhB (v,H)) rs
theorem funZ{cfg:Cfg}[InlOk cfg]{f:Nat}{fn:Func}{a:AV}{r:Unit}(hx:cfg.ext f=none)(hk:cfg.known f=true)(hf:cfg.P.funcs[f]? =some fn)(hb:fn.body=some (qg fn))(h:qai cfg (EV cfg) (kfN cfg 6) f fn (qg fn) [a] [.spl] (qsx cfg (cfg.lift f 0) fn.results.toList)=some r):EVz (EV cfg) f a=some r:=by
 obtain⟨v,H',h1,h2⟩:=yl hx hk hf hb h;unfold EVz;rw[h1];exact h2
def qhH(cfg:Cfg)(k:Nat)(ls:List (Tmp×Nat))(rs:List ResultVar):KE (AV×AH):=ym cfg ls (λv H=>qb3 false H v λv'=>qhD k v' (q4 v.msIds H)) rs
theorem funJ{cfg:Cfg}[InlOk cfg]{f k:Nat}{fn:Func}{args:List AV}{G:AH}{r:AV×AH}(hx:cfg.ext f=none)(hk:cfg.known f=true)(hf:cfg.P.funcs[f]? =some fn)(hb:fn.body=some (qg fn))(h:qai cfg (EV cfg) (kfN cfg 6) f fn (qg fn) args G (qhH cfg k (cfg.lift f 0) fn.results.toList)=some r):EVj (EV cfg) f k args G=some r:=by
 obtain⟨v,H',h1,h2⟩:=yl hx hk hf hb h;unfold EVj;rw[h1];exact qcq (k:=λv'=>qhD k v' (q4 v.msIds H')) h2
@[simp] theorem nble(a b:Nat):qAF a b=decide (a<=b):=by
 rcases h:qAF a b with _|_
 ·rw[eq_comm,decide_eq_false_iff_not];intro h';rw[Nat.ble_eq_true_of_le h']at h;cases h
 ·rw[eq_comm,decide_eq_true_eq];exact Nat.le_of_ble_eq_true h
@[simp] theorem nbeq(a b:Nat):qAz a b=decide (a=b):=by
 rcases h:qAz a b with _|_
 ·rw[eq_comm,decide_eq_false_iff_not];intro h';rw[h',qA1]at h;cases h
 ·rw[eq_comm,decide_eq_true_eq];exact qAC h
@[simp] theorem leInt_eq(a b:Int):qe a b=decide (a<=b):=rfl
@[simp] theorem ltInt_eq(a b:Int):qi a b=decide (a<b):=rfl
theorem beqD{β:Type}[BEq β][LawfulBEq β][DecidableEq β](a b:β):(a==b)=decide (a=b):=by
 by_cases h:a=b
 ·subst h;simp
 ·simp[h]
theorem bneD{β:Type}[BEq β][LawfulBEq β][DecidableEq β](a b:β):(a != b)= !decide (a=b):=by rw[bne,beqD]
def AV.IsInt(v:AV):Prop:=∃n,v= .int .i64 n
def AV.IsBool(v:AV):Prop:=∃b,v= .bool b
@[simp] theorem isInt_int(n:Int):(AV.int .i64 n).IsInt:=⟨n,rfl⟩
@[simp] theorem isBool_bool(b:Bool):(AV.bool b).IsBool:=⟨b,rfl⟩
@[simp] theorem qb{β:Type}(b:β)(k:β->Option α):kOpt (some b) k=k b:=rfl
@[simp] theorem kOptNone{β:Type}(k:β->Option α):kOpt none k=none:=rfl
@[simp] theorem kMInt_int(kd:IntKind)(n:Int)(k:Int->Option α):qnz kd (.int kd n) k=k n:=by simp[qnz,qat]
@[simp] theorem qm(kd:IntKind)(n:Int)(k:Int->Option α):kInt kd (.int kd n) k=k n:=by simp[kInt,qat]
@[simp] theorem qk(b:Bool)(k:Bool->Option α):qJ (.bool b) k=k b:=rfl
@[simp] theorem qT(s:List UInt8)(k:List UInt8->Option α):kStr (.str s) k=k s:=rfl
@[simp] theorem qZ(cs:List AV)(k:List AV->Option α):kAgg (.agg cs) k=k cs:=rfl
@[simp] theorem qD(c:AV)(cs:List AV)(k:AV->List AV->Option α):qf (c::cs) k=k c cs:=rfl
@[simp] theorem qO(c:ABlk)(cs:AH)(k:ABlk->AH->Option α):qC (c::cs) k=k c cs:=rfl
@[simp] theorem qW(x:Option α):vL [] x=x:=rfl
@[simp] theorem qN(c:List AV)(cs:List (List AV))(k:List AV->List (List AV)->Option α):q7 (c::cs) k=k c cs:=rfl
@[simp] theorem qV(x:Option α):vw [] x=x:=rfl
@[simp] theorem qM(d:Bool)(n:Nat)(rs:List (List AV))(k:Bool->Nat->List (List AV)->Option α):qE (.rows d n rs) k=k d n rs:=rfl
@[simp] theorem qrm(d:Bool)(es:List (AV×AV))(k:Bool->List (AV×AV)->Option α):kMpB (.mp d es) k=k d es:=rfl
@[simp] theorem vm(a b c:Nat)(k:Nat->Nat->Nat->Option α):kMsE (.ms a b c) k=k a b c:=rfl
@[simp] theorem qrl(a:Nat)(k:Nat->Option α):kMpE (.mp a) k=k a:=rfl
@[simp] theorem qmu(a b c:Nat)(k:Nat->Nat->Nat->Option α):qkq (.ptr a b c) k=k a b c:=rfl
@[simp] theorem qqv(x:Option α)(y:Nat->AV->Option α):qbz none x y=x:=rfl
@[simp] theorem qoQ(p:Nat×AV)(x:Option α)(y:Nat->AV->Option α):qbz (some p) x y=y p.1 p.2:=rfl
@[simp] theorem qS(cs:List AV)(k:List AV->Option α):kTup (.tup cs) k=k cs:=rfl
@[simp] theorem vp:beqB false false=true:=rfl
@[simp] theorem vo:beqB true true=true:=rfl
@[simp] theorem qU(n:Nat):qAz n n=true:=qA1 n
@[simp] theorem qR(x:Option α):kNil [] x=x:=rfl
@[simp] theorem kMSl_nil(x:Option α)(k:Nat->Nat->Option α):kMSl .nil x k=x:=rfl
@[simp] theorem qxs(off len:Nat)(x:Option α)(k:Nat->Nat->Option α):kMSl (.sl off len) x k=k off len:=rfl
@[simp] theorem qiz(x:Option α):qcn .unit x=x:=rfl
@[simp] theorem kMBool_bool(b:Bool)(k:Bool->Option α):qoN (.bool b) k=k b:=rfl
@[simp] theorem kOwn_nil(x:Option α)(k:Nat->List (List AV)->Nat->Nat->Option α):kOwn .nil x k=x:=rfl
@[simp] theorem xh(sz:Nat)(rs:List (List AV))(off len:Nat)(x:Option α)(k:Nat->List (List AV)->Nat->Nat->Option α):kOwn (.own sz rs off len) x k=k sz rs off len:=rfl
@[simp] theorem xG(rs:List (List AV))(k:List (List AV)->Option α):kSl (.sl rs) k=k rs:=rfl
@[simp] theorem qB{β:Type}(l:List β)(i:Nat):qAu l i=l[i]? :=rfl
noncomputable section
variable {α β : Type}
def qca(b:Bool)(k:Bool->α):α:=match b with|true=>k true|false=>k false
def fNat(n:Nat)(k:Nat->α):α:=match n with|0=>k 0|m+1=>k (m+1)
def fInt(n:Int)(k:Int->α):α:=match n with| .ofNat m=>fNat m λm=>k (.ofNat m)| .negSucc m=>fNat m λm=>k (.negSucc m)
def fL(g:β->(β->α)->α):List β->(List β->α)->α
 |[],k=>k []
 |a::l,k=>g a λa'=>fL g l λl'=>k (a'::l')
def qsT(kd:IntKind)(k:IntKind->α):α:=match kd with
 | .i64=>k .i64
 | .u64=>k .u64
 | .u8=>k .u8
 | .i32=>k .i32
 | .u32=>k .u32
 |x=>k x
def qkT(b:UInt8)(k:UInt8->α):α:=fNat b.toNat λn=>k (UInt8.ofNat n)
def fAV:Nat->AV->(AV->α)->α
 |0,v,k=>k v
 |n+1,v,k=>match v with
  | .int kd m=>qsT kd λkd=>fInt m λm=>k (.int kd m)
  | .bool b=>qca b λb=>k (.bool b)
  | .str s=>fL qkT s λs=>k (.str s)
  | .agg cs=>fL (fAV n) cs λcs=>k (.agg cs)
  | .tup cs=>fL (fAV n) cs λcs=>k (.tup cs)
  | .nilS=>k .nilS
  | .sl rows=>fL (fL (fAV n)) rows λrows=>k (.sl rows)
  | .em=>k .em
  | .ms a b c=>fNat a λa=>fNat b λb=>fNat c λc=>k (.ms a b c)
  | .nilP=>k .nilP
  | .ptr a b c=>fNat a λa=>fNat b λb=>fNat c λc=>k (.ptr a b c)
  | .cptr cs o=>fL (fAV n) cs λcs=>fNat o λo=>k (.cptr cs o)
  | .fn f a b=>fL (fAV n) a λa=>fL (fAV n) b λb=>k (.fn f a b)
  | .yld a=>fNat a λa=>k (.yld a)
  | .nilF=>k .nilF
  | .nilM=>k .nilM
  | .mp a=>fNat a λa=>k (.mp a)
  | .nilI=>k .nilI
  | .ifc t v=>fAV n v λv=>k (.ifc t v)
  | .junk=>k .junk
  | .lsl r=>k (.lsl r)
  | .lpt c o=>k (.lpt c o)
  | .rsl i r=>k (.rsl i r)
  | .rpt i c o=>k (.rpt i c o)
  | .alt l=>k (.alt l)
  | .wr a b=>k (.wr a b)
def fB(b:ABlk)(k:ABlk->α):α:=match b with
 | .rows d sz rs=>qca d λd=>fNat sz λsz=>fL (fL (fAV 1)) rs λrs=>k (.rows d sz rs)
 | .froz d sz rs=>qca d λd=>fNat sz λsz=>fL (fL (fAV 1)) rs λrs=>k (.froz d sz rs)
 | .mp d es=>qca d λd=>fL (fun(e:AV×AV) k=>k e) es λes=>k (.mp d es)
 | .loop f fr ps a b p s=>fL (fAV 1) fr λfr=>k (.loop f fr ps a b p s)
 | .dead=>k .dead
 | .res=>k .res
 | .reg=>k .reg
 | .spl=>k .spl
 | .bld T e s=>k (.bld T e s)
def fH(H:AH)(k:AH->α):α:=fL fB H k
theorem qbH{g:β->(β->α)->α}(hg:∀b k,g b k=k b):∀(l:List β) (k:List β->α),fL g l k=k l
 |[],_=>rfl
 |a::l,k=>by rw[fL,hg,qbH hg l]
theorem qds(b:Bool)(k:Bool->α):qca b k=k b:=by cases b<;>rfl
theorem yV(b:Nat)(k:Nat->α):fNat b k=k b:=by cases b<;>rfl
theorem qrr(b:Int)(k:Int->α):fInt b k=k b:=by cases b<;>simp only[fInt,yV]
theorem qo7(b:IntKind)(k:IntKind->α):qsT b k=k b:=by cases b<;>rfl
theorem qi7(b:UInt8)(k:UInt8->α):qkT b k=k b:=by simp[qkT,yV]
theorem qkU:∀(n:Nat) (v:AV) (k:AV->α),fAV n v k=k v
 |0,_,_=>rfl
 |n+1,v,k=>by
  have e1:∀(l:List AV) (k:List AV->α),fL (fAV n) l k=k l:=qbH (qkU n);have e2:∀(l:List (List AV)) (k:List (List AV)->α),fL (fL (fAV n)) l k=k l:=qbH e1;cases v<;>simp only[fAV,qo7,qrr,qds,yV,e1,e2,qbH qi7,qkU n]
theorem qAo(b:ABlk)(k:ABlk->α):fB b k=k b:=by
 have e1:∀(l:List AV) (k:List AV->α),fL (fAV 1) l k=k l:=qbH (qkU 1);have e2:∀(l:List (List AV)) (k:List (List AV)->α),fL (fL (fAV 1)) l k=k l:=qbH e1;cases b<;>simp only[fB,qds,yV,e1,e2,qbH (g:=fun(e:AV×AV) (k:AV×AV->α)=>k e) (λ_ _=>rfl)]
theorem qnE(H:AH)(k:AH->α):fH H k=k H:=qbH qAo H k
def fFr(fr:List AV)(k:List AV->α):α:=fL (λv k=>match v with| .junk=>k .junk|v=>k v) fr k
theorem qdr(fr:List AV)(k:List AV->α):fFr fr k=k fr:=qbH (λv k=>by cases v<;>rfl) fr k
def qz9(c a b:AV)(H:AH):Option (AV×AH):=
 match c with
 | .bool t=>some (if t then a else b,H)
 |_=>none
def qyu(cfg:Cfg)(nid:Option Nat)(t:TypeId)(H:AH):Option (AV×AH):=
 match cfg.ty t with
 |some ti=>
  if xp ti.zero then
   match aNew nid H (qbe cfg t ti.zero)with
   |some (k,H')=>some (.ptr k 0 0,H')
   |none=>none
  else none
 |none=>none
def xBox(cfg:Cfg)(t:TypeId)(nid:Option Nat)(a:AV)(H:AH):Option (AV×AH):=
 match a.cells with
 |some cs=>
  match aNew nid H (qdy cfg t cs)with
  |some (k,H')=>some (.ptr k 0 0,H')
  |none=>none
 |none=>none
def qyt(cfg:Cfg)(t:TypeId)(parts:List (Nat×AV))(H:AH):Option (AV×AH):=
 match cfg.ty t with
 |some ti=>
  if xp ti.zero then
   match ti.d with
   | .struct fs=>
    match qaq cfg fs with
    |some ps=>(qcf (λi=>ps[i]?) ti.zero parts).map λcs=>(.agg (cfg.fga t cs),H)
    |none=>none
   | .array _ e=>
    match cfg.sz e with
    |some n=>(qcf (λi=>some (i*n,n)) ti.zero parts).map λcs=>(.agg cs,H)
    |none=>none
   |_=>none
  else none
 |none=>none
def qhR(cfg:Cfg)(nid:Option Nat)(t:TypeId)(len:Nat)(parts:List (Nat×AV))(H:AH):Option (AV×AH):=
 match cfg.td t with
 |some (.slice e)=>
  match cfg.ty e with
  |some ei=>
   if zr ei&&qAF (len*ei.sz) 16777216 then
    match qbO ei.sz (qAU len ei.zero) parts with
    |some rows=>
     match aNew nid H (.rows (qQ 0 rows) ei.sz rows)with
     |some (k,H')=>some (.ms k 0 len,H')
     |none=>none
    |none=>none
   else none
  |none=>none
 |_=>none
def qAa(cfg:Cfg)(t:TypeId)(a:AV)(H:AH):Option (AV×AH):=
 match cfg.ty t with
 |some ti=>(zO ti.d.agg ti.sz H a).map λv=>(v,H)
 |none=>none
def qyr(cfg:Cfg)(t:TypeId)(a v:AV)(H:AH):Option (AV×AH):=
 match cfg.sz t with
 |some n=>(zy n H a v).map λH'=>(.junk,H')
 |none=>none
def xNil(a:AV)(H:AH):Option (AV×AH):=
 match a with
 | .ptr id r off=>some (.ptr id r off,H)
 | .cptr cs off=>some (.cptr cs off,H)
 | .fn (.func f) a b=>some (.fn (.func f) a b,H)
 | .mp id=>some (.mp id,H)
 | .yld id=>some (.yld id,H)
 |_=>none
def qvq(t:AV)(i:Nat)(H:AH):Option (AV×AH):=
 match t with
 | .tup vs=>(vs[i]?).map λv=>(v,H)
 |_=>none
def xOp(cfg:Cfg)(nid:Option Nat)(o:Op)(ty:TypeId)(x:Operand->AV)(H:AH):Option (AV×AH):=
 match o with
 | .move a| .assign a=>some (x a,H)
 | .pick c a b=>qz9 (x c) (x a) (x b) H
 | .alloc t=>qyu cfg nid t H
 | .box t a=>xBox cfg t nid (x a) H
 | .build t parts=>qyt cfg t (parts.toList.map λp=>(p.1,x p.2)) H
 | .buildSlice t len parts=>qhR cfg nid t len (parts.toList.map λp=>(p.1,x p.2)) H
 | .load t a=>qAa cfg t (x a) H
 | .store t a v=>qyr cfg t (x a) (x v) H
 | .nilCheck a=>xNil (x a) H
 | .binOp op t a b _=>(aBin cfg (litN a b) op t (x a) (x b)).map λv=>(v,H)
 | .unOp op _ a=>(aUn op (x a)).map λv=>(v,H)
 | .convert s d a=>zl cfg nid s d (x a) H
 | .makeFunc f first caps=>some (.fn f (first.toList.map x) (caps.toList.map x),H)
 | .makeSlice t l c=>qa0 cfg nid t (x l) (x c) H
 | .slice t a lo hi mx=>(qbN cfg t H (x a) (lo.map x) (hi.map x) (mx.map x)).map λv=>(v,H)
 | .fieldAddr t a f=>(qaP cfg t (x a) f).map λv=>(v,H)
 | .field t a f=>(qeK cfg t (x a) f).map λv=>(v,H)
 | .indexAddr t a i=>(yO cfg t H (x a).unwr (x i)).map λv=>(v,H)
 | .index t a i=>(qeJ cfg t (x a) (x i)).map λv=>(v,H)
 | .extract t i=>qvq (x t) i H
 |o=>evOp cfg nid o ty x H
theorem qtB(cfg:Cfg)(nid:Option Nat)(o:Op)(ty:TypeId)(x:Operand->AV)(H:AH):xOp cfg nid o ty x H=evOp cfg nid o ty x H:=by cases o<;>rfl
def qys(cfg:Cfg)(cf:Orac)(nid:Option Nat)(f:AV)(args:List AV)(H:AH):Option (AV×AH):=(y7 f args).bind λt=>xr cfg cf nid t.1 t.2 H
def qAc(cfg:Cfg)(cf:Orac)(nid:Option Nat)(o:Op)(c:Call)(ty:TypeId)(x:Operand->AV)(H:AH):Option (AV×AH):=
 match c.callee with
 | .value f=>qys cfg cf nid (x f) (c.args.toList.map x) H
 |_=>evOp cfg nid o ty x H
def qtA(cfg:Cfg)(cf:Orac)(nid:Option Nat)(o:Op)(ty:TypeId)(x:Operand->AV)(H:AH):Option (AV×AH):=
 match o with
 | .call c=>qAc cfg cf nid (.call c) c ty x H
 |o=>xOp cfg nid o ty x H
def qnk(cfg:Cfg)(cf:Orac)(frz:Bool)(nid:Option Nat)(o:Oper)(x:Operand->AV)(H:AH):Option (AV×AH):=
 match frz with
 |false=>qtA cfg cf nid o.op o.type x H
 |true=>vD cfg cf true nid o x H
theorem qnL(cfg:Cfg)(cf:Orac)(frz:Bool)(nid:Option Nat)(o:Oper)(x:Operand->AV)(H:AH):qnk cfg cf frz nid o x H=vD cfg cf frz nid o x H:=by
 cases frz with
 |true=>rfl
 |false=>
  obtain⟨dst,op,ty,pos,after,guard⟩:=o;unfold qnk qtA vD;simp only[qAK,if_false,qtB];cases op with
  |call c=>
   obtain⟨callee,args,argTypes⟩:=c;cases callee<;>rfl
  |_=>rfl
def qre(o:Op):Bool:=match o with
 | .alloc _| .box _ _| .buildSlice _ _ _| .store _ _ _| .convert _ _ _| .makeSlice _ _ _| .call _=>false
 |_=>true
def xRes(q:Bool)(o:Option (AV×AH))(k:AV->AH->Option β):Option β:=
 match o with
 |none=>none
 |some r=>fAV 12 r.1 λv=>cond q (k v r.2) (fH r.2 λH=>k v H)
theorem qq4(q:Bool)(o:Option (AV×AH))(k:AV->AH->Option β):xRes q o k=o.bind λr=>k r.1 r.2:=by
 cases o with
 |none=>rfl
 |some r=>cases q<;>simp[xRes,qkU,qnE]
def xOps(cfg:Cfg)(cf:Orac)(f rid:Nat)(ops:Array Oper):Nat->List Oper->List AV->AH->Option (List AV×AH)
 |_,[],fr,H=>some (fr,H)
 |k,o::rest,fr,H=>
  match xD ops fr o with
  |none=>none
  |some b=>
   cond b (xRes (qre o.op&& !cfg.frz f rid k) (qnk cfg cf (cfg.frz f rid k) none o (opd fr) H) λv H'=>fFr (put fr o.dst v) λfr'=>xOps cfg cf f rid ops (k+1) rest fr' H')
    (fFr (put fr o.dst (.tup [])) λfr'=>xOps cfg cf f rid ops (k+1) rest fr' H)
theorem qq5(cfg:Cfg)(cf:Orac)(f rid:Nat)(ops:Array Oper):∀(l:List Oper) (k:Nat) (fr:List AV) (H:AH),xOps cfg cf f rid ops k l fr H=zn cfg cf f rid ops k l fr H
 |[],_,_,_=>rfl
 |o::l,k,fr,H=>by
  rw[xOps,zn];cases xD ops fr o with
  |none=>rfl
  |some b=>cases b<;>simp[qq4,qnL,qdr,qq5 cfg cf f rid ops l]
def qjo(cfg:Cfg)(cf:Orac)(f rid:Nat)(ops:Array Oper):Nat->Nat->List Oper->List AV->AH->Option (List DR×List AV×AH)
 |_,_,[],fr,H=>some ([],fr,H)
 |k,at_,o::rest,fr,H=>
  match xD ops fr o with
  |none=>none
  |some b=>
   fNat (at_+qcl cfg o) λat'=>
   cond b (xRes (qre o.op&& !cfg.frz f rid k) (qnk cfg cf (cfg.frz f rid k) (some at_) o (opd fr) H) λv H'=>fFr (put fr o.dst v) λfr'=>
     match qjo cfg cf f rid ops (k+1) at' rest fr' H' with
     |none=>none
     |some q=>some (drOf cfg (cfg.frz f rid k) at_ o (opd fr) H v H'::q.1,q.2))
    (fFr (put fr o.dst (.tup [])) λfr'=>
     match qjo cfg cf f rid ops (k+1) at' rest fr' H with
     |none=>none
     |some q=>some (drNo H::q.1,q.2))
theorem qnN(cfg:Cfg)(cf:Orac)(f rid:Nat)(ops:Array Oper):∀(l:List Oper) (k at_:Nat) (fr:List AV) (H:AH),qjo cfg cf f rid ops k at_ l fr H=ya cfg cf f rid ops k at_ l fr H
 |[],_,_,_,_=>rfl
 |o::l,k,at_,fr,H=>by
  have em:∀(x:Option (List DR×List AV×AH)) (g:List DR×List AV×AH->List DR×List AV×AH),(match x with|none=>none|some q=>some (g q))=x.map g:=λx g=>by cases x<;>rfl
  rw[qjo,ya];cases xD ops fr o with
  |none=>rfl
  |some b=>cases b<;>simp[qq4,qnL,qdr,yV,qnN cfg cf f rid ops l,em]
def qnl(k:Nat)(ts:Option (List Tmp))(ls:List (Tmp×Nat))(body:Den):Nat->List AV->AH->Option (Ex×List AV×AH)
 |0,_,_=>none
 |n+1,fr,H=>
  match body fr H with
  |none=>none
  |some r=>
   match r.1 with
   | .normal=>fFr (yH k ts ls r.2.1 r.2.2).1 λfr'=>fH (yH k ts ls r.2.1 r.2.2).2 λH'=>qnl k ts ls body n fr' H'
   |e=>some (e,r.2)
theorem qnM(k:Nat)(ts:Option (List Tmp))(ls:List (Tmp×Nat))(body:Den):∀(n:Nat) (fr:List AV) (H:AH),qnl k ts ls body n fr H=yx k ts ls body n (fr,H)
 |0,_,_=>rfl
 |n+1,fr,H=>by
  rw[qnl,yx];show _=(body fr H).bind _;cases body fr H with
  |none=>rfl
  |some r=>
   simp only[qAL];cases hr:r.1<;>simp[qdr,qnE,qnM k ts ls body n]
def xC(cfg:Cfg)(cf:Orac)(m:Nat)(f:Nat)(rd:Option Nat)(bs:Nat):Code->List AV->AH->Option (Ex×List AV×AH)
 | .skip,fr,H=>some (.normal,fr,H)
 | .label _,fr,H=>some (.normal,fr,H)
 | .region id ops draw,fr,H=>
  if draw then
   if qaw ops then
    match qjo cfg cf f id ops 0 H.length ops.toList fr (H++qAU (places cfg ops.toList) .res)with
    |none=>none
    |some q=>if qc1 (ancs [] ops.toList) (H++qAU (places cfg ops.toList) .res) q.1 then some (.normal,q.2)else none
   else none
  else match xOps cfg cf f id ops 0 ops.toList fr H with
   |none=>none
   |some q=>some (.normal,q)
 | .seq a b,fr,H=>
  match xC cfg cf m f rd bs a fr H with
  |none=>none
  |some r=>
   match r.1 with
   | .normal=>fFr (vR (cfg.cut f (qn b)) r.2.1) λfr'=>xC cfg cf m f rd bs b fr' r.2.2
   |e=>some (e,r.2)
 | .cond c a b,fr,H=>
  match opd fr c with
  | .bool t=>if t then xC cfg cf m f rd bs a fr H else xC cfg cf m f rd bs b fr H
  |_=>none
 | .block id a,fr,H=>
  match xC cfg cf m f rd bs a fr H with
  |none=>none
  |some r=>
   match r.1 with
   | .exit id'=>some (if qAz id' id then(.normal,r.2)else r)
   |_=>some r
 | .loop a,fr,H=>
  match fFr (yH bs (cfg.keepIn f (qn a)) (cfg.lift f (qn a)) fr H).1 λfr'=>fH (yH bs (cfg.keepIn f (qn a)) (cfg.lift f (qn a)) fr H).2 λH'=>qnl bs (cfg.keepIn f (qn a)) (cfg.lift f (qn a)) (xC cfg cf m f rd bs a) m fr' H' with
  |none=>none
  |some r=>fFr (vR (cfg.keepOut f (qn a)) r.2.1) λfr'=>some (r.1,fr',r.2.2)
 | .scope a,fr,H=>
  match xC cfg cf m f rd bs a fr H with
  |none=>none
  |some r=>
   match r.1 with
   | .goto _=>none
   |_=>some r
 | .exit id,fr,H=>some (.exit id,fr,H)
 | .goto _,_,_=>none
 | .ret,fr,H=>some (.ret,fr,H)
 | .rangeFunc g ps assign body,fr,H=>fFr (vO (cfg.lift f (qn body)) fr H).1 λfr'=>fH (vO (cfg.lift f (qn body)) fr H).2 λH'=>qae cfg cf f rd bs g ps assign body fr' H'
 | .refuse _,_,_=>none
theorem qAd(cfg:Cfg){cf cf':Orac}(hcf:∀t a H r,cf t a H=some r->cf' t a H=some r)(m:Nat)(f:Nat)(rd:Option Nat)(bs:Nat):∀(cd:Code) (fr:List AV) (H:AH) (r),xC cfg cf m f rd bs cd fr H=some r->evC cfg cf' f rd bs cd fr H=some r:=by
 have hev:Ev (λ_=>cf') cf:=λt a H r h=>⟨0,λ_ _=>hcf t a H r h⟩
 have key:∀{γ:Type} {G:Orac->Option γ},EvG (λ_=>cf') cf G->∀r,G cf=some r->G cf'=some r:=λh r hr=>by
  obtain⟨n,hn⟩:=h r hr;exact hn n (qAA _)
 intro cd
 induction cd with
 |skip=>intro fr H r h;exact h
 |label l=>intro fr H r h;exact h
 |exit id=>intro fr H r h;exact h
 |ret=>intro fr H r h;exact h
 |goto l=>intro fr H r h;cases h
 |refuse s=>intro fr H r h;cases h
 |region id ops draw=>
  intro fr H r h;simp only[xC,evC]at h⊢;cases draw with
  |true=>
   simp only[if_true]at h⊢;split at h
   ·rename_i hd;rw[qBj hd];rw[qnN]at h;cases hq:ya cfg cf f id ops 0 H.length ops.toList fr (H++qAU (places cfg ops.toList) .res)with
    |none=>rw[hq]at h;cases h
    |some q=>
     rw[hq]at h;have h2:=key (G:=λo=>ya cfg o f id ops 0 H.length ops.toList fr (H++qAU (places cfg ops.toList) .res)) (qdR hev cfg f id ops _ _ _ _ _) q hq;rw[h2];exact h
   ·cases h
  |false=>
   simp only[qAK,if_false]at h⊢;rw[qq5]at h;refine key (G:=λq=>(zn cfg q f id ops 0 ops.toList fr H).map λq=>(Ex.normal,q)) ((qft hev cfg f id ops _ _ _ _).map _) r ?_;rw[←h];cases zn cfg cf f id ops 0 ops.toList fr H<;>rfl
 |seq x y ihx ihy=>
  intro fr H r h;simp only[xC,evC]at h⊢;cases hco:qcx x with
  |some p=>
   obtain⟨rfl,hcc⟩:=qiH hco;have h1:qaw p.2=false:=by unfold qaw;rw[hcc];rfl
   simp only[xC,if_true,h1,qAK,if_false]at h;cases h
  |none=>?_
  simp only;split at h
  ·cases h
  ·rename_i q hq;rw[ihx _ _ _ hq];simp only[qAL];cases hq1:q.1 with
   |normal=>rw[hq1]at h;rw[qdr]at h;exact ihy _ _ _ h
   |exit id=>rw[hq1]at h;exact h
   |goto l=>rw[hq1]at h;exact h
   |ret=>rw[hq1]at h;exact h
 |cond cnd x y ihx ihy=>
  intro fr H r h;simp only[xC,evC]at h⊢;split at h
  ·rename_i t ht;rw[ht];cases t with
   |true=>exact ihx _ _ _ h
   |false=>exact ihy _ _ _ h
  ·cases h
 |block id x ih=>
  intro fr H r h;simp only[xC,evC]at h⊢;split at h
  ·cases h
  ·rename_i q hq;rw[ih _ _ _ hq];exact h
 |loop x ih=>
  intro fr H r h;simp only[xC,evC]at h⊢;split at h
  ·cases h
  ·rename_i q hq;rw[qdr,qnE,qnM]at hq;rw[qdr]at h;have hl:LOOP bs (cfg.keepIn f (qn x)) (cfg.lift f (qn x)) (evC cfg cf' f rd bs x) (yH bs (cfg.keepIn f (qn x)) (cfg.lift f (qn x)) fr H)=some q:=by
    refine qeM (n:=m) ?_;have up:∀(n:Nat) (p:List AV×AH) (r),yx bs (cfg.keepIn f (qn x)) (cfg.lift f (qn x)) (xC cfg cf m f rd bs x) n p=some r->yx bs (cfg.keepIn f (qn x)) (cfg.lift f (qn x)) (evC cfg cf' f rd bs x) n p=some r:=by
     intro n
     induction n with
     |zero=>intro p r h;cases h
     |succ n ihn=>
      intro p r h;rw[yx]at h⊢;obtain⟨q,h1,h2⟩:=qAx.1 h;rw[ih _ _ _ h1];simp only[qAL];cases hq:q.1 with
      |normal=>rw[hq]at h2;exact ihn _ _ h2
      |exit id=>rw[hq]at h2;exact h2
      |goto l=>rw[hq]at h2;exact h2
      |ret=>rw[hq]at h2;exact h2
    exact up _ _ _ hq
   rw[hl];exact h
 |scope x ih=>
  intro fr H r h;simp only[xC,evC]at h⊢;split at h
  ·cases h
  ·rename_i q hq;rw[ih _ _ _ hq];exact h
 |rangeFunc g ps assign body=>
  intro fr H r h;simp only[xC,evC,qdr,qnE]at h⊢;unfold qae at h⊢;split at h
  ·rename_i hl;rw[qBj hl];split at h
   ·split at h
    ·cases h
    ·rename_i hx;rw[qBk hx];obtain⟨q,hq,h⟩:=qAx.1 h;rw[hcf _ _ _ _ hq];exact h
   ·cases h
  ·cases h
end
noncomputable section
variable {α β : Type}
def gL(g:β->(β->α)->α)(l:List β):(List β->α)->α:=
 List.rec (motive:=λ_=>(List β->α)->α) (λk=>k []) (λa _ ih k=>g a λa'=>ih λl'=>k (a'::l')) l
def gS(l:List β):(List β->α)->α:=
 List.rec (motive:=λ_=>(List β->α)->α) (λk=>k []) (λa _ ih k=>ih λl'=>k (a::l')) l
theorem zK{g:β->(β->α)->α}(hg:∀b k,g b k=k b):∀(l:List β) (k:List β->α),gL g l k=k l
 |[],_=>rfl
 |a::l,k=>by
  have:gL g (a::l) k=g a λa'=>gL g l λl'=>k (a'::l'):=rfl
  rw[this,hg,zK hg l]
theorem zd:∀(l:List β) (k:List β->α),gS l k=k l
 |[],_=>rfl
 |a::l,k=>by
  have:gS (a::l) k=gS l λl'=>k (a::l'):=rfl
  rw[this,zd l]
def gA1(v:AV)(k:AV->α):α:=match v with
 | .int kd m=>qsT kd λkd=>fInt m λm=>k (.int kd m)
 | .bool b=>qca b λb=>k (.bool b)
 | .str s=>fL qkT s λs=>k (.str s)
 | .ms a b c=>fNat a λa=>fNat b λb=>fNat c λc=>k (.ms a b c)
 | .ptr a b c=>fNat a λa=>fNat b λb=>fNat c λc=>k (.ptr a b c)
 |v=>k v
theorem qo2(v:AV)(k:AV->α):gA1 v k=k v:=by
 cases v<;>simp only[gA1,qo7,qrr,qds,yV,qbH qi7]
def gA2(v:AV)(k:AV->α):α:=match v with
 | .agg cs=>gL gA1 cs λcs=>k (.agg cs)
 | .sl rows=>gL (gL gA1) rows λrows=>k (.sl rows)
 | .cptr cs o=>gL gA1 cs λcs=>fNat o λo=>k (.cptr cs o)
 | .fn f a b=>gL gA1 a λa=>gL gA1 b λb=>k (.fn f a b)
 |v=>gA1 v k
theorem quD(v:AV)(k:AV->α):gA2 v k=k v:=by
 have e1:∀(l:List AV) (k:List AV->α),gL gA1 l k=k l:=zK qo2;cases v<;>simp only[gA2,qo2,e1,yV,zK e1]
def gA(v:AV)(k:AV->α):α:=match v with
 | .tup cs=>gL gA2 cs λcs=>k (.tup cs)
 | .ifc t v=>gA2 v λv=>k (.ifc t v)
 |v=>gA2 v k
theorem qb8(v:AV)(k:AV->α):gA v k=k v:=by
 cases v<;>simp only[gA,quD,zK quD]
def gW(v:AV)(k:AV->α):α:=match v with
 | .int a b=>k (.int a b)
 | .bool a=>k (.bool a)
 | .str a=>k (.str a)
 | .agg a=>k (.agg a)
 | .tup a=>k (.tup a)
 | .nilS=>k .nilS
 | .sl a=>k (.sl a)
 | .em=>k .em
 | .ms a b c=>k (.ms a b c)
 | .nilP=>k .nilP
 | .ptr a b c=>k (.ptr a b c)
 | .cptr a b=>k (.cptr a b)
 | .fn a b c=>k (.fn a b c)
 | .yld a=>k (.yld a)
 | .nilF=>k .nilF
 | .nilM=>k .nilM
 | .mp a=>k (.mp a)
 | .nilI=>k .nilI
 | .ifc a b=>k (.ifc a b)
 | .junk=>k .junk
 | .lsl r=>k (.lsl r)
 | .lpt c o=>k (.lpt c o)
 | .rsl i r=>k (.rsl i r)
 | .rpt i c o=>k (.rpt i c o)
 | .alt l=>k (.alt l)
 | .wr a b=>k (.wr a b)
theorem qhI(v:AV)(k:AV->α):gW v k=k v:=by cases v<;>rfl
def gB(b:ABlk)(k:ABlk->α):α:=match b with
 | .rows d sz rs=>qca d λd=>fNat sz λsz=>gL (gL gA1) rs λrs=>k (.rows d sz rs)
 | .froz d sz rs=>qca d λd=>fNat sz λsz=>gL (gL gA1) rs λrs=>k (.froz d sz rs)
 | .mp d es=>qca d λd=>gS es λes=>k (.mp d es)
 | .loop f fr ps a b p s=>gL gA1 fr λfr=>k (.loop f fr ps a b p s)
 | .dead=>k .dead
 | .res=>k .res
 | .reg=>k .reg
 | .spl=>k .spl
 | .bld T e s=>fL qkT s λs=>k (.bld T e s)
theorem qsQ(b:ABlk)(k:ABlk->α):gB b k=k b:=by
 have e1:∀(l:List AV) (k:List AV->α),gL gA1 l k=k l:=zK qo2;cases b<;>simp only[gB,qds,yV,e1,zK e1,zd,qbH qi7]
def gP(p:Nat×AV)(k:Nat×AV->α):α:=gA p.2 λv=>k (p.1,v)
theorem qsP(p:Nat×AV)(k:Nat×AV->α):gP p k=k p:=by unfold gP;rw[qb8]
def gH(H:AH)(k:AH->α):α:=gL gB H k
theorem qfq(H:AH)(k:AH->α):gH H k=k H:=zK qsQ H k
abbrev Ov:=List (Nat×AV)
def den(n:Nat)(ov:Ov):List AV:=ov.foldr (λp fr=>fr.set p.1 p.2) (qAU n .junk)
def xI(t:Nat)(ov:Ov):AV:=List.rec (motive:=λ_=>AV) .junk (λp _ ih=>cond (qAz p.1 t) p.2 ih) ov
theorem qgs(t:Nat):xI t []= .junk:=rfl
theorem qbt(t:Nat)(p:Nat×AV)(ov:Ov):xI t (p::ov)=cond (qAz p.1 t) p.2 (xI t ov):=rfl
def OvOk(n:Nat)(ov:Ov):Prop:=∀p∈ov,p.1<n
theorem qeE(n:Nat)(ov:Ov):(den n ov).length=n:=by
 induction ov with
 |nil=>simp[den]
 |cons p l ih=>simp only[den,List.foldr_cons,List.length_set];exact ih
theorem qeF{n:Nat}{ov:Ov}(h:OvOk n ov)(t:Nat):(den n ov)[t]? =if t<n then some (xI t ov)else none:=by
 induction ov with
 |nil=>
  simp only[den,List.foldr_nil,qgs,List.getElem?_replicate]
 |cons p l ih=>
  have hl:OvOk n l:=λq hq=>h q (List.mem_cons_of_mem _ hq)
  have hp:p.1<n:=h p (List.mem_cons_self ..);have:(den n (p::l))[t]? =((den n l).set p.1 p.2)[t]? :=rfl;rw[this,qAQ,ih hl,qeE,qbt]
  by_cases e:p.1=t
  ·subst e;simp[hp]
  ·have:qAz p.1 t=false:=by rw[←Bool.not_eq_true];intro h';exact e (qAC h')
   rw[qBk e,this];rfl
theorem qgt{n:Nat}{ov:Ov}(h:OvOk n ov){t:Nat}(ht:¬t<n):xI t ov= .junk:=by
 induction ov with
 |nil=>rfl
 |cons p l ih=>
  have hp:p.1<n:=h p (List.mem_cons_self ..);have:qAz p.1 t=false:=by rw[←Bool.not_eq_true];intro h';have:=qAC h';omega
  rw[qbt,this];exact ih λq hq=>h q (List.mem_cons_of_mem _ hq)
theorem qlU{n:Nat}{ov:Ov}(h:OvOk n ov){fr:List AV}(hl:fr.length=n)(hg:∀t,t<n->fr[t]? =some (xI t ov)):den n ov=fr:=by
 apply List.ext_getElem?;intro t;rw[qeF h];split
 ·rename_i ht;exact(hg t ht).symm
 ·rename_i ht;exact(List.getElem?_eq_none (by omega)).symm
def opdO(ov:Ov):Operand->AV
 | .tmp t=>xI t ov
 | .const v=>ofValue v
 | .global _=>.junk
 | .func f=>.fn (.func f) [] []
theorem qey{n:Nat}{ov:Ov}(h:OvOk n ov):opd (den n ov)=opdO ov:=by
 funext o
 cases o with
 |tmp t=>
  show(den n ov).getD t .junk=xI t ov;rw[List.getD_eq_getElem?_getD,qeF h];split
  ·rfl
  ·rename_i ht;exact(qgt h ht).symm
 |_=>rfl
def putO(n:Nat)(ov:Ov)(dst:Option Tmp)(v:AV):Ov:=
 match dst with
 |some d=>cond (Nat.blt d n) ((d,v)::ov) ov
 |none=>ov
theorem qhz{n:Nat}{ov:Ov}(h:OvOk n ov)(dst:Option Tmp)(v:AV):OvOk n (putO n ov dst v):=by
 cases dst with
 |none=>exact h
 |some d=>
  simp only[putO];cases hd:Nat.blt d n with
  |false=>exact h
  |true=>
   intro p hp;rw[cond_true]at hp;rcases qAZ.1 hp with rfl|hp
   ·simpa [qBc]using hd
   ·exact h p hp
theorem qe3{n:Nat}{ov:Ov}(dst:Option Tmp)(v:AV):den n (putO n ov dst v)=put (den n ov) dst v:=by
 cases dst with
 |none=>rfl
 |some d=>
  simp only[putO,put];cases hd:Nat.blt d n with
  |true=>rfl
  |false=>
   have hd:¬d<n:=by rw[←Bool.not_eq_true,qBc]at hd;exact hd
   show den n ov=_;rw[List.set_eq_of_length_le (by rw[qeE];exact Nat.le_of_not_lt hd)]
def qcW(ops:Array Oper)(ov:Ov)(o:Oper):Option Bool:=
 match o.guard with
 |none=>some true
 |some (j,want)=>
  match(ops[j]?).bind (·.dst)with
  |some d=>
   match xI d ov with
   | .bool b=>some (b==want)
   | .tup []=>some false
   |_=>none
  |none=>none
theorem qjH{n:Nat}{ov:Ov}(h:OvOk n ov)(ops:Array Oper)(o:Oper):xD ops (den n ov) o=qcW ops ov o:=by
 unfold xD qcW;cases o.guard with
 |none=>rfl
 |some p=>
  obtain⟨j,want⟩:=p;simp only;cases(ops[j]?).bind (·.dst)with
  |none=>rfl
  |some d=>
   simp only;rw[qeF h]
   by_cases hd:d<n
   ·rw[qBj hd];cases xI d ov<;>try rfl
    rename_i vs;cases vs<;>rfl
   ·rw[qBk hd,qgt h hd]
def qnJ(n:Nat)(H:AH)(p v:AV)(k:AH->Option β):Option β:=
 match p with
 | .ptr id r off=>
  match v.cells with
  |some cs=>
   match H[id]? with
   |some (.rows d sz rs)=>
    match rs[r]? with
    |some row=>if cs.length==n&&qAF (off+n) row.length then
      gS (row.take off++cs++row.drop (off+n)) λrow'=>gS (rs.set r row') λrs'=>qca (d&&qz 0 cs) λd'=>gS (H.set id (.rows d' sz rs')) k
     else none
    |none=>none
   |_=>none
  |none=>none
 | .rpt id cs o=>(zy n H (.rpt id cs o) v).bind k
 |_=>none
theorem qtu(n:Nat)(H:AH)(p v:AV)(k:AH->Option β):qnJ n H p v k=(zy n H p v).bind k:=by
 unfold qnJ zy;cases p with
 |ptr id r off=>
  simp only;cases hv:v.cells with
  |none=>simp
  |some cs=>
   simp only;cases hH:H[id]? with
   |none=>simp
   |some b=>
    cases b<;>simp only[Option.bind_none]
    rename_i d sz rs;cases hr:rs[r]? with
    |none=>simp
    |some row=>
     simp only;split<;>simp[zd,qds]
 |rpt id cs o=>rfl
 |_=>simp
def yNew(nid:Option Nat)(H:AH)(b:ABlk)(k:Nat->AH->Option β):Option β:=
 match nid with
 |none=>fNat H.length λi=>gS (H++[b]) λH'=>k i H'
 |some i=>
  match H[i]? with
  |some .res=>gS (H.set i b) λH'=>k i H'
  |_=>none
theorem qq3(nid:Option Nat)(H:AH)(b:ABlk)(k:Nat->AH->Option β):yNew nid H b k=(aNew nid H b).bind λr=>k r.1 r.2:=by
 cases nid with
 |none=>simp[yNew,aNew,yV,zd]
 |some i=>
  simp only[yNew,aNew];cases H[i]? with
  |none=>rfl
  |some b=>cases b<;>simp[zd]
def qtz(cfg:Cfg)(nid:Option Nat)(t:TypeId)(H:AH)(k:AV->AH->Option β):Option β:=
 match cfg.ty t with
 |some ti=>if xp ti.zero then gB (qbe cfg t ti.zero) λb=>yNew nid H b λi H'=>k (.ptr i 0 0) H' else none
 |none=>none
def yBox(cfg:Cfg)(t:TypeId)(nid:Option Nat)(a:AV)(H:AH)(k:AV->AH->Option β):Option β:=
 match a.cells with
 |some cs=>gS cs λcs=>gB (qdy cfg t cs) λb=>yNew nid H b λi H'=>k (.ptr i 0 0) H'
 |none=>none
def yOp(cfg:Cfg)(nid:Option Nat)(o:Op)(ty:TypeId)(x:Operand->AV)(H:AH)(k:AV->AH->Option β):Option β:=
 match o with
 | .move a| .assign a=>gW (x a) λv=>k v H
 | .alloc t=>qtz cfg nid t H k
 | .box t a=>yBox cfg t nid (x a) H k
 | .store t a v=>
  match cfg.sz t with
  |some n=>qnJ n H (x a) (x v) λH'=>k .junk H'
  |none=>none
 | .buildSlice t len parts=>(match qhR cfg nid t len (parts.toList.map λp=>(p.1,x p.2)) H with|some r=>gA r.1 λv=>gH r.2 λH'=>k v H'|none=>none)
 | .convert s d a=>(match zl cfg nid s d (x a) H with|some r=>gA r.1 λv=>gH r.2 λH'=>k v H'|none=>none)
 | .makeSlice t l c=>(match qa0 cfg nid t (x l) (x c) H with|some r=>gA r.1 λv=>gH r.2 λH'=>k v H'|none=>none)
 | .call c=>(match evOp cfg nid (.call c) ty x H with|some r=>gA r.1 λv=>gH r.2 λH'=>k v H'|none=>none)
 |o=>(match xOp cfg nid o ty x H with|some r=>gA r.1 λv=>k v r.2|none=>none)
theorem qyq(cfg:Cfg)(nid:Option Nat)(o:Op)(ty:TypeId)(x:Operand->AV)(H:AH)(k:AV->AH->Option β):yOp cfg nid o ty x H k=(evOp cfg nid o ty x H).bind λr=>k r.1 r.2:=by
 have em:∀(q:Option (AV×AH)),(match q with|some r=>gA r.1 λv=>gH r.2 λH'=>k v H'|none=>none)=q.bind λr=>k r.1 r.2:=λq=>by cases q<;>simp[qb8,qfq]
 have em':∀(q:Option (AV×AH)),(match q with|some r=>gA r.1 λv=>k v r.2|none=>none)=q.bind λr=>k r.1 r.2:=λq=>by cases q<;>simp[qb8]
 cases o with
 |move a=>simp[yOp,evOp,qhI]
 |assign a=>simp[yOp,evOp,qhI]
 |alloc t=>
  simp only[yOp,evOp,qtz];cases cfg.ty t with
  |none=>rfl
  |some ti=>
   simp only;split
   ·simp only[qsQ,qq3];cases aNew nid H (qbe cfg t ti.zero)<;>rfl
   ·rfl
 |box t a=>
  simp only[yOp,evOp,yBox];cases(x a).cells with
  |none=>rfl
  |some cs=>
   simp only[zd,qsQ,qq3];cases aNew nid H (qdy cfg t cs)<;>rfl
 |store t a v=>
  simp only[yOp,evOp];cases cfg.sz t with
  |none=>rfl
  |some n=>
   simp only[qtu];cases zy n H (x a) (x v)<;>rfl
 |buildSlice t len parts=>simp only[yOp];rw[em];rfl
 |convert s d a=>simp only[yOp];rw[em];rfl
 |makeSlice t l c=>simp only[yOp];rw[em];rfl
 |call c=>simp only[yOp];rw[em]
 |_=>simp only[yOp];rw[em',qtB]
structure Fact where
 frz:Bool
 f:Nat
 args:List AV
 v:AV
def Fact.Ok(cfg:Cfg)(e:Fact):Prop:=(if e.frz then EVf (EV cfg) e.f e.args else EVs (EV cfg) e.f e.args)=some e.v
def xE(cfg:Cfg):List Fact->Prop
 |[]=>True
 |e::l=>e.Ok cfg∧xE cfg l
theorem xE.nil{cfg:Cfg}:xE cfg []:=trivial
theorem xE.consF{cfg:Cfg}{f:Nat}{args:List AV}{v:AV}{l:List Fact}(h:EVf (EV cfg) f args=some v)(t:xE cfg l):xE cfg (⟨true,f,args,v⟩::l):=⟨h,t⟩
def qdq(frz:Bool)(f:Nat)(args:List AV)(fs:List Fact):Option AV:=
 List.rec (motive:=λ_=>Option AV) none (λe _ ih=>cond (qAz e.f f&&(e.frz==frz&&zm e.args args)) (some e.v) ih) fs
theorem qeh{cfg:Cfg}{frz:Bool}{f:Nat}{args:List AV}{v:AV}:∀{fs:List Fact},xE cfg fs->qdq frz f args fs=some v->(if frz then EVf (EV cfg) f args else EVs (EV cfg) f args)=some v
 |[],_,h=>by cases h
 |e::l,hok,h=>by
  have hd:qdq frz f args (e::l)=cond (qAz e.f f&&(e.frz==frz&&zm e.args args)) (some e.v) (qdq frz f args l):=rfl;rw[hd]at h;cases hc:(qAz e.f f&&(e.frz==frz&&zm e.args args))with
  |true=>
   rw[hc]at h;simp only[qAw,beq_iff_eq]at hc;cases h;have:=hok.1;unfold Fact.Ok at this;rw[←qAC hc.1,←hc.2.1,←ze hc.2.2];exact this
  |false=>
   rw[hc]at h;exact qeh hok.2 h
def qjn(cfg:Cfg)(cf:Orac)(nid:Option Nat)(t:Tgt)(args:List AV)(H:AH)(k:AV->AH->Option β):Option β:=
 match xr cfg cf nid t args H with
 |some r=>gA r.1 λv=>gH r.2 λH'=>k v H'
 |none=>none
def qtx(_cfg:Cfg)(cf:Orac)(fs:List Fact)(f:Nat)(al:List AV)(k:AV->Option β):Option β:=
 cond (qz 0 al)
  (match qdq false f al fs with
  |some v=>cond v.scalar (k v) none
  |none=>(match cf (.f f) al []with|some r=>gA r.1 λv=>cond v.scalar (k v) none|none=>none)) none
def qty(_cfg:Cfg)(cf:Orac)(fs:List Fact)(f:Nat)(al:List AV)(k:AV->Option β):Option β:=
 cond (qz 0 al)
  (match qdq true f al fs with
  |some v=>cond (v.refsLt 0) (k v) none
  |none=>(match cf (.f f) al []with|some r=>gA (r.1.frz r.1.msIds r.2).fg λv=>cond (v.refsLt 0) (k v) none|none=>none)) none
def qnK(cfg:Cfg)(cf:Orac)(fs:List Fact)(nid:Option Nat)(t:Tgt)(args:List AV)(H:AH)(k:AV->AH->Option β):Option β:=
 match t with
 | .y id=>qjn cfg cf nid (.y id) args H k
 | .f f=>
  match cfg.mode f with
  | .scal=>gL gA (args.map λa=>(a.snap H).fg) λal=>qtx cfg cf fs f al λv=>k v H
  | .pfrz=>gL gA (args.map AV.fg) λal=>qty cfg cf fs f al λv=>k v H
  |_=>qjn cfg cf nid (.f f) args H k
def qtw(cfg:Cfg)(cf:Orac)(fs:List Fact)(nid:Option Nat)(f:AV)(args:List AV)(H:AH)(k:AV->AH->Option β):Option β:=
 match y7 f args with
 |some t=>qnK cfg cf fs nid t.1 t.2 H k
 |none=>none
def Le(cf cf':Orac):Prop:=∀t a H r,cf t a H=some r->cf' t a H=some r
theorem qpM{cfg:Cfg}{cf:Orac}(hcf:Le cf (EV cfg)){fs:List Fact}(hfs:xE cfg fs){nid:Option Nat}{t:Tgt}{args:List AV}{H:AH}{k:AV->AH->Option β}{r:β}(h:qnK cfg cf fs nid t args H k=some r):∃q,xr cfg (EV cfg) nid t args H=some q∧k q.1 q.2=some r:=by
 have hev:Ev (λ_=>EV cfg) cf:=λt a H r h=>⟨0,λ_ _=>hcf t a H r h⟩
 have gen:∀(t:Tgt),qjn cfg cf nid t args H k=some r->∃q,xr cfg (EV cfg) nid t args H=some q∧k q.1 q.2=some r:=by
  intro t h;unfold qjn at h;split at h
  ·rename_i q hq;rw[qb8,qfq]at h;obtain⟨n,hn⟩:=qpw hev cfg nid t args H q hq;exact⟨q,hn n (qAA _),h⟩
  ·cases h
 cases t with
 |y id=>exact gen _ h
 |f f=>
  simp only[qnK]at h;cases hm:cfg.mode f with
  |scal=>
   simp only[hm,zK qb8]at h;unfold qtx at h;obtain⟨h1,h⟩:=qj h;simp only[xr,zU,vn,hm,h1,if_true];split at h
   ·rename_i v hv;obtain⟨h2,h⟩:=qj h;have:=qeh hfs hv;simp only[qAK,if_false]at this;unfold EVs at this;obtain⟨q,hq,rfl⟩:=qAD.1 this;rw[hq];exact⟨(q.1,H),by simp only[qAL,h2,if_true],h⟩
   ·split at h
    ·rename_i q hq;rw[qb8]at h;obtain⟨h2,h⟩:=qj h;rw[hcf _ _ _ _ hq];exact⟨(q.1,H),by simp only[qAL,h2,if_true],h⟩
    ·cases h
  |pfrz=>
   simp only[hm,zK qb8]at h;unfold qty at h;obtain⟨h1,h⟩:=qj h;simp only[xr,zU,vn,hm,h1,if_true];split at h
   ·rename_i v hv;obtain⟨h2,h⟩:=qj h;have:=qeh hfs hv;simp only[if_true]at this;unfold EVf at this;obtain⟨q,hq,rfl⟩:=qAD.1 this;rw[hq];exact⟨((q.1.frz q.1.msIds q.2).fg,H),by simp only[qAL,h2,if_true],h⟩
   ·split at h
    ·rename_i q hq;rw[qb8]at h;obtain⟨h2,h⟩:=qj h;rw[hcf _ _ _ _ hq];exact⟨((q.1.frz q.1.msIds q.2).fg,H),by simp only[qAL,h2,if_true],h⟩
    ·cases h
  |_=>simp only[hm]at h;exact gen _ h
def qc4(cfg:Cfg)(cf:Orac)(fs:List Fact)(nid:Option Nat)(o:Op)(ty:TypeId)(x:Operand->AV)(H:AH)(k:AV->AH->Option β):Option β:=
 match o with
 | .call c=>
  (match c.callee with
  | .value f=>gL gW (c.args.toList.map x) λargs=>qtw cfg cf fs nid (x f) args H k
  |_=>yOp cfg nid (.call c) ty x H k)
 |o=>yOp cfg nid o ty x H k
def qni(cfg:Cfg)(cf:Orac)(fs:List Fact)(frz:Bool)(nid:Option Nat)(o:Oper)(x:Operand->AV)(H:AH)(k:AV->AH->Option β):Option β:=
 match frz with
 |false=>qc4 cfg cf fs nid o.op o.type x H k
 |true=>gS (o.op.operands.toList.flatMap λa=>(x a).msIds) λids=>gH (q4 ids H) λH'=>qc4 cfg cf fs nid o.op o.type (λa=>(x a).frz ids H) H' k
theorem qhQ{cfg:Cfg}{cf:Orac}(hcf:Le cf (EV cfg)){fs:List Fact}(hfs:xE cfg fs){nid:Option Nat}{o:Oper}{x:Operand->AV}{H:AH}{k:AV->AH->Option β}{r:β}(h:qc4 cfg cf fs nid o.op o.type x H k=some r):∃q,vD cfg (EV cfg) false nid o x H=some q∧k q.1 q.2=some r:=by
 obtain⟨dst,op,ty,pos,after,guard⟩:=o;unfold vD;simp only[qAK,if_false]at h⊢;have plain:∀(op:Op),yOp cfg nid op ty x H k=some r->∃q,evOp cfg nid op ty x H=some q∧k q.1 q.2=some r:=by
  intro op h;rw[qyq]at h;exact qAx.1 h
 cases op with
 |call c=>
  obtain⟨callee,args,argTypes⟩:=c;cases callee with
  |value f=>
   simp only[qc4,zK qhI]at h⊢;unfold qtw at h;split at h
   ·rename_i t ht;rw[ht];exact qpM hcf hfs h
   ·cases h
  |builtin b=>simp only[qc4]at h⊢;exact plain _ h
  |invoke rv nm=>simp only[qc4]at h⊢;exact plain _ h
 |_=>simp only[qc4]at h⊢;exact plain _ h
theorem qji{cfg:Cfg}{cf:Orac}(hcf:Le cf (EV cfg)){fs:List Fact}(hfs:xE cfg fs){frz:Bool}{nid:Option Nat}{o:Oper}{x:Operand->AV}{H:AH}{k:AV->AH->Option β}{r:β}(h:qni cfg cf fs frz nid o x H k=some r):∃q,vD cfg (EV cfg) frz nid o x H=some q∧k q.1 q.2=some r:=by
 cases frz with
 |false=>exact qhQ hcf hfs h
 |true=>
  simp only[qni,zd,qfq]at h;obtain⟨q,h1,h2⟩:=qhQ hcf hfs h;refine⟨q,?_,h2⟩;unfold vD at h1⊢
  simpa using h1
def yOps(cfg:Cfg)(cf:Orac)(fs:List Fact)(f rid:Nat)(ops:Array Oper)(n:Nat):Nat->List Oper->Ov->AH->(Ov->AH->Option β)->Option β
 |_,[],ov,H,K=>K ov H
 |i,o::rest,ov,H,K=>
  match qcW ops ov o with
  |none=>none
  |some b=>
   cond b (qni cfg cf fs (cfg.frz f rid i) none o (opdO ov) H λv H'=>yOps cfg cf fs f rid ops n (i+1) rest (putO n ov o.dst v) H' K)
    (yOps cfg cf fs f rid ops n (i+1) rest (putO n ov o.dst (.tup [])) H K)
theorem qfS{cfg:Cfg}{cf:Orac}(hcf:Le cf (EV cfg)){fs:List Fact}(hfs:xE cfg fs){f rid n:Nat}{ops:Array Oper}{r:β}:∀{l:List Oper} {i:Nat} {ov:Ov} {H:AH} {K:Ov->AH->Option β},OvOk n ov->yOps cfg cf fs f rid ops n i l ov H K=some r ->
  ∃ov' H',OvOk n ov'∧zn cfg (EV cfg) f rid ops i l (den n ov) H=some (den n ov',H')∧K ov' H'=some r
 |[],i,ov,H,K,hok,h=>⟨ov,H,hok,rfl,h⟩
 |o::l,i,ov,H,K,hok,h=>by
  rw[yOps]at h;rw[zn,qjH hok];cases hw:qcW ops ov o with
  |none=>rw[hw]at h;cases h
  |some b=>
   rw[hw]at h;simp only[qAL];cases b with
   |true=>
    simp only[cond_true]at h;obtain⟨q,h1,h2⟩:=qji hcf hfs h;simp only[if_true,qey hok,h1,qAL];obtain⟨ov',H',h3,h4,h5⟩:=qfS hcf hfs (qhz hok _ _) h2;rw[qe3]at h4;exact⟨ov',H',h3,h4,h5⟩
   |false=>
    simp only[cond_false]at h;simp only[qAK,if_false];obtain⟨ov',H',h3,h4,h5⟩:=qfS hcf hfs (qhz hok _ _) h;rw[qe3]at h4;exact⟨ov',H',h3,h4,h5⟩
def qjm(cfg:Cfg)(cf:Orac)(fs:List Fact)(f rid:Nat)(ops:Array Oper)(n:Nat):Nat->Nat->List Oper->Ov->AH->(List DR->Ov->AH->Option β)->Option β
 |_,_,[],ov,H,K=>K [] ov H
 |i,at_,o::rest,ov,H,K=>
  match qcW ops ov o with
  |none=>none
  |some b=>
   fNat (at_+qcl cfg o) λat'=>
   cond b (qni cfg cf fs (cfg.frz f rid i) (some at_) o (opdO ov) H λv H'=>qjm cfg cf fs f rid ops n (i+1) at' rest (putO n ov o.dst v) H' λfps ov' H''=>K (drOf cfg (cfg.frz f rid i) at_ o (opdO ov) H v H'::fps) ov' H'')
    (qjm cfg cf fs f rid ops n (i+1) at' rest (putO n ov o.dst (.tup [])) H λfps ov' H''=>K (drNo H::fps) ov' H'')
theorem qeQ{cfg:Cfg}{cf:Orac}(hcf:Le cf (EV cfg)){fs:List Fact}(hfs:xE cfg fs){f rid n:Nat}{ops:Array Oper}{r:β}:∀{l:List Oper} {i at_:Nat} {ov:Ov} {H:AH} {K:List DR->Ov->AH->Option β},OvOk n ov->qjm cfg cf fs f rid ops n i at_ l ov H K=some r ->
  ∃fps ov' H',OvOk n ov'∧ya cfg (EV cfg) f rid ops i at_ l (den n ov) H=some (fps,den n ov',H')∧K fps ov' H'=some r
 |[],i,at_,ov,H,K,hok,h=>⟨[],ov,H,hok,rfl,h⟩
 |o::l,i,at_,ov,H,K,hok,h=>by
  rw[qjm]at h;rw[ya,qjH hok];cases hw:qcW ops ov o with
  |none=>rw[hw]at h;cases h
  |some b=>
   rw[hw]at h;simp only[qAL];simp only[yV]at h;cases b with
   |true=>
    simp only[cond_true]at h;obtain⟨q,h1,h2⟩:=qji hcf hfs h;simp only[if_true,qey hok,h1,qAL];obtain⟨fps,ov',H',h3,h4,h5⟩:=qeQ hcf hfs (qhz hok _ _) h2;rw[qe3]at h4;exact⟨_,ov',H',h3,by rw[h4];rfl,h5⟩
   |false=>
    simp only[cond_false]at h;simp only[qAK,if_false];obtain⟨fps,ov',H',h3,h4,h5⟩:=qeQ hcf hfs (qhz hok _ _) h;rw[qe3]at h4;exact⟨_,ov',H',h3,by rw[h4];rfl,h5⟩
def qcj:Nat->List Nat->Bool
 |_,[]=>true
 |i,k::ks=>qAF i k&&qcj (k+1) ks
def qns(ks:List Nat)(ov:Ov):(Ov->α)->α:=
 List.rec (motive:=λ_=>(Ov->α)->α) (λK=>K []) (λt _ ih K=>gW (xI t ov) λv=>ih λl=>K ((t,v)::l)) ks
theorem qvY(ks:List Nat)(ov:Ov):∀(K:Ov->α),qns ks ov K=K (ks.map λt=>(t,xI t ov)):=by
 induction ks with
 |nil=>intro K;rfl
 |cons t l ih=>
  intro K;have:qns (t::l) ov K=gW (xI t ov) λv=>qns l ov λl=>K ((t,v)::l):=rfl
  rw[this,qhI,ih,qBf]
theorem qcO:∀(ks:List Nat) (fr:List AV) (i t:Nat),qcj i ks=true->(x8 i ks fr)[t]? =if t<fr.length then some (if i+t∈ks then(fr[t]?).getD .junk else .junk)else none
 |ks,[],i,t,_=>by cases ks<;>simp[x8]
 |[],a::fr,i,t,h=>by
  rw[x8];cases t with
  |zero=>simp
  |succ t=>
   simp only[qA3];rw[qcO [] fr i t rfl];simp
 |k::ks,a::fr,i,t,h=>by
  rw[qcj,qAw,qA2]at h;rw[x8];have hge:∀(l:List Nat) (j:Nat),qcj j l=true->∀x∈l,j<=x:=by
   intro l
   induction l with
   |nil=>intro j _ x hx;cases hx
   |cons y l ih=>
    intro j hj x hx;rw[qcj,qAw,qA2]at hj;rcases qAZ.1 hx with rfl|hx
    ·exact hj.1
    ·have:=ih _ hj.2 x hx;omega
  split
  ·rename_i e;have e:=qAC e;subst e;cases t with
   |zero=>simp
   |succ t=>
    simp only[qA3];rw[qcO ks fr (i+1) t h.2];have e1:i+(t+1)=i+1+t:=by omega
    have e2:¬i+1+t=i:=by omega
    simp only[qA0,Nat.add_lt_add_iff_right,e1,qAZ,e2,false_or]
  ·rename_i e;have hne:i≠k:=λh'=>e (by rw[h'];exact qA1 _)
   cases t with
   |zero=>
    have:i ∉ k::ks:=by
     intro hm;rcases qAZ.1 hm with rfl|hm
     ·exact hne rfl
     ·have:=hge _ _ h.2 i hm;omega
    simp[this]
   |succ t=>
    simp only[qA3];rw[qcO (k::ks) fr (i+1) t (by rw[qcj,qAw,qA2];exact⟨by omega,h.2⟩)];have e1:i+(t+1)=i+1+t:=by omega
    simp only[qA0,Nat.add_lt_add_iff_right,e1]
theorem quf(ks:List Nat)(g:Nat->AV)(t:Nat):xI t (ks.map λt=>(t,g t))=if t∈ks then g t else .junk:=by
 induction ks with
 |nil=>rfl
 |cons k l ih=>
  rw[qBf,qbt,ih]
  by_cases e:k=t
  ·subst e;simp
  ·have h1:qAz k t=false:=by rw[←Bool.not_eq_true];intro h';exact e (qAC h')
   have h2:¬t=k:=λh=>e h.symm
   rw[h1,cond_false];simp only[qAZ,h2,false_or]
def qjj(n:Nat)(ts:Option (List Nat))(ov:Ov)(K:Ov->Option β):Option β:=
 match ts with
 |none=>K ov
 |some ks=>cond (qcj 0 ks&&ks.all λt=>Nat.blt t n) (qns ks ov K) none
theorem qeP{n:Nat}{ts:Option (List Nat)}{ov:Ov}{K:Ov->Option β}{r:β}(hok:OvOk n ov)(h:qjj n ts ov K=some r):∃ov',OvOk n ov'∧vR ts (den n ov)=den n ov'∧K ov'=some r:=by
 cases ts with
 |none=>exact⟨ov,hok,rfl,h⟩
 |some ks=>
  simp only[qjj,qvY]at h;cases hc:(qcj 0 ks&&ks.all λt=>Nat.blt t n)with
  |false=>rw[hc]at h;cases h
  |true=>
   rw[hc]at h;rw[qAw,qBd]at hc;have hok':OvOk n (ks.map λt=>(t,xI t ov)):=by
    intro p hp;obtain⟨t,ht,rfl⟩:=List.mem_map.1 hp;have:=hc.2 t ht
    simpa [qBc]using this
   refine⟨_,hok',(qlU hok' ?_ λt ht=>?_).symm,h⟩
   ·show(x8 0 ks (den n ov)).length=n;rw[(qby (ts:=ks) (fr:=den n ov) (k:=0)).1,qeE]
   ·show(x8 0 ks (den n ov))[t]? =_;rw[qcO _ _ _ _ hc.1,qeE,qBj ht,qA5,quf,qeF hok,qBj ht];rfl
def qcH(n:Nat):List (Tmp×Nat)->Ov->AH->(Ov->AH->Option β)->Option β
 |[],ov,H,K=>K ov H
 |p::l,ov,H,K=>
  match xI p.1 ov with
  | .nilS=>fNat H.length λi=>cond (Nat.blt p.1 n) (gS (H++[.rows true p.2 []]) λH'=>qcH n l ((p.1,.ms i 0 0)::ov) H' K) none
  | .ptr _ _ _=>(match yy p.1 p.2 (den n ov) H with|q=>gH q.2 λH'=>qcH n l ov H' K)
  |_=>qcH n l ov H K
theorem qum{t sz:Nat}{fr:List AV}{H:AH}{id r off:Nat}(h:fr[t]? =some (.ptr id r off)):(yy t sz fr H).1=fr:=by
 unfold yy;rw[h];simp only;split
 ·split
  ·split
   ·rfl
   ·split
    ·split<;>rfl
    ·rfl
   ·rfl
  ·rfl
 ·rfl
theorem qaA{n:Nat}{r:β}:∀{ls:List (Tmp×Nat)} {ov:Ov} {H:AH} {K:Ov->AH->Option β},OvOk n ov->qcH n ls ov H K=some r->∃ov' H',OvOk n ov'∧vO ls (den n ov) H=(den n ov',H')∧K ov' H'=some r
 |[],ov,H,K,hok,h=>⟨ov,H,hok,rfl,h⟩
 |p::l,ov,H,K,hok,h=>by
  rw[qcH]at h;rw[vO];have hget:(den n ov)[p.1]? =if p.1<n then some (xI p.1 ov)else none:=qeF hok p.1
  split at h
  ·rename_i hv;simp only[yV]at h;cases hb:Nat.blt p.1 n with
   |false=>rw[hb]at h;cases h
   |true=>
    rw[hb]at h;simp only[cond_true,zd]at h;have hlt:p.1<n:=by simpa [qBc]using hb
    have hl1:yy p.1 p.2 (den n ov) H=(den n ((p.1,.ms H.length 0 0)::ov),H++[.rows true p.2 []]):=by
     unfold yy;rw[hget,qBj hlt,hv];rfl
    rw[hl1];exact qaA (λq hq=>(qAZ.1 hq).elim (λe=>by subst e;exact hlt) (hok q)) h
  ·rename_i id r' off hv;simp only[qfq]at h
   by_cases hlt:p.1<n
   ·rw[qum (by rw[hget,qBj hlt,hv])];exact qaA hok h
   ·rw[qgt hok hlt]at hv;cases hv
  ·rename_i h1 h2;have hl1:yy p.1 p.2 (den n ov) H=(den n ov,H):=by
    unfold yy;rw[hget]
    by_cases hlt:p.1<n
    ·rw[qBj hlt];split
     ·rename_i e;exact absurd (Option.some.inj e) h1
     ·rename_i a b c e;exact absurd (Option.some.inj e) (h2 a b c)
     ·rfl
    ·rw[qBk hlt]
   rw[hl1];exact qaA hok h
def spGo:Nat->List AV->Ov
 |_,[]=>[]
 |i,.junk::l=>spGo (i+1) l
 |i,v::l=>(i,v)::spGo (i+1) l
theorem qn5:∀(l:List AV) (i t:Nat),xI t (spGo i l)=if i<=t then(l[t - i]?).getD .junk else .junk
 |[],i,t=>by simp[spGo,qgs]
 |a::l,i,t=>by
  have ih:=qn5 l (i+1) t;have key:∀(ov:Ov),ov=(i,a)::spGo (i+1) l->xI t ov=if i<=t then((a::l)[t - i]?).getD .junk else .junk:=by
   intro ov e;rw[e,qbt,ih]
   by_cases e2:i=t
   ·subst e2;simp
   ·have h1:qAz i t=false:=by rw[←Bool.not_eq_true];intro h';exact e2 (qAC h')
    simp only[h1,cond_false]
    by_cases h3:i+1<=t
    ·have h4:t - i=(t - (i+1))+1:=by omega
     rw[qBj h3,qBj (by omega),h4,qA3]
    ·rw[qBk h3,qBk (by omega)]
  cases a with
  |junk=>
   show xI t (spGo (i+1) l)=_;rw[ih]
   by_cases h3:i+1<=t
   ·have h4:t - i=(t - (i+1))+1:=by omega
    rw[qBj h3,qBj (by omega),h4,qA3]
   ·rw[qBk h3]
    by_cases e2:i=t
    ·subst e2;simp
    ·rw[qBk (by omega)]
  |_=>exact key _ rfl
theorem qcX:∀(l:List AV) (i n:Nat),i+l.length<=n->OvOk n (spGo i l)
 |[],i,n,_=>λp hp=>by cases hp
 |a::l,i,n,h=>by
  simp only[qA0]at h;have ih:=qcX l (i+1) n (by omega);have key:OvOk n ((i,a)::spGo (i+1) l):=λp hp=>by
   rcases qAZ.1 hp with rfl|hp
   ·show i<n;omega
   ·exact ih p hp
  cases a<;>first|exact key|exact ih
theorem qk6(l:List AV):den l.length (spGo 0 l)=l:=by
 have hok:=qcX l 0 l.length (by omega);refine qlU hok rfl λt ht=>?_
 rw[qn5,qBj (Nat.zero_le _),Nat.sub_zero,qAv ht];rfl
def yGc(n k:Nat)(ov:Ov)(H:AH)(K:Ov->AH->Option β):Option β:=
 cond (qAF H.length k) (K ov H) (match qbG k (den n ov) H with|q=>gS (spGo 0 q.1) λov'=>gL gP ov' λov'=>gH q.2 λH'=>K ov' H')
theorem qvJ(ρ:Nat->Nat)(l:List AV):(renL ρ l).length=l.length:=by rw[zg];simp
theorem quC(k:Nat)(fr:List AV)(H:AH):(qbG k fr H).1.length=fr.length:=by
 unfold qbG;simp only;cases yu H (yk k H (2*H.length+16) [] (q6 k fr++xy k (H.take k)))with
 |none=>rfl
 |some bs=>
  simp only;split
  ·exact qvJ _ _
  ·rfl
theorem qvo{n k:Nat}{ov:Ov}{H:AH}{K:Ov->AH->Option β}{r:β}(hok:OvOk n ov)(h:yGc n k ov H K=some r):∃ov' H',OvOk n ov'∧gc k (den n ov) H=(den n ov',H')∧K ov' H'=some r:=by
 unfold yGc at h;unfold gc;cases hb:qAF H.length k with
 |true=>rw[hb]at h;exact⟨ov,H,hok,by simp,h⟩
 |false=>
  rw[hb]at h;simp only[cond_false]at h;rw[zd,zK qsP,qfq]at h;have hl:(qbG k (den n ov) H).1.length=n:=by rw[quC,qeE]
  have:=qk6 (qbG k (den n ov) H).1;rw[hl]at this;refine⟨_,_,?_,?_,h⟩
  ·exact qcX _ _ _ (by omega)
  ·simp only[qAK,if_false,this]
def qrB(n k:Nat)(ts:Option (List Tmp))(ls:List (Tmp×Nat))(ov:Ov)(H:AH)(K:Ov->AH->Option β):Option β:=
 qjj n ts ov λov=>qcH n ls ov H λov H=>yGc n k ov H K
theorem qjl{n k:Nat}{ts:Option (List Tmp)}{ls:List (Tmp×Nat)}{ov:Ov}{H:AH}{K:Ov->AH->Option β}{r:β}(hok:OvOk n ov)(h:qrB n k ts ls ov H K=some r):
  ∃ov' H',OvOk n ov'∧yH k ts ls (den n ov) H=(den n ov',H')∧K ov' H'=some r:=by
 obtain⟨ov1,h1,h2,h⟩:=qeP hok h;obtain⟨ov2,H2,h3,h4,h⟩:=qaA h1 h;obtain⟨ov3,H3,h5,h6,h⟩:=qvo h3 h;refine⟨ov3,H3,h5,?_,h⟩;unfold yH;rw[h2,h4];exact h6
abbrev YE(β:Type):=Ex->Ov->AH->Option β
def qnj(n k:Nat)(ts:Option (List Tmp))(ls:List (Tmp×Nat))(body:Ov->AH->YE β->Option β):Nat->Ov->AH->YE β->Option β
 |0,_,_,_=>none
 |m+1,ov,H,K=>body ov H λe ov' H'=>
  match e with
  | .normal=>qrB n k ts ls ov' H' λov2 H2=>qnj n k ts ls body m ov2 H2 K
  |e=>K e ov' H'
def qtv(cfg:Cfg)(cf:Orac)(f:Nat)(rd:Option Nat)(n bs:Nat)(g:Operand)(ps:Array Tmp)(assign body:Code)(ov:Ov)(H:AH)(K:YE β):Option β:=
 gL gW (den n ov) λfr=>
 match qae cfg cf f rd bs g ps assign body fr H with
 |none=>none
 |some q=>gS (spGo 0 q.2.1) λov'=>gL gP ov' λov'=>gH q.2.2 λH'=>cond (qAz q.2.1.length n) (K q.1 ov' H') none
def yC(cfg:Cfg)(cf:Orac)(fs:List Fact)(m f:Nat)(rd:Option Nat)(n bs:Nat):Code->Ov->AH->YE β->Option β
 | .skip,ov,H,K=>K .normal ov H
 | .label _,ov,H,K=>K .normal ov H
 | .region id ops draw,ov,H,K=>
  match draw with
  |true=>cond (qaw ops) (gS (H++qAU (places cfg ops.toList) .res) λH1=>qjm cfg cf fs f id ops n 0 H.length ops.toList ov H1 λfps ov' H'=>cond (qc1 (ancs [] ops.toList) H1 fps) (K .normal ov' H') none) none
  |false=>yOps cfg cf fs f id ops n 0 ops.toList ov H λov' H'=>K .normal ov' H'
 | .seq a b,ov,H,K=>
  match qcx a with
  |some p=>
   gL gW (den n ov) λfr=>
   match(zL cfg cf f p.1 p.2 p.2.size [] fr H).bind λL=>zZ (λfr H=>(xC cfg cf m f rd bs b (vR (cfg.cut f (qn b)) fr) H).map (qhK bs (dsts a++dsts b))) L with
   |none=>none
   |some q=>gS (spGo 0 q.2.1) λov'=>gL gP ov' λov'=>gH q.2.2 λH'=>cond (qAz q.2.1.length n) (K q.1 ov' H') none
  |none=>yC cfg cf fs m f rd n bs a ov H λe ov' H'=>
   match e with
   | .normal=>qjj n (cfg.cut f (qn b)) ov' λov2=>yC cfg cf fs m f rd n bs b ov2 H' K
   |e=>K e ov' H'
 | .cond c a b,ov,H,K=>
  match opdO ov c with
  | .bool t=>(match t with|true=>yC cfg cf fs m f rd n bs a ov H K|false=>yC cfg cf fs m f rd n bs b ov H K)
  |_=>none
 | .block id a,ov,H,K=>yC cfg cf fs m f rd n bs a ov H λe ov' H'=>
  match e with
  | .exit id'=>cond (qAz id' id) (K .normal ov' H') (K (.exit id') ov' H')
  |e=>K e ov' H'
 | .loop a,ov,H,K=>qrB n bs (cfg.keepIn f (qn a)) (cfg.lift f (qn a)) ov H λov H=>
   qnj n bs (cfg.keepIn f (qn a)) (cfg.lift f (qn a)) (yC cfg cf fs m f rd n bs a) m ov H λe ov H=>qjj n (cfg.keepOut f (qn a)) ov λov=>K e ov H
 | .scope a,ov,H,K=>yC cfg cf fs m f rd n bs a ov H λe ov' H'=>
  match e with
  | .goto _=>none
  |e=>K e ov' H'
 | .exit id,ov,H,K=>K (.exit id) ov H
 | .goto _,_,_,_=>none
 | .ret,ov,H,K=>K .ret ov H
 | .rangeFunc g ps assign body,ov,H,K=>qcH n (cfg.lift f (qn body)) ov H λov H=>qtv cfg cf f rd n bs g ps assign body ov H K
 | .refuse _,_,_,_=>none
theorem qjk{n k:Nat}{ts:Option (List Tmp)}{ls:List (Tmp×Nat)}{body:Ov->AH->YE β->Option β}{den':Den}{r:β}(hb:∀{ov H K},OvOk n ov->body ov H K=some r->∃e ov' H',OvOk n ov'∧den' (den n ov) H=some (e,den n ov',H')∧K e ov' H'=some r):
  ∀(m:Nat) {ov:Ov} {H:AH} {K:YE β},OvOk n ov->qnj n k ts ls body m ov H K=some r->∃e ov' H',OvOk n ov'∧yx k ts ls den' m (den n ov,H)=some (e,den n ov',H')∧K e ov' H'=some r
 |0,ov,H,K,_,h=>by cases h
 |m+1,ov,H,K,hok,h=>by
  rw[qnj]at h;obtain⟨e,ov1,H1,h1,h2,h3⟩:=hb hok h;rw[yx];simp only[h2,qAL];cases e with
  |normal=>
   simp only at h3⊢;obtain⟨ov2,H2,h4,h5,h6⟩:=qjl h1 h3;rw[h5];exact qjk hb m h4 h6
  |exit id=>exact⟨_,ov1,H1,h1,rfl,h3⟩
  |goto l=>exact⟨_,ov1,H1,h1,rfl,h3⟩
  |ret=>exact⟨_,ov1,H1,h1,rfl,h3⟩
theorem qlr{cfg:Cfg}{cf:Orac}(hcf:Le cf (EV cfg)){fs:List Fact}(hfs:xE cfg fs){m f:Nat}{rd:Option Nat}{n bs:Nat}{r:β}:∀(c:Code) {ov:Ov} {H:AH} {K:YE β},OvOk n ov->yC cfg cf fs m f rd n bs c ov H K=some r ->
  ∃e ov' H',OvOk n ov'∧evC cfg (EV cfg) f rd bs c (den n ov) H=some (e,den n ov',H')∧K e ov' H'=some r:=by
 intro c
 induction c with
 |skip=>intro ov H K hok h;exact⟨_,ov,H,hok,by simp only[evC],h⟩
 |label l=>intro ov H K hok h;exact⟨_,ov,H,hok,by simp only[evC],h⟩
 |exit id=>intro ov H K hok h;exact⟨_,ov,H,hok,by simp only[evC],h⟩
 |ret=>intro ov H K hok h;exact⟨_,ov,H,hok,by simp only[evC],h⟩
 |goto l=>intro ov H K hok h;cases h
 |refuse s=>intro ov H K hok h;cases h
 |region id ops draw=>
  intro ov H K hok h;simp only[yC]at h;simp only[evC];cases draw with
  |true=>
   simp only at h;obtain⟨h1,h⟩:=qj h;rw[zd]at h;obtain⟨fps,ov',H',h2,h3,h⟩:=qeQ hcf hfs hok h;obtain⟨h4,h⟩:=qj h;exact⟨_,ov',H',h2,by simp only[if_true,h1,h3,qAL,h4],h⟩
  |false=>
   simp only at h;obtain⟨ov',H',h2,h3,h⟩:=qfS hcf hfs hok h;exact⟨_,ov',H',h2,by simp only[qAK,if_false,h3,qAW],h⟩
 |seq x y ihx ihy=>
  intro ov H K hok h;simp only[yC]at h;simp only[evC];cases hco:qcx x with
  |some p=>
   simp only[hco]at h⊢;rw[zK qhI]at h;split at h
   ·cases h
   ·rename_i q hq;obtain⟨L,hL,hq⟩:=qAx.1 hq;have hev:Ev (λ_=>EV cfg) cf:=λt a H r h=>⟨0,λ_ _=>hcf t a H r h⟩
    obtain⟨_,hL'⟩:=qi8 hev cfg f p.1 p.2 _ _ _ _ _ hL;have hL':zL cfg (EV cfg) f p.1 p.2 p.2.size [] (den n ov) H=some L:=hL' _ (qAA _);have hq':=qof (G:=λfr H=>(evC cfg (EV cfg) f rd bs y (vR (cfg.cut f (qn y)) fr) H).map (qhK bs (dsts x++dsts y))) (λfr H r hr=>by
     obtain⟨r',hr',e⟩:=qAD.1 hr;rw[qAd cfg hcf m f rd bs y _ _ _ hr',←e];rfl) hq
    rw[zd,zK qsP,qfq]at h;obtain⟨hl,h⟩:=qj h;have hl:=qAC hl;have hd:=qk6 q.2.1;rw[hl]at hd;refine⟨q.1,_,q.2.2,?_,?_,h⟩
    ·exact qcX _ _ _ (by omega)
    ·rw[hL',qAL,hq',hd]
  |none=>?_
  simp only[hco]at h⊢;obtain⟨e,ov1,H1,h1,h2,h⟩:=ihx hok h;rw[h2];simp only[qAL];cases e with
  |normal=>
   simp only at h⊢;obtain⟨ov2,h3,h4,h⟩:=qeP h1 h;rw[h4];exact ihy h3 h
  |exit id=>exact⟨_,ov1,H1,h1,rfl,h⟩
  |goto l=>exact⟨_,ov1,H1,h1,rfl,h⟩
  |ret=>exact⟨_,ov1,H1,h1,rfl,h⟩
 |cond c x y ihx ihy=>
  intro ov H K hok h;simp only[yC]at h;simp only[evC,qey hok];split at h
  ·rename_i t ht;rw[ht];cases t with
   |true=>exact ihx hok h
   |false=>exact ihy hok h
  ·cases h
 |block id x ih=>
  intro ov H K hok h;simp only[yC]at h;simp only[evC];obtain⟨e,ov1,H1,h1,h2,h⟩:=ih hok h;rw[h2];simp only[qAL];cases e with
  |normal=>exact⟨_,ov1,H1,h1,rfl,h⟩
  |exit id'=>
   simp only at h⊢;cases hb:qAz id' id with
   |true=>rw[hb]at h;exact⟨_,ov1,H1,h1,by simp,h⟩
   |false=>rw[hb]at h;exact⟨_,ov1,H1,h1,by simp,h⟩
  |goto l=>exact⟨_,ov1,H1,h1,rfl,h⟩
  |ret=>exact⟨_,ov1,H1,h1,rfl,h⟩
 |loop x ih=>
  intro ov H K hok h;simp only[yC]at h;simp only[evC];obtain⟨ov1,H1,h1,h2,h⟩:=qjl hok h;rw[h2];obtain⟨e,ov2,H2,h3,h4,h⟩:=qjk (den':=evC cfg (EV cfg) f rd bs x) (λhok h=>ih hok h) m h1 h;obtain⟨ov3,h5,h6,h⟩:=qeP h3 h;rw[qeM h4];exact⟨e,ov3,H2,h5,by simp only[qAW,h6],h⟩
 |scope x ih=>
  intro ov H K hok h;simp only[yC]at h;simp only[evC];obtain⟨e,ov1,H1,h1,h2,h⟩:=ih hok h;rw[h2];simp only[qAL];cases e with
  |goto l=>cases h
  |normal=>exact⟨_,ov1,H1,h1,rfl,h⟩
  |exit id=>exact⟨_,ov1,H1,h1,rfl,h⟩
  |ret=>exact⟨_,ov1,H1,h1,rfl,h⟩
 |rangeFunc g ps assign body=>
  intro ov H K hok h;simp only[yC]at h;simp only[evC];obtain⟨ov1,H1,h1,h2,h⟩:=qaA hok h;rw[h2];simp only;unfold qtv at h;rw[zK qhI]at h;split at h
  ·cases h
  ·rename_i q hq;have hq:qae cfg (EV cfg) f rd bs g ps assign body (den n ov1) H1=some q:=by
    unfold qae at hq⊢;split at hq
    ·rename_i hl;rw[qBj hl];split at hq
     ·split at hq
      ·cases hq
      ·rename_i hx;rw[qBk hx];obtain⟨q2,hq2,hq⟩:=qAx.1 hq;rw[hcf _ _ _ _ hq2];exact hq
     ·cases hq
    ·cases hq
   rw[zd,zK qsP,qfq]at h;obtain⟨hl,h⟩:=qj h;have hl:=qAC hl;have hd:=qk6 q.2.1;rw[hl]at hd;refine⟨q.1,_,q.2.2,?_,?_,h⟩
   ·exact qcX _ _ _ (by omega)
   ·rw[hq,hd]
def resO(rs:List ResultVar)(ty:TypeId->Option TI)(ov:Ov)(H:AH):Option (List AV):=
 match rs with
 |[]=>some []
 | .tmp t::l=>(resO l ty ov H).map λvs=>xI t ov::vs
 | .cell a t::l=>
  match ty t with
  |some ti=>(zO ti.d.agg ti.sz H (xI a ov)).bind λv=>(resO l ty ov H).map λvs=>v::vs
  |none=>none
theorem qlG{n:Nat}{ov:Ov}(hok:OvOk n ov)(ty:TypeId->Option TI)(H:AH):∀rs:List ResultVar,xV rs ty (den n ov) H=resO rs ty ov H
 |[]=>rfl
 | .tmp t::l=>by
  have:(den n ov).getD t .junk=xI t ov:=congrFun (qey hok) (.tmp t);simp only[xV,resO,qlG hok ty H l,this]
 | .cell a t::l=>by
  have:(den n ov).getD a .junk=xI a ov:=congrFun (qey hok) (.tmp a);simp only[xV,resO,qlG hok ty H l,this];cases ty t<;>rfl
def yEnd(cfg:Cfg)(f n:Nat)(rs:List ResultVar):YE (AV×AH):=λe ov H=>
 match e with
 | .normal| .ret=>qcH n (cfg.lift f 0) ov H λov H=>(match resO rs cfg.ty ov H with|some vs=>gA (zs vs) λv=>some (v,H)|none=>none)
 |_=>none
def qfv:Nat->List AV->Ov
 |_,[]=>[]
 |i,a::l=>(i,a)::qfv (i+1) l
theorem qjc:∀(l:List AV) (i n:Nat),i+l.length<=n->OvOk n (qfv i l)
 |[],i,n,_=>λp hp=>by cases hp
 |a::l,i,n,h=>by
  simp only[qA0]at h;intro p hp;rcases qAZ.1 hp with rfl|hp
  ·show i<n;omega
  ·exact qjc l (i+1) n (by omega) p hp
theorem qmN:∀(l:List AV) (i t:Nat),xI t (qfv i l)=if i<=t then(l[t - i]?).getD .junk else .junk
 |[],i,t=>by simp[qfv,qgs]
 |a::l,i,t=>by
  rw[qfv,qbt,qmN l (i+1) t]
  by_cases e2:i=t
  ·subst e2;simp
  ·have h1:qAz i t=false:=by rw[←Bool.not_eq_true];intro h';exact e2 (qAC h')
   simp only[h1,cond_false]
   by_cases h3:i+1<=t
   ·have h4:t - i=(t - (i+1))+1:=by omega
    rw[qBj h3,qBj (by omega),h4,qA3]
   ·rw[qBk h3,qBk (by omega)]
theorem qwe{l:List AV}{n:Nat}(h:l.length<=n):den n (qfv 0 l)=l++qAU (n - l.length) .junk:=by
 refine qlU (qjc l 0 n (by omega)) (by simp;omega) λt ht=>?_
 rw[qmN,qBj (Nat.zero_le _),Nat.sub_zero]
 by_cases hl:t<l.length
 ·rw[qAN hl,qAv hl];rfl
 ·rw[qAP (by omega),List.getElem?_replicate,qBj (by omega),List.getElem?_eq_none (by omega)];rfl
def yY2(id:Nat):YE (AV×AH):=λe _ H=>
 match H[id]? with
 |some (.loop f' fr' ps' assign' body' _ _)=>
  match e with
  | .normal=>gS (H.set id (.loop f' fr' ps' assign' body' none .ready)) λH'=>some (.bool true,H')
  | .ret=>gS (H.set id (.loop f' fr' ps' assign' body' (some .ret) .done)) λH'=>some (.bool false,H')
  | .exit x=>gS (H.set id (.loop f' fr' ps' assign' body' (some (.exit x)) .done)) λH'=>some (.bool false,H')
  | .goto _=>none
 |_=>none
def yF(cfg:Cfg)(look:Nat->Option Func)(fs:List Fact)(m:Nat):Nat->Orac
 |0,_,_,_=>none
 |d+1,.f f,args,H=>
  match cfg.ext f with
  |some s=>s args H
  |none=>
   if cfg.known f then
    match look f with
    |some fn=>
     match fn.body with
     |some c=>cond (qAF args.length fn.ntmps) (fNat H.length λbs=>fNat fn.ntmps λn=>gS (qfv 0 args) λov=>yC cfg (yF cfg look fs m d) fs m f none n bs c ov H (yEnd cfg f n fn.results.toList)) none
     |none=>none
    |none=>none
   else none
 |d+1,.y id,args,H=>
  match H[id]? with
  |some (.loop f fr ps assign body _ .ready)=>
   cond (qAz args.length ps.length)
    (fNat H.length λbs=>fNat (yP fr ps args).length λn=>gS (spGo 0 (yP fr ps args)) λov=>yC cfg (yF cfg look fs m d) fs m f (some id) n bs assign ov H λe ov H=>
     match e with
     | .normal=>
      (match H[id]? with
      |some (.loop f' fr' ps' assign' body' pend' .ready)=>gS (H.set id (.loop f' fr' ps' assign' body' pend' .busy)) λH'=>yC cfg (yF cfg look fs m d) fs m f (some id) n bs body ov H' (yY2 id)
      |_=>none)
     |_=>none) none
  |_=>none
theorem qrC(cfg:Cfg){look:Nat->Option Func}(hl:∀f fn,look f=some fn->cfg.P.funcs[f]? =some fn){fs:List Fact}(hfs:xE cfg fs)(m:Nat):∀(d:Nat) (t:Tgt) (a:List AV) (H:AH) (r),yF cfg look fs m d t a H=some r->EV cfg t a H=some r
 |0,_,_,_,_,h=>by cases h
 |d+1,t,a,H,r,h=>by
  have ih:=qrC cfg hl hfs m d;refine qlp ?_;cases t with
  |f f=>
   simp only[yF]at h;unfold xl;split at h
   ·rename_i s hs;simp only[hs];exact h
   ·rename_i hs;simp only[hs];split at h
    ·rename_i hk;rw[qBj hk];split at h
     ·rename_i fn hf;simp only[hl f fn hf];split at h
      ·rename_i c hb;simp only[hb];obtain⟨hle,h⟩:=qj h;rw[qA2]at hle;simp only[yV,zd]at h;obtain⟨e,ov',H',h1,h2,h3⟩:=qlr ih hfs c (qjc a 0 fn.ntmps (by omega)) h;rw[qwe hle]at h2;rw[h2];simp only[qAL];unfold yEnd at h3;have fin:∀(e:Ex),(e= .normal∨e= .ret)->(qcH fn.ntmps (cfg.lift f 0) ov' H' λov H=>(match resO fn.results.toList cfg.ty ov H with|some vs=>gA (zs vs) λv=>some (v,H)|none=>none))=some r ->
         qcs cfg fn.results.toList (e,vO (cfg.lift f 0) (den fn.ntmps ov') H')=some r:=by
        intro e he h3;obtain⟨ov2,H2,h4,h5,h6⟩:=qaA h1 h3;rw[h5];unfold qcs;rcases he with rfl|rfl<;>
        ·simp only[qlG h4];split at h6
         ·rename_i vs hv;rw[qb8]at h6;rw[hv];exact h6
         ·cases h6
       cases e with
       |normal=>exact fin _ (.inl rfl) h3
       |ret=>exact fin _ (.inr rfl) h3
       |exit x=>cases h3
       |goto l=>cases h3
      ·cases h
     ·cases h
    ·cases h
  |y id=>
   simp only[yF]at h;unfold xl;split at h
   ·rename_i f fr ps assign body p hlp;simp only[hlp];obtain⟨hlen,h⟩:=qj h;rw[qBj (qAC hlen)];simp only[yV,zd]at h;obtain⟨e,ov1,H1,h1,h2,h3⟩:=qlr ih hfs assign (qcX _ 0 _ (by omega)) h;rw[qk6]at h2;rw[h2];simp only[qAL];cases e with
    |normal=>
     simp only at h3⊢;split at h3
     ·rename_i f' fr' ps' assign' body' pend' hl1;simp only[hl1];obtain⟨e2,ov2,H2,h4,h5,h6⟩:=qlr ih hfs body h1 h3;rw[h5];simp only[qAL];unfold yY2 at h6;split at h6
      ·rename_i hl2;simp only[hl2];cases e2 with
       |normal=>simp only[zd]at h6;exact h6
       |ret=>simp only[zd]at h6;exact h6
       |exit x=>simp only[zd]at h6;exact h6
       |goto l=>cases h6
      ·cases h6
     ·cases h3
    |exit x=>cases h3
    |goto l=>cases h3
    |ret=>cases h3
   ·cases h
theorem qyM{cfg:Cfg}{look:Nat->Option Func}(hl:∀f fn,look f=some fn->cfg.P.funcs[f]? =some fn){fs:List Fact}(hfs:xE cfg fs){f:Nat}{args:List AV}{v:AV}(m d:Nat)(h:(match yF cfg look fs m d (.f f) args []with|some r=>some r.1|none=>none)=some v):EVs (EV cfg) f args=some v:=by
 unfold EVs;cases hx:yF cfg look fs m d (.f f) args []with
 |none=>rw[hx]at h;cases h
 |some r=>rw[hx]at h;rw[qrC cfg hl hfs m d _ _ _ _ hx];exact h
theorem qyN{cfg:Cfg}{look:Nat->Option Func}(hl:∀f fn,look f=some fn->cfg.P.funcs[f]? =some fn){fs:List Fact}(hfs:xE cfg fs){f:Nat}{args:List AV}{v:AV}(m d:Nat)(h:(match yF cfg look fs m d (.f f) args []with|some r=>gA (r.1.frz r.1.msIds r.2).fg some|none=>none)=some v):EVf (EV cfg) f args=some v:=by
 unfold EVf;cases hx:yF cfg look fs m d (.f f) args []with
 |none=>rw[hx]at h;cases h
 |some r=>rw[hx]at h;rw[qrC cfg hl hfs m d _ _ _ _ hx];simp only[qb8]at h;exact h
end
def qkW:List AV->AH->Option (AV×AH)
 |[.str a,.str b],H=>some (.int .i64 (if a==b then 0 else if Op.bytesLess a b then -1 else 1),H)
 |_,_=>none
end Go.Av
end
noncomputable section
namespace Go.Proofs.YtafdkafbgohigaaGreat
open Go.Av
def zro0:List AV:=[.int .u64 0,.int .u64 0,.int .u32 0,.int .u8 0,.int .u8 0,.int .u8 0,.int .u8 0,.nilF,.nilP,.int .i32 0,.int .i32 0]
def qnn:BT TI:=.node 128 ⟨.func,1,8,[.nilF],false⟩ (.node 67 ⟨.struct [(0,65),(1,25),(5,3)],6,88,[.nilS,.int .i64 0,.int .i64 0,.str [],.nilS,.int .i64 0],false⟩ (.node 34 ⟨.func,1,8,[.nilF],false⟩ (.node 19 ⟨.struct [(0,17)],1,8,[.nilP],false⟩ (.node 9 ⟨.str,1,16,[.str []],false⟩ (.node 4 ⟨.bool,1,1,[.bool false],false⟩ (.node 2 ⟨.int .i64,1,8,[.int .i64 0],false⟩ (.node 1 ⟨.func,1,8,[.nilF],false⟩ .leaf .leaf) (.node 3 ⟨.int .i64,1,8,[.int .i64 0],false⟩ .leaf .leaf)) (.node 6 ⟨.int .u8,1,1,[.int .u8 0],false⟩ (.node 5 ⟨.int .u8,1,1,[.int .u8 0],false⟩ .leaf .leaf) (.node 7 ⟨.struct [(0,2),(1,3),(2,4),(3,6)],4,24,[.int .i64 0,.int .i64 0,.bool false,.int .u8 0],true⟩ .leaf .leaf))) (.node 16 ⟨.ptr 289,1,8,[.nilP],false⟩ (.node 13 ⟨.struct [(0,9),(1,12)],2,24,[.str [],.int .u64 0],false⟩ (.node 12 ⟨.int .u64,1,8,[.int .u64 0],false⟩ .leaf .leaf) (.node 15 ⟨.ptr 286,1,8,[.nilP],false⟩ .leaf .leaf)) (.node 18 ⟨.struct [(0,17)],1,8,[.nilP],false⟩ (.node 17 ⟨.ptr 298,1,8,[.nilP],false⟩ .leaf .leaf) .leaf))) (.node 26 ⟨.func,1,8,[.nilF],false⟩ (.node 23 ⟨.slice 25,1,24,[.nilS],false⟩ (.node 21 ⟨.int .i32,1,4,[.int .i32 0],false⟩ (.node 20 ⟨.iface,1,16,[.nilI],false⟩ .leaf .leaf) (.node 22 ⟨.slice 29,1,24,[.nilS],false⟩ .leaf .leaf)) (.node 25 ⟨.struct [(0,3),(1,3),(2,9),(3,23)],4,56,[.int .i64 0,.int .i64 0,.str [],.nilS],false⟩ (.node 24 ⟨.struct [(0,3),(1,3),(2,9),(3,23)],4,56,[.int .i64 0,.int .i64 0,.str [],.nilS],false⟩ .leaf .leaf) .leaf)) (.node 30 ⟨.func,1,8,[.nilF],false⟩ (.node 28 ⟨.struct [(0,3),(1,3),(2,3),(3,25)],7,80,[.int .i64 0,.int .i64 0,.int .i64 0,.int .i64 0,.int .i64 0,.str [],.nilS],false⟩ (.node 27 ⟨.func,1,8,[.nilF],false⟩ .leaf .leaf) (.node 29 ⟨.struct [(0,3),(1,3),(2,3),(3,25)],7,80,[.int .i64 0,.int .i64 0,.int .i64 0,.int .i64 0,.int .i64 0,.str [],.nilS],false⟩ .leaf .leaf)) (.node 32 ⟨.int .i64,1,8,[.int .i64 0],false⟩ (.node 31 ⟨.func,1,8,[.nilF],false⟩ .leaf .leaf) .leaf)))) (.node 50 ⟨.func,1,8,[.nilF],false⟩ (.node 41 ⟨.func,1,8,[.nilF],false⟩ (.node 38 ⟨.func,1,8,[.nilF],false⟩ (.node 36 ⟨.func,1,8,[.nilF],false⟩ (.node 35 ⟨.func,1,8,[.nilF],false⟩ .leaf .leaf) (.node 37 ⟨.func,1,8,[.nilF],false⟩ .leaf .leaf)) (.node 40 ⟨.slice 3,1,24,[.nilS],false⟩ (.node 39 ⟨.func,1,8,[.nilF],false⟩ .leaf .leaf) .leaf)) (.node 46 ⟨.func,1,8,[.nilF],false⟩ (.node 44 ⟨.func,1,8,[.nilF],false⟩ (.node 43 ⟨.func,1,8,[.nilF],false⟩ .leaf .leaf) (.node 45 ⟨.func,1,8,[.nilF],false⟩ .leaf .leaf)) (.node 49 ⟨.func,1,8,[.nilF],false⟩ (.node 47 ⟨.func,1,8,[.nilF],false⟩ .leaf .leaf) .leaf))) (.node 58 ⟨.ptr 120,1,8,[.nilP],false⟩ (.node 54 ⟨.ptr 126,1,8,[.nilP],false⟩ (.node 52 ⟨.slice 67,1,24,[.nilS],false⟩ (.node 51 ⟨.slice 9,1,24,[.nilS],false⟩ .leaf .leaf) (.node 53 ⟨.func,1,8,[.nilF],false⟩ .leaf .leaf)) (.node 57 ⟨.func,1,8,[.nilF],false⟩ (.node 55 ⟨.ptr 70,1,8,[.nilP],false⟩ .leaf .leaf) .leaf)) (.node 64 ⟨.func,1,8,[.nilF],false⟩ (.node 61 ⟨.ptr 74,1,8,[.nilP],false⟩ (.node 60 ⟨.func,1,8,[.nilF],false⟩ .leaf .leaf) (.node 63 ⟨.func,1,8,[.nilF],false⟩ .leaf .leaf)) (.node 66 ⟨.struct [(0,65),(1,25),(5,3)],6,88,[.nilS,.int .i64 0,.int .i64 0,.str [],.nilS,.int .i64 0],false⟩ (.node 65 ⟨.slice 118,1,24,[.nilS],false⟩ .leaf .leaf) .leaf))))) (.node 96 ⟨.func,1,8,[.nilF],false⟩ (.node 82 ⟨.func,1,8,[.nilF],false⟩ (.node 74 ⟨.struct [(0,55),(1,25),(5,22),(6,3)],7,96,[.nilP,.int .i64 0,.int .i64 0,.str [],.nilS,.nilS,.int .i64 0],false⟩ (.node 71 ⟨.func,1,8,[.nilF],false⟩ (.node 69 ⟨.struct [(0,51)],1,24,[.nilS],false⟩ (.node 68 ⟨.func,1,8,[.nilF],false⟩ .leaf .leaf) (.node 70 ⟨.struct [(0,51)],1,24,[.nilS],false⟩ .leaf .leaf)) (.node 73 ⟨.struct [(0,55),(1,25),(5,22),(6,3)],7,96,[.nilP,.int .i64 0,.int .i64 0,.str [],.nilS,.nilS,.int .i64 0],false⟩ (.node 72 ⟨.func,1,8,[.nilF],false⟩ .leaf .leaf) .leaf)) (.node 79 ⟨.func,1,8,[.nilF],false⟩ (.node 76 ⟨.func,1,8,[.nilF],false⟩ (.node 75 ⟨.func,1,8,[.nilF],false⟩ .leaf .leaf) (.node 78 ⟨.func,1,8,[.nilF],false⟩ .leaf .leaf)) (.node 81 ⟨.func,1,8,[.nilF],false⟩ (.node 80 ⟨.func,1,8,[.nilF],false⟩ .leaf .leaf) .leaf))) (.node 89 ⟨.func,1,8,[.nilF],false⟩ (.node 86 ⟨.struct [(0,25),(4,3),(5,23),(6,23),(7,85),(8,4)],9,128,[.int .i64 0,.int .i64 0,.str [],.nilS,.int .i64 0,.nilS,.nilS,.nilM,.bool false],false⟩ (.node 84 ⟨.ptr 87,1,8,[.nilP],false⟩ (.node 83 ⟨.func,1,8,[.nilF],false⟩ .leaf .leaf) (.node 85 ⟨.map 3 25,1,8,[.nilM],false⟩ .leaf .leaf)) (.node 88 ⟨.int .i64,1,8,[.int .i64 0],false⟩ (.node 87 ⟨.struct [(0,25),(4,3),(5,23),(6,23),(7,85),(8,4)],9,128,[.int .i64 0,.int .i64 0,.str [],.nilS,.int .i64 0,.nilS,.nilS,.nilM,.bool false],false⟩ .leaf .leaf) .leaf)) (.node 93 ⟨.slice 188,1,24,[.nilS],false⟩ (.node 91 ⟨.func,1,8,[.nilF],false⟩ (.node 90 ⟨.func,1,8,[.nilF],false⟩ .leaf .leaf) (.node 92 ⟨.ptr 95,1,8,[.nilP],false⟩ .leaf .leaf)) (.node 95 ⟨.struct [(0,25),(4,3),(5,23),(6,23),(7,93),(8,4)],9,144,[.int .i64 0,.int .i64 0,.str [],.nilS,.int .i64 0,.nilS,.nilS,.nilS,.bool false],false⟩ (.node 94 ⟨.struct [(0,25),(4,3),(5,23),(6,23),(7,93),(8,4)],9,144,[.int .i64 0,.int .i64 0,.str [],.nilS,.int .i64 0,.nilS,.nilS,.nilS,.bool false],false⟩ .leaf .leaf) .leaf)))) (.node 112 ⟨.func,1,8,[.nilF],false⟩ (.node 104 ⟨.struct [(0,22)],1,24,[.nilS],false⟩ (.node 101 ⟨.func,1,8,[.nilF],false⟩ (.node 98 ⟨.func,1,8,[.nilF],false⟩ (.node 97 ⟨.func,1,8,[.nilF],false⟩ .leaf .leaf) (.node 99 ⟨.slice 106,1,24,[.nilS],false⟩ .leaf .leaf)) (.node 103 ⟨.struct [(0,22)],1,24,[.nilS],false⟩ (.node 102 ⟨.ptr 104,1,8,[.nilP],false⟩ .leaf .leaf) .leaf)) (.node 108 ⟨.func,1,8,[.nilF],false⟩ (.node 106 ⟨.struct [(0,25),(4,23),(5,23)],6,104,[.int .i64 0,.int .i64 0,.str [],.nilS,.nilS,.nilS],false⟩ (.node 105 ⟨.struct [(0,25),(4,23),(5,23)],6,104,[.int .i64 0,.int .i64 0,.str [],.nilS,.nilS,.nilS],false⟩ .leaf .leaf) (.node 107 ⟨.func,1,8,[.nilF],false⟩ .leaf .leaf)) (.node 110 ⟨.func,1,8,[.nilF],false⟩ (.node 109 ⟨.func,1,8,[.nilF],false⟩ .leaf .leaf) .leaf))) (.node 121 ⟨.func,1,8,[.nilF],false⟩ (.node 118 ⟨.int .u64,1,8,[.int .u64 0],false⟩ (.node 115 ⟨.func,1,8,[.nilF],false⟩ (.node 113 ⟨.func,1,8,[.nilF],false⟩ .leaf .leaf) (.node 117 ⟨.func,1,8,[.nilF],false⟩ .leaf .leaf)) (.node 120 ⟨.struct [(0,54),(1,25),(5,22),(6,3)],7,96,[.nilP,.int .i64 0,.int .i64 0,.str [],.nilS,.nilS,.int .i64 0],false⟩ (.node 119 ⟨.struct [(0,54),(1,25),(5,22),(6,3)],7,96,[.nilP,.int .i64 0,.int .i64 0,.str [],.nilS,.nilS,.int .i64 0],false⟩ .leaf .leaf) .leaf)) (.node 125 ⟨.struct [(0,124),(1,51),(2,3)],3,40,[.nilM,.nilS,.int .i64 0],false⟩ (.node 123 ⟨.func,1,8,[.nilF],false⟩ (.node 122 ⟨.func,1,8,[.nilF],false⟩ .leaf .leaf) (.node 124 ⟨.map 9 3,1,8,[.nilM],false⟩ .leaf .leaf)) (.node 127 ⟨.func,1,8,[.nilF],false⟩ (.node 126 ⟨.struct [(0,124),(1,51),(2,3)],3,40,[.nilM,.nilS,.int .i64 0],false⟩ .leaf .leaf) .leaf)))))) (.node 209 ⟨.func,1,8,[.nilF],false⟩ (.node 162 ⟨.func,1,8,[.nilF],false⟩ (.node 145 ⟨.func,1,8,[.nilF],false⟩ (.node 137 ⟨.map 118 25,1,8,[.nilM],false⟩ (.node 133 ⟨.func,1,8,[.nilF],false⟩ (.node 130 ⟨.func,1,8,[.nilF],false⟩ (.node 129 ⟨.func,1,8,[.nilF],false⟩ .leaf .leaf) (.node 131 ⟨.func,1,8,[.nilF],false⟩ .leaf .leaf)) (.node 135 ⟨.ptr 139,1,8,[.nilP],false⟩ (.node 134 ⟨.func,1,8,[.nilF],false⟩ .leaf .leaf) (.node 136 ⟨.map 3 118,1,8,[.nilM],false⟩ .leaf .leaf))) (.node 141 ⟨.array 21 140,21,168,[.nilF,.nilF,.nilF,.nilF,.nilF,.nilF,.nilF,.nilF,.nilF,.nilF,.nilF,.nilF,.nilF,.nilF,.nilF,.nilF,.nilF,.nilF,.nilF,.nilF,.nilF],false⟩ (.node 139 ⟨.struct [(0,58),(1,65),(2,3),(3,65),(4,23),(5,136),(6,137),(7,4),(8,4),(9,25),(13,3)],14,176,[.nilP,.nilS,.int .i64 0,.nilS,.nilS,.nilM,.nilM,.bool false,.bool false,.int .i64 0,.int .i64 0,.str [],.nilS,.int .i64 0],false⟩ (.node 138 ⟨.struct [(0,58),(1,65),(2,3),(3,65),(4,23),(5,136),(6,137),(7,4),(8,4),(9,25),(13,3)],14,176,[.nilP,.nilS,.int .i64 0,.nilS,.nilS,.nilM,.nilM,.bool false,.bool false,.int .i64 0,.int .i64 0,.str [],.nilS,.int .i64 0],false⟩ .leaf .leaf) (.node 140 ⟨.func,1,8,[.nilF],false⟩ .leaf .leaf)) (.node 143 ⟨.func,1,8,[.nilF],false⟩ (.node 142 ⟨.func,1,8,[.nilF],false⟩ .leaf .leaf) .leaf))) (.node 154 ⟨.func,1,8,[.nilF],false⟩ (.node 151 ⟨.func,1,8,[.nilF],false⟩ (.node 148 ⟨.func,1,8,[.nilF],false⟩ (.node 147 ⟨.func,1,8,[.nilF],false⟩ .leaf .leaf) (.node 149 ⟨.func,1,8,[.nilF],false⟩ .leaf .leaf)) (.node 153 ⟨.func,1,8,[.nilF],false⟩ (.node 152 ⟨.func,1,8,[.nilF],false⟩ .leaf .leaf) .leaf)) (.node 159 ⟨.ptr 161,1,8,[.nilP],false⟩ (.node 157 ⟨.func,1,8,[.nilF],false⟩ (.node 155 ⟨.func,1,8,[.nilF],false⟩ .leaf .leaf) (.node 158 ⟨.func,1,8,[.nilF],false⟩ .leaf .leaf)) (.node 161 ⟨.struct [(0,54),(1,65),(2,3),(3,4)],4,48,[.nilP,.nilS,.int .i64 0,.bool false],false⟩ (.node 160 ⟨.struct [(0,54),(1,65),(2,3),(3,4)],4,48,[.nilP,.nilS,.int .i64 0,.bool false],false⟩ .leaf .leaf) .leaf)))) (.node 178 ⟨.func,1,8,[.nilF],false⟩ (.node 169 ⟨.ptr 4,1,8,[.nilP],false⟩ (.node 166 ⟨.func,1,8,[.nilF],false⟩ (.node 164 ⟨.func,1,8,[.nilF],false⟩ (.node 163 ⟨.func,1,8,[.nilF],false⟩ .leaf .leaf) (.node 165 ⟨.func,1,8,[.nilF],false⟩ .leaf .leaf)) (.node 168 ⟨.func,1,8,[.nilF],false⟩ (.node 167 ⟨.func,1,8,[.nilF],false⟩ .leaf .leaf) .leaf)) (.node 175 ⟨.func,1,8,[.nilF],false⟩ (.node 173 ⟨.func,1,8,[.nilF],false⟩ (.node 171 ⟨.func,1,8,[.nilF],false⟩ .leaf .leaf) (.node 174 ⟨.func,1,8,[.nilF],false⟩ .leaf .leaf)) (.node 177 ⟨.func,1,8,[.nilF],false⟩ (.node 176 ⟨.int .u64,1,8,[.int .u64 0],false⟩ .leaf .leaf) .leaf))) (.node 194 ⟨.slice 5,1,24,[.nilS],false⟩ (.node 188 ⟨.struct [(0,3),(1,25)],5,64,[.int .i64 0,.int .i64 0,.int .i64 0,.str [],.nilS],false⟩ (.node 180 ⟨.func,1,8,[.nilF],false⟩ (.node 179 ⟨.func,1,8,[.nilF],false⟩ .leaf .leaf) (.node 187 ⟨.struct [(0,3),(1,25)],5,64,[.int .i64 0,.int .i64 0,.int .i64 0,.str [],.nilS],false⟩ .leaf .leaf)) (.node 191 ⟨.func,1,8,[.nilF],false⟩ (.node 189 ⟨.func,1,8,[.nilF],false⟩ .leaf .leaf) .leaf)) (.node 204 ⟨.struct [(0,25),(4,93),(5,3)],6,88,[.int .i64 0,.int .i64 0,.str [],.nilS,.nilS,.int .i64 0],false⟩ (.node 200 ⟨.func,1,8,[.nilF],false⟩ (.node 195 ⟨.map 3 4,1,8,[.nilM],false⟩ .leaf .leaf) (.node 203 ⟨.func,1,8,[.nilF],false⟩ .leaf .leaf)) (.node 206 ⟨.func,1,8,[.nilF],false⟩ (.node 205 ⟨.struct [(0,25),(4,93),(5,3)],6,88,[.int .i64 0,.int .i64 0,.str [],.nilS,.nilS,.int .i64 0],false⟩ .leaf .leaf) .leaf))))) (.node 263 ⟨.func,1,8,[.nilF],false⟩ (.node 233 ⟨.slice 232,1,24,[.nilS],false⟩ (.node 224 ⟨.func,1,8,[.nilF],false⟩ (.node 213 ⟨.struct [(0,55),(1,65)],2,32,[.nilP,.nilS],false⟩ (.node 211 ⟨.ptr 213,1,8,[.nilP],false⟩ (.node 210 ⟨.func,1,8,[.nilF],false⟩ .leaf .leaf) (.node 212 ⟨.struct [(0,55),(1,65)],2,32,[.nilP,.nilS],false⟩ .leaf .leaf)) (.node 219 ⟨.array 2 23,2,48,[.nilS,.nilS],false⟩ (.node 214 ⟨.func,1,8,[.nilF],false⟩ .leaf .leaf) .leaf)) (.node 230 ⟨.func,1,8,[.nilF],false⟩ (.node 226 ⟨.func,1,8,[.nilF],false⟩ (.node 225 ⟨.func,1,8,[.nilF],false⟩ .leaf .leaf) (.node 227 ⟨.func,1,8,[.nilF],false⟩ .leaf .leaf)) (.node 232 ⟨.struct [(0,25),(4,25)],8,112,[.int .i64 0,.int .i64 0,.str [],.nilS,.int .i64 0,.int .i64 0,.str [],.nilS],false⟩ (.node 231 ⟨.struct [(0,25),(4,25)],8,112,[.int .i64 0,.int .i64 0,.str [],.nilS,.int .i64 0,.int .i64 0,.str [],.nilS],false⟩ .leaf .leaf) .leaf))) (.node 248 ⟨.struct [(0,118),(1,118)],2,16,[.int .u64 0,.int .u64 0],true⟩ (.node 244 ⟨.func,1,8,[.nilF],false⟩ (.node 235 ⟨.struct [(0,205),(6,4)],7,96,[.int .i64 0,.int .i64 0,.str [],.nilS,.nilS,.int .i64 0,.bool false],false⟩ (.node 234 ⟨.ptr 236,1,8,[.nilP],false⟩ .leaf .leaf) (.node 236 ⟨.struct [(0,205),(6,4)],7,96,[.int .i64 0,.int .i64 0,.str [],.nilS,.nilS,.int .i64 0,.bool false],false⟩ .leaf .leaf)) (.node 247 ⟨.struct [(0,118),(1,118)],2,16,[.int .u64 0,.int .u64 0],true⟩ (.node 246 ⟨.func,1,8,[.nilF],false⟩ .leaf .leaf) .leaf)) (.node 252 ⟨.func,1,8,[.nilF],false⟩ (.node 250 ⟨.func,1,8,[.nilF],false⟩ (.node 249 ⟨.func,1,8,[.nilF],false⟩ .leaf .leaf) (.node 251 ⟨.func,1,8,[.nilF],false⟩ .leaf .leaf)) (.node 261 ⟨.ptr 248,1,8,[.nilP],false⟩ (.node 253 ⟨.func,1,8,[.nilF],false⟩ .leaf .leaf) .leaf)))) (.node 280 ⟨.func,1,8,[.nilF],false⟩ (.node 270 ⟨.array 100 25,400,5600,[.int .i64 0,.int .i64 0,.str [],.nilS,.int .i64 0,.int .i64 0,.str [],.nilS,.int .i64 0,.int .i64 0,.str [],.nilS,.int .i64 0,.int .i64 0,.str [],.nilS,.int .i64 0,.int .i64 0,.str [],.nilS,.int .i64 0,.int .i64 0,.str [],.nilS,.int .i64 0,.int .i64 0,.str [],.nilS,.int .i64 0,.int .i64 0,.str [],.nilS,.int .i64 0,.int .i64 0,.str [],.nilS,.int .i64 0,.int .i64 0,.str [],.nilS,.int .i64 0,.int .i64 0,.str [],.nilS,.int .i64 0,.int .i64 0,.str [],.nilS,.int .i64 0,.int .i64 0,.str [],.nilS,.int .i64 0,.int .i64 0,.str [],.nilS,.int .i64 0,.int .i64 0,.str [],.nilS,.int .i64 0,.int .i64 0,.str [],.nilS,.int .i64 0,.int .i64 0,.str [],.nilS,.int .i64 0,.int .i64 0,.str [],.nilS,.int .i64 0,.int .i64 0,.str [],.nilS,.int .i64 0,.int .i64 0,.str [],.nilS,.int .i64 0,.int .i64 0,.str [],.nilS,.int .i64 0,.int .i64 0,.str [],.nilS,.int .i64 0,.int .i64 0,.str [],.nilS,.int .i64 0,.int .i64 0,.str [],.nilS,.int .i64 0,.int .i64 0,.str [],.nilS,.int .i64 0,.int .i64 0,.str [],.nilS,.int .i64 0,.int .i64 0,.str [],.nilS,.int .i64 0,.int .i64 0,.str [],.nilS,.int .i64 0,.int .i64 0,.str [],.nilS,.int .i64 0,.int .i64 0,.str [],.nilS,.int .i64 0,.int .i64 0,.str [],.nilS,.int .i64 0,.int .i64 0,.str [],.nilS,.int .i64 0,.int .i64 0,.str [],.nilS,.int .i64 0,.int .i64 0,.str [],.nilS,.int .i64 0,.int .i64 0,.str [],.nilS,.int .i64 0,.int .i64 0,.str [],.nilS,.int .i64 0,.int .i64 0,.str [],.nilS,.int .i64 0,.int .i64 0,.str [],.nilS,.int .i64 0,.int .i64 0,.str [],.nilS,.int .i64 0,.int .i64 0,.str [],.nilS,.int .i64 0,.int .i64 0,.str [],.nilS,.int .i64 0,.int .i64 0,.str [],.nilS,.int .i64 0,.int .i64 0,.str [],.nilS,.int .i64 0,.int .i64 0,.str [],.nilS,.int .i64 0,.int .i64 0,.str [],.nilS,.int .i64 0,.int .i64 0,.str [],.nilS,.int .i64 0,.int .i64 0,.str [],.nilS,.int .i64 0,.int .i64 0,.str [],.nilS,.int .i64 0,.int .i64 0,.str [],.nilS,.int .i64 0,.int .i64 0,.str [],.nilS,.int .i64 0,.int .i64 0,.str [],.nilS,.int .i64 0,.int .i64 0,.str [],.nilS,.int .i64 0,.int .i64 0,.str [],.nilS,.int .i64 0,.int .i64 0,.str [],.nilS,.int .i64 0,.int .i64 0,.str [],.nilS,.int .i64 0,.int .i64 0,.str [],.nilS,.int .i64 0,.int .i64 0,.str [],.nilS,.int .i64 0,.int .i64 0,.str [],.nilS,.int .i64 0,.int .i64 0,.str [],.nilS,.int .i64 0,.int .i64 0,.str [],.nilS,.int .i64 0,.int .i64 0,.str [],.nilS,.int .i64 0,.int .i64 0,.str [],.nilS,.int .i64 0,.int .i64 0,.str [],.nilS,.int .i64 0,.int .i64 0,.str [],.nilS,.int .i64 0,.int .i64 0,.str [],.nilS,.int .i64 0,.int .i64 0,.str [],.nilS,.int .i64 0,.int .i64 0,.str [],.nilS,.int .i64 0,.int .i64 0,.str [],.nilS,.int .i64 0,.int .i64 0,.str [],.nilS,.int .i64 0,.int .i64 0,.str [],.nilS,.int .i64 0,.int .i64 0,.str [],.nilS,.int .i64 0,.int .i64 0,.str [],.nilS,.int .i64 0,.int .i64 0,.str [],.nilS,.int .i64 0,.int .i64 0,.str [],.nilS,.int .i64 0,.int .i64 0,.str [],.nilS,.int .i64 0,.int .i64 0,.str [],.nilS,.int .i64 0,.int .i64 0,.str [],.nilS,.int .i64 0,.int .i64 0,.str [],.nilS,.int .i64 0,.int .i64 0,.str [],.nilS,.int .i64 0,.int .i64 0,.str [],.nilS,.int .i64 0,.int .i64 0,.str [],.nilS,.int .i64 0,.int .i64 0,.str [],.nilS,.int .i64 0,.int .i64 0,.str [],.nilS,.int .i64 0,.int .i64 0,.str [],.nilS,.int .i64 0,.int .i64 0,.str [],.nilS,.int .i64 0,.int .i64 0,.str [],.nilS,.int .i64 0,.int .i64 0,.str [],.nilS,.int .i64 0,.int .i64 0,.str [],.nilS,.int .i64 0,.int .i64 0,.str [],.nilS,.int .i64 0,.int .i64 0,.str [],.nilS,.int .i64 0,.int .i64 0,.str [],.nilS,.int .i64 0,.int .i64 0,.str [],.nilS,.int .i64 0,.int .i64 0,.str [],.nilS,.int .i64 0,.int .i64 0,.str [],.nilS,.int .i64 0,.int .i64 0,.str [],.nilS,.int .i64 0,.int .i64 0,.str [],.nilS,.int .i64 0,.int .i64 0,.str [],.nilS,.int .i64 0,.int .i64 0,.str [],.nilS,.int .i64 0,.int .i64 0,.str [],.nilS,.int .i64 0,.int .i64 0,.str [],.nilS],false⟩ (.node 267 ⟨.func,1,8,[.nilF],false⟩ (.node 265 ⟨.func,1,8,[.nilF],false⟩ (.node 264 ⟨.func,1,8,[.nilF],false⟩ .leaf .leaf) (.node 266 ⟨.func,1,8,[.nilF],false⟩ .leaf .leaf)) (.node 269 ⟨.func,1,8,[.nilF],false⟩ (.node 268 ⟨.func,1,8,[.nilF],false⟩ .leaf .leaf) .leaf)) (.node 277 ⟨.func,1,8,[.nilF],false⟩ (.node 274 ⟨.ptr 25,1,8,[.nilP],false⟩ (.node 271 ⟨.struct [(0,248),(2,270)],402,5616,[.int .u64 0,.int .u64 0,.int .i64 0,.int .i64 0,.str [],.nilS,.int .i64 0,.int .i64 0,.str [],.nilS,.int .i64 0,.int .i64 0,.str [],.nilS,.int .i64 0,.int .i64 0,.str [],.nilS,.int .i64 0,.int .i64 0,.str [],.nilS,.int .i64 0,.int .i64 0,.str [],.nilS,.int .i64 0,.int .i64 0,.str [],.nilS,.int .i64 0,.int .i64 0,.str [],.nilS,.int .i64 0,.int .i64 0,.str [],.nilS,.int .i64 0,.int .i64 0,.str [],.nilS,.int .i64 0,.int .i64 0,.str [],.nilS,.int .i64 0,.int .i64 0,.str [],.nilS,.int .i64 0,.int .i64 0,.str [],.nilS,.int .i64 0,.int .i64 0,.str [],.nilS,.int .i64 0,.int .i64 0,.str [],.nilS,.int .i64 0,.int .i64 0,.str [],.nilS,.int .i64 0,.int .i64 0,.str [],.nilS,.int .i64 0,.int .i64 0,.str [],.nilS,.int .i64 0,.int .i64 0,.str [],.nilS,.int .i64 0,.int .i64 0,.str [],.nilS,.int .i64 0,.int .i64 0,.str [],.nilS,.int .i64 0,.int .i64 0,.str [],.nilS,.int .i64 0,.int .i64 0,.str [],.nilS,.int .i64 0,.int .i64 0,.str [],.nilS,.int .i64 0,.int .i64 0,.str [],.nilS,.int .i64 0,.int .i64 0,.str [],.nilS,.int .i64 0,.int .i64 0,.str [],.nilS,.int .i64 0,.int .i64 0,.str [],.nilS,.int .i64 0,.int .i64 0,.str [],.nilS,.int .i64 0,.int .i64 0,.str [],.nilS,.int .i64 0,.int .i64 0,.str [],.nilS,.int .i64 0,.int .i64 0,.str [],.nilS,.int .i64 0,.int .i64 0,.str [],.nilS,.int .i64 0,.int .i64 0,.str [],.nilS,.int .i64 0,.int .i64 0,.str [],.nilS,.int .i64 0,.int .i64 0,.str [],.nilS,.int .i64 0,.int .i64 0,.str [],.nilS,.int .i64 0,.int .i64 0,.str [],.nilS,.int .i64 0,.int .i64 0,.str [],.nilS,.int .i64 0,.int .i64 0,.str [],.nilS,.int .i64 0,.int .i64 0,.str [],.nilS,.int .i64 0,.int .i64 0,.str [],.nilS,.int .i64 0,.int .i64 0,.str [],.nilS,.int .i64 0,.int .i64 0,.str [],.nilS,.int .i64 0,.int .i64 0,.str [],.nilS,.int .i64 0,.int .i64 0,.str [],.nilS,.int .i64 0,.int .i64 0,.str [],.nilS,.int .i64 0,.int .i64 0,.str [],.nilS,.int .i64 0,.int .i64 0,.str [],.nilS,.int .i64 0,.int .i64 0,.str [],.nilS,.int .i64 0,.int .i64 0,.str [],.nilS,.int .i64 0,.int .i64 0,.str [],.nilS,.int .i64 0,.int .i64 0,.str [],.nilS,.int .i64 0,.int .i64 0,.str [],.nilS,.int .i64 0,.int .i64 0,.str [],.nilS,.int .i64 0,.int .i64 0,.str [],.nilS,.int .i64 0,.int .i64 0,.str [],.nilS,.int .i64 0,.int .i64 0,.str [],.nilS,.int .i64 0,.int .i64 0,.str [],.nilS,.int .i64 0,.int .i64 0,.str [],.nilS,.int .i64 0,.int .i64 0,.str [],.nilS,.int .i64 0,.int .i64 0,.str [],.nilS,.int .i64 0,.int .i64 0,.str [],.nilS,.int .i64 0,.int .i64 0,.str [],.nilS,.int .i64 0,.int .i64 0,.str [],.nilS,.int .i64 0,.int .i64 0,.str [],.nilS,.int .i64 0,.int .i64 0,.str [],.nilS,.int .i64 0,.int .i64 0,.str [],.nilS,.int .i64 0,.int .i64 0,.str [],.nilS,.int .i64 0,.int .i64 0,.str [],.nilS,.int .i64 0,.int .i64 0,.str [],.nilS,.int .i64 0,.int .i64 0,.str [],.nilS,.int .i64 0,.int .i64 0,.str [],.nilS,.int .i64 0,.int .i64 0,.str [],.nilS,.int .i64 0,.int .i64 0,.str [],.nilS,.int .i64 0,.int .i64 0,.str [],.nilS,.int .i64 0,.int .i64 0,.str [],.nilS,.int .i64 0,.int .i64 0,.str [],.nilS,.int .i64 0,.int .i64 0,.str [],.nilS,.int .i64 0,.int .i64 0,.str [],.nilS,.int .i64 0,.int .i64 0,.str [],.nilS,.int .i64 0,.int .i64 0,.str [],.nilS,.int .i64 0,.int .i64 0,.str [],.nilS,.int .i64 0,.int .i64 0,.str [],.nilS,.int .i64 0,.int .i64 0,.str [],.nilS,.int .i64 0,.int .i64 0,.str [],.nilS,.int .i64 0,.int .i64 0,.str [],.nilS,.int .i64 0,.int .i64 0,.str [],.nilS,.int .i64 0,.int .i64 0,.str [],.nilS,.int .i64 0,.int .i64 0,.str [],.nilS,.int .i64 0,.int .i64 0,.str [],.nilS,.int .i64 0,.int .i64 0,.str [],.nilS,.int .i64 0,.int .i64 0,.str [],.nilS,.int .i64 0,.int .i64 0,.str [],.nilS,.int .i64 0,.int .i64 0,.str [],.nilS,.int .i64 0,.int .i64 0,.str [],.nilS,.int .i64 0,.int .i64 0,.str [],.nilS,.int .i64 0,.int .i64 0,.str [],.nilS,.int .i64 0,.int .i64 0,.str [],.nilS,.int .i64 0,.int .i64 0,.str [],.nilS],false⟩ .leaf .leaf) (.node 276 ⟨.func,1,8,[.nilF],false⟩ .leaf .leaf)) (.node 279 ⟨.func,1,8,[.nilF],false⟩ (.node 278 ⟨.func,1,8,[.nilF],false⟩ .leaf .leaf) .leaf))) (.node 292 ⟨.int .u8,1,1,[.int .u8 0],false⟩ (.node 288 ⟨.struct [(0,287)],0,0,[],false⟩ (.node 285 ⟨.struct [(0,17),(1,17),(2,17),(3,9)],4,40,[.nilP,.nilP,.nilP,.str []],false⟩ (.node 281 ⟨.func,1,8,[.nilF],false⟩ .leaf .leaf) (.node 287 ⟨.array 0 16,0,0,[],false⟩ .leaf .leaf)) (.node 291 ⟨.int .u8,1,1,[.int .u8 0],false⟩ (.node 290 ⟨.int .u32,1,4,[.int .u32 0],false⟩ .leaf .leaf) .leaf)) (.node 296 ⟨.int .i32,1,4,[.int .i32 0],false⟩ (.node 294 ⟨.ptr 5,1,8,[.nilP],false⟩ (.node 293 ⟨.func,1,8,[.nilF],false⟩ .leaf .leaf) (.node 295 ⟨.int .i32,1,4,[.int .i32 0],false⟩ .leaf .leaf)) (.node 298 ⟨.struct [(0,12),(1,12),(2,290),(3,291),(4,5),(5,5),(6,292),(7,293),(8,294),(9,295),(10,296)],11,48,zro0,false⟩ (.node 297 ⟨.struct [(0,12),(1,12),(2,290),(3,291),(4,5),(5,5),(6,292),(7,293),(8,294),(9,295),(10,296)],11,48,zro0,false⟩ .leaf .leaf) .leaf))))))
def qxo:BT CMode:=.node 118 (.pown) (.node 61 (.pfrz) (.node 42 (.scal) (.node 18 (.wfrz) (.node 12 (.pfrz) (.node 9 (.scal) (.node 8 (.scal) (.node 4 (.scal) .leaf .leaf) .leaf) (.node 11 (.pfrz) .leaf .leaf)) (.node 16 (.scal) (.node 14 (.scal) .leaf .leaf) (.node 17 (.scal) .leaf .leaf))) (.node 22 (.pfrz) (.node 20 (.pfrz) (.node 19 (.pfrz) .leaf .leaf) (.node 21 (.pfrz) .leaf .leaf)) (.node 40 (.scal) (.node 24 (.wfrz) .leaf .leaf) (.node 41 (.pown) .leaf .leaf)))) (.node 53 (.pfrz) (.node 46 (.pfrz) (.node 44 (.obj) (.node 43 (.obj) .leaf .leaf) (.node 45 (.pfrz) .leaf .leaf)) (.node 51 (.pfrz) (.node 47 (.scal) .leaf .leaf) (.node 52 (.scal) .leaf .leaf))) (.node 57 (.obj) (.node 55 (.pfrz) (.node 54 (.pfrz) .leaf .leaf) (.node 56 (.pfrz) .leaf .leaf)) (.node 59 (.pfrz) (.node 58 (.pfrz) .leaf .leaf) (.node 60 (.pown) .leaf .leaf))))) (.node 102 (.pfrz) (.node 90 (.obj) (.node 66 (.scal) (.node 64 (.scal) (.node 63 (.obj) (.node 62 (.scal) .leaf .leaf) .leaf) (.node 65 (.pown) .leaf .leaf)) (.node 81 (.pown) (.node 78 (.pown) .leaf .leaf) (.node 83 (.scal) .leaf .leaf))) (.node 94 (.slf) (.node 92 (.obj) (.node 91 (.obj) .leaf .leaf) (.node 93 (.obj) .leaf .leaf)) (.node 96 (.scal) (.node 95 (.scal) .leaf .leaf) (.node 101 (.pfrz) .leaf .leaf)))) (.node 110 (.pown) (.node 106 (.inpl) (.node 104 (.obj) (.node 103 (.pfrz) .leaf .leaf) (.node 105 (.obj) .leaf .leaf)) (.node 108 (.pown) (.node 107 (.scal) .leaf .leaf) (.node 109 (.pfrz) .leaf .leaf))) (.node 114 (.obj) (.node 112 (.scal) (.node 111 (.inpl) .leaf .leaf) (.node 113 (.scal) .leaf .leaf)) (.node 116 (.scal) (.node 115 (.obj) .leaf .leaf) (.node 117 (.scal) .leaf .leaf)))))) (.node 211 (.scal) (.node 173 (.scal) (.node 155 (.pfrz) (.node 151 (.scal) (.node 133 (.scal) (.node 130 (.pfrz) (.node 119 (.pown) .leaf .leaf) .leaf) (.node 134 (.scal) .leaf .leaf)) (.node 153 (.pfrz) (.node 152 (.obj) .leaf .leaf) (.node 154 (.obj) .leaf .leaf))) (.node 169 (.pfrz) (.node 167 (.obj) (.node 156 (.scal) .leaf .leaf) (.node 168 (.scal) .leaf .leaf)) (.node 171 (.scal) (.node 170 (.pfrz) .leaf .leaf) (.node 172 (.scal) .leaf .leaf)))) (.node 190 (.pfrz) (.node 177 (.scal) (.node 175 (.scal) (.node 174 (.pfrz) .leaf .leaf) (.node 176 (.scal) .leaf .leaf)) (.node 179 (.scal) (.node 178 (.scal) .leaf .leaf) (.node 189 (.scal) .leaf .leaf))) (.node 206 (.scal) (.node 204 (.scal) (.node 191 (.pfrz) .leaf .leaf) (.node 205 (.inpf) .leaf .leaf)) (.node 209 (.pfrz) (.node 208 (.scal) .leaf .leaf) (.node 210 (.scal) .leaf .leaf))))) (.node 251 (.inpf) (.node 234 (.scal) (.node 226 (.inpl) (.node 213 (.scal) (.node 212 (.scal) .leaf .leaf) (.node 214 (.pfrz) .leaf .leaf)) (.node 230 (.inpf) (.node 227 (.scal) .leaf .leaf) (.node 231 (.inpf) .leaf .leaf))) (.node 247 (.pfrz) (.node 236 (.scal) (.node 235 (.pfrz) .leaf .leaf) (.node 244 (.inpl) .leaf .leaf)) (.node 249 (.inpl) (.node 248 (.inpf) .leaf .leaf) (.node 250 (.inpf) .leaf .leaf)))) (.node 269 (.scal) (.node 264 (.pfrz) (.node 253 (.inpf) (.node 252 (.scal) .leaf .leaf) (.node 263 (.pfrz) .leaf .leaf)) (.node 267 (.scal) (.node 265 (.pfrz) .leaf .leaf) (.node 268 (.scal) .leaf .leaf))) (.node 278 (.scal) (.node 271 (.inpf) (.node 270 (.scal) .leaf .leaf) (.node 277 (.scal) .leaf .leaf)) (.node 280 (.scal) (.node 279 (.scal) .leaf .leaf) (.node 281 (.scal) .leaf .leaf))))))
def qyK:BT (BT (List Nat)):=.node 53 (.node 1 ([3,7,9,11]) .leaf .leaf) (.node 20 (.node 9 ([1]) .leaf .leaf) (.node 19 (.node 10 ([4]) .leaf .leaf) (.node 17 (.node 6 ([4]) .leaf .leaf) .leaf .leaf) .leaf) (.node 22 (.node 4 ([2]) .leaf .leaf) (.node 21 (.node 6 ([4]) .leaf .leaf) .leaf .leaf) .leaf)) (.node 101 (.node 5 ([6]) .leaf .leaf) (.node 91 (.node 21 ([3]) .leaf .leaf) (.node 58 (.node 1 ([1]) .leaf .leaf) .leaf .leaf) .leaf) (.node 153 (.node 3 ([3]) .leaf .leaf) .leaf .leaf))
def qnt{α:Type}(a b:Nat)(t:BT (BT α)):Option α:=match t.look a with|some u=>u.look b|none=>none
def qxv(f r k:Nat):Bool:=match qnt f r qyK with|some l=>yo k l|none=>false
def qxp:BT (BT (List Tmp×List Tmp)):=.node 110 (.node 14 ([1,2,8,9],[1,8]) .leaf .leaf) (.node 59 (.node 6 ([5,7],[5]) .leaf .leaf) (.node 23 (.node 1 ([0,2],[]) .leaf .leaf) (.node 16 (.node 4 ([0,1,5],[4]) .leaf .leaf) (.node 12 (.node 6 ([0,6,10,11,12],[6,7,8,9,11]) .leaf .leaf) (.node 8 (.node 2 ([0,3],[2]) .leaf .leaf) .leaf .leaf) (.node 15 (.node 2 ([1,2],[]) .leaf .leaf) .leaf .leaf)) (.node 19 (.node 6 ([6,19,20,21],[6]) .leaf .leaf) (.node 18 (.node 4 ([0,3,4],[0,3]) .leaf .leaf) .leaf .leaf) (.node 20 (.node 6 ([4,6,7],[6]) .leaf .leaf) .leaf .leaf))) (.node 52 (.node 4 ([0,1,5],[4]) .leaf .leaf) (.node 41 (.node 3 ([0,3,4],[3]) .leaf .leaf) (.node 40 (.node 5 ([1,2,5,6],[5]) .leaf .leaf) .leaf .leaf) (.node 51 (.node 3 ([1,2,3,4],[1,2,3]) .leaf .leaf) .leaf .leaf)) (.node 57 (.node 11 ([0,4,7,37,38,39],[0,4,7]) (.node 4 ([0,3,4,20,21,22],[0,3,4]) .leaf .leaf) .leaf) (.node 56 (.node 5 ([4,16,17,18],[4]) .leaf .leaf) .leaf .leaf) (.node 58 (.node 3 ([3,8,9],[3]) .leaf .leaf) .leaf .leaf)))) (.node 94 (.node 6 ([1,2,3,4,18,19,20],[2,3,4]) .leaf .leaf) (.node 81 (.node 7 ([2,3,4],[2,3,4,5]) .leaf .leaf) (.node 61 (.node 3 ([0,3,4],[3]) .leaf .leaf) (.node 60 (.node 10 ([1,2,5,8,9],[1,5,8]) (.node 3 ([1,2,5,7],[1,2,5]) .leaf .leaf) .leaf) .leaf .leaf) (.node 66 (.node 4 ([0,1,5],[4]) .leaf .leaf) .leaf .leaf)) (.node 90 (.node 15 ([2],[41,97,108]) .leaf .leaf) (.node 83 (.node 4 ([2,3],[2,3]) .leaf .leaf) .leaf .leaf) (.node 91 (.node 15 ([0,7,48],[0,7]) .leaf .leaf) .leaf .leaf))) (.node 103 (.node 3 ([3,6,7,8],[3]) .leaf .leaf) (.node 96 (.node 6 ([1,3,4],[3]) .leaf .leaf) (.node 95 (.node 4 ([1,3],[2]) .leaf .leaf) .leaf .leaf) (.node 101 (.node 3 ([0,2,3,4],[2,3]) .leaf .leaf) .leaf .leaf)) (.node 108 (.node 6 ([4,6,7],[2,3,6]) .leaf .leaf) (.node 106 (.node 1 ([0,1,6,7],[]) .leaf .leaf) .leaf .leaf) (.node 109 (.node 3 ([0,3,4],[3]) .leaf .leaf) .leaf .leaf))))) (.node 188 (.node 0 ([0,1,2],[1,2]) .leaf .leaf) (.node 155 (.node 4 ([0,1,2,6,24,25,26],[0,1,2,6,7]) .leaf .leaf) (.node 118 (.node 3 ([0,1,5,6],[5]) .leaf .leaf) (.node 114 (.node 1 ([0,6,7,8],[]) .leaf .leaf) (.node 111 (.node 2 ([0,1,5],[0]) .leaf .leaf) .leaf .leaf) (.node 117 (.node 5 ([1,4,5],[2,3,4]) .leaf .leaf) .leaf .leaf)) (.node 151 (.node 9 ([5,6,70,71],[5]) (.node 2 ([5],[4]) .leaf .leaf) .leaf) (.node 130 (.node 14 ([2,4,5,73,74,77,78,79],[2,3,4,5,73,74]) (.node 11 ([2,4,5,73,74],[2,3,4]) .leaf .leaf) .leaf) .leaf .leaf) (.node 153 (.node 3 ([3],[3,4]) .leaf .leaf) .leaf .leaf))) (.node 176 (.node 5 ([4,32,33,34],[2,3,4]) .leaf .leaf) (.node 169 (.node 2 ([1,4],[1,4]) .leaf .leaf) (.node 167 (.node 16 ([3,69,70,71],[]) .leaf .leaf) .leaf .leaf) (.node 171 (.node 2 ([0,1,5],[4]) .leaf .leaf) .leaf .leaf)) (.node 178 (.node 2 ([0,1,5],[4]) .leaf .leaf) (.node 177 (.node 2 ([0,1,5],[4]) .leaf .leaf) .leaf .leaf) (.node 179 (.node 3 ([1,5,6],[4]) .leaf .leaf) .leaf .leaf)))) (.node 236 (.node 2 ([0,1,7,8],[4]) .leaf .leaf) (.node 203 (.node 1 ([0,1,3],[]) .leaf .leaf) (.node 191 (.node 5 ([4],[4,5]) .leaf .leaf) (.node 190 (.node 11 ([3,7,29],[7]) (.node 6 ([3],[3]) .leaf .leaf) .leaf) .leaf .leaf) (.node 192 (.node 7 ([3],[0,3]) (.node 1 ([0,3],[]) .leaf .leaf) .leaf) .leaf .leaf)) (.node 211 (.node 2 ([0,1,7,8],[4]) .leaf .leaf) (.node 210 (.node 2 ([0,1,5],[4]) .leaf .leaf) .leaf .leaf) (.node 235 (.node 6 ([1,7,8],[1]) .leaf .leaf) .leaf .leaf))) (.node 263 (.node 2 ([0,1,5],[0,1,5]) .leaf .leaf) (.node 251 (.node 4 ([7],[0,5,6,7]) .leaf .leaf) (.node 246 (.node 1 ([0,3],[]) .leaf .leaf) .leaf .leaf) (.node 252 (.node 1 ([2,3],[4]) .leaf .leaf) .leaf .leaf)) (.node 276 (.node 0 ([0,1],[]) .leaf .leaf) (.node 269 (.node 3 ([3,6,7,8],[2,3]) .leaf .leaf) .leaf .leaf) (.node 279 (.node 2 ([0,1,2,11,12,13],[0,1,6]) .leaf .leaf) .leaf .leaf)))))
def qyQ:BT (BT (List Tmp)):=.node 263 (.node 6 ([0,1,5]) (.node 4 ([0,1,5]) .leaf .leaf) .leaf) .leaf .leaf
def qxq:BT (BT (List (Tmp×Nat))):=.node 103 (.node 3 ([(3,4)]) .leaf .leaf) (.node 65 (.node 0 ([(4,7)]) .leaf .leaf) (.node 51 (.node 3 ([(3,4)]) .leaf .leaf) (.node 41 (.node 3 ([(3,4)]) (.node 0 ([(2,4)]) .leaf .leaf) .leaf) (.node 20 (.node 6 ([(6,7)]) .leaf .leaf) .leaf .leaf) (.node 43 (.node 0 ([(13,1004),(15,1004)]) .leaf .leaf) .leaf .leaf)) (.node 61 (.node 3 ([(3,7)]) .leaf .leaf) (.node 60 (.node 3 ([(5,7)]) (.node 0 ([(4,7)]) .leaf .leaf) (.node 10 ([(5,7)]) .leaf .leaf)) .leaf .leaf) .leaf)) (.node 91 (.node 15 ([(7,4)]) .leaf .leaf) (.node 81 (.node 7 ([(2,6),(4,6)]) (.node 0 ([(2,6)]) .leaf .leaf) .leaf) (.node 78 (.node 0 ([(2,7)]) .leaf .leaf) .leaf .leaf) (.node 90 (.node 0 ([(41,1004),(97,1004),(108,1004)]) .leaf .leaf) .leaf .leaf)) (.node 93 (.node 0 ([(54,1004),(65,1004),(95,1004)]) .leaf .leaf) (.node 92 (.node 0 ([(69,1004)]) .leaf .leaf) .leaf .leaf) .leaf))) (.node 152 (.node 0 ([(18,1004)]) .leaf .leaf) (.node 118 (.node 3 ([(5,7)]) (.node 0 ([(4,7)]) .leaf .leaf) .leaf) (.node 109 (.node 3 ([(3,4)]) .leaf .leaf) (.node 108 (.node 6 ([(6,6)]) (.node 0 ([(2,6)]) .leaf .leaf) .leaf) .leaf .leaf) (.node 110 (.node 14 ([(8,7)]) (.node 0 ([(4,7),(5,1)]) .leaf .leaf) .leaf) .leaf .leaf)) (.node 151 (.node 9 ([(5,8)]) (.node 2 ([(5,8)]) .leaf .leaf) .leaf) (.node 119 (.node 0 ([(6,7)]) .leaf .leaf) .leaf .leaf) .leaf)) (.node 191 (.node 5 ([(4,4)]) .leaf .leaf) (.node 190 (.node 11 ([(7,1)]) .leaf .leaf) (.node 169 (.node 2 ([(4,4)]) .leaf .leaf) .leaf .leaf) .leaf) (.node 246 (.node 1 ([(3,4)]) .leaf .leaf) (.node 192 (.node 7 ([(3,4)]) (.node 1 ([(3,4)]) .leaf .leaf) .leaf) .leaf .leaf) .leaf)))
def qac(f:Nat):List (Nat×(List AV->AH->Option (AV×AH)))->Option (List AV->AH->Option (AV×AH))
 |[]=>none
 |p::l=>if qAz p.1 f then some p.2 else qac f l
def qyW:BT TypeId:=.leaf
def qvR:BT (List (Nat×Nat×Nat)):=.node 93 ([(0,5,1004),(0,6,1004)]) (.node 63 ([(0,0,7)]) (.node 44 ([(0,5,1004),(0,6,1004)]) (.node 43 ([(0,5,1004),(0,6,1004)]) .leaf .leaf) (.node 57 ([(0,0,7)]) .leaf .leaf)) (.node 91 ([(0,5,1004),(0,6,1004)]) (.node 90 ([(0,5,1004),(0,6,1004)]) .leaf .leaf) (.node 92 ([(0,5,1004),(0,6,1004)]) .leaf .leaf))) (.node 115 ([(0,0,7)]) (.node 105 ([(0,0,7)]) (.node 104 ([(0,0,7)]) .leaf .leaf) (.node 114 ([(0,0,7)]) .leaf .leaf)) (.node 154 ([]) (.node 152 ([(0,5,1004),(0,6,1004)]) .leaf .leaf) (.node 167 ([(4,0,7)]) .leaf .leaf)))
def qvS:BT Nat:=.node 93 (0) (.node 63 (0) (.node 44 (0) (.node 43 (0) .leaf .leaf) (.node 57 (0) .leaf .leaf)) (.node 91 (0) (.node 90 (0) .leaf .leaf) (.node 92 (0) .leaf .leaf))) (.node 115 (0) (.node 105 (0) (.node 104 (0) .leaf .leaf) (.node 114 (0) .leaf .leaf)) (.node 154 (0) (.node 152 (0) .leaf .leaf) (.node 167 (5) .leaf .leaf)))
def qyz:BT (List BSh):=.node 93 ([.row false [.leaf (.int .i64),.leaf (.int .i64),.leaf .str,.leaf .sl,.leaf (.int .i64),.sl 1,.sl 2,.mp 3,.leaf .bool],.rows true 4,.rows true 4,.mp true]) (.node 63 ([.row false [.sl 1],.rows true 7]) (.node 44 ([.row false [.leaf (.int .i64),.leaf (.int .i64),.leaf .str,.leaf .sl,.leaf (.int .i64),.sl 1,.sl 2,.mp 3,.leaf .bool],.rows true 4,.rows true 4,.mp true]) (.node 43 ([.row false [.leaf (.int .i64),.leaf (.int .i64),.leaf .str,.leaf .sl,.leaf (.int .i64),.sl 1,.sl 2,.mp 3,.leaf .bool],.rows true 4,.rows true 4,.mp true]) .leaf .leaf) (.node 57 ([.row false [.sl 1],.rows true 7]) .leaf .leaf)) (.node 91 ([.row false [.leaf (.int .i64),.leaf (.int .i64),.leaf .str,.leaf .sl,.leaf (.int .i64),.sl 1,.sl 2,.mp 3,.leaf .bool],.rows true 4,.rows true 4,.mp true]) (.node 90 ([.row false [.leaf (.int .i64),.leaf (.int .i64),.leaf .str,.leaf .sl,.leaf (.int .i64),.sl 1,.sl 2,.mp 3,.leaf .bool],.rows true 4,.rows true 4,.mp true]) .leaf .leaf) (.node 92 ([.row false [.leaf (.int .i64),.leaf (.int .i64),.leaf .str,.leaf .sl,.leaf (.int .i64),.sl 1,.sl 2,.mp 3,.leaf .bool],.rows true 4,.rows true 4,.mp true]) .leaf .leaf))) (.node 115 ([.row false [.sl 1],.rows true 7]) (.node 105 ([.row false [.sl 1],.rows true 7]) (.node 104 ([.row false [.sl 1],.rows true 7]) .leaf .leaf) (.node 114 ([.row false [.sl 1],.rows true 7]) .leaf .leaf)) (.node 154 ([.rows true 4]) (.node 152 ([.row false [.leaf (.int .i64),.leaf (.int .i64),.leaf .str,.leaf .sl,.leaf (.int .i64),.sl 1,.sl 2,.mp 3,.leaf .bool],.rows true 4,.rows true 4,.mp true]) .leaf .leaf) (.node 167 ([.row false [.mp 3],.row false [.ptr 4],.row false [.is (.fn (.func 167) [] [.ptr 0 0 0,.ptr 1 0 0,.ptr 2 0 0])],.mp true,.row false [.sl 5],.rows true 7]) .leaf .leaf)))
def qyF:BT Unit:=.node 154 (()) .leaf .leaf
def qrs:List (Nat×(List AV->AH->Option (AV×AH))):=[]
def qgU:List (Nat×(List AV->AH->Option (AV×AH))):=(281,qkW)::qrs
theorem qkV:qrs=[]:=rfl
def qv1:BT Unit:=.node 130 (()) (.node 62 (()) (.node 41 (()) (.node 17 (()) (.node 12 (()) (.node 9 (()) (.node 8 (()) (.node 4 (()) .leaf .leaf) .leaf) (.node 11 (()) .leaf .leaf)) (.node 15 (()) (.node 14 (()) .leaf .leaf) (.node 16 (()) .leaf .leaf))) (.node 22 (()) (.node 20 (()) (.node 19 (()) (.node 18 (()) .leaf .leaf) .leaf) (.node 21 (()) .leaf .leaf)) (.node 24 (()) (.node 23 (()) .leaf .leaf) (.node 40 (()) .leaf .leaf)))) (.node 53 (()) (.node 46 (()) (.node 44 (()) (.node 43 (()) (.node 42 (()) .leaf .leaf) .leaf) (.node 45 (()) .leaf .leaf)) (.node 51 (()) (.node 47 (()) .leaf .leaf) (.node 52 (()) .leaf .leaf))) (.node 58 (()) (.node 56 (()) (.node 55 (()) (.node 54 (()) .leaf .leaf) .leaf) (.node 57 (()) .leaf .leaf)) (.node 60 (()) (.node 59 (()) .leaf .leaf) (.node 61 (()) .leaf .leaf))))) (.node 104 (()) (.node 91 (()) (.node 78 (()) (.node 65 (()) (.node 64 (()) (.node 63 (()) .leaf .leaf) .leaf) (.node 66 (()) .leaf .leaf)) (.node 83 (()) (.node 81 (()) .leaf .leaf) (.node 90 (()) .leaf .leaf))) (.node 96 (()) (.node 94 (()) (.node 93 (()) (.node 92 (()) .leaf .leaf) .leaf) (.node 95 (()) .leaf .leaf)) (.node 102 (()) (.node 101 (()) .leaf .leaf) (.node 103 (()) .leaf .leaf)))) (.node 113 (()) (.node 109 (()) (.node 107 (()) (.node 106 (()) (.node 105 (()) .leaf .leaf) .leaf) (.node 108 (()) .leaf .leaf)) (.node 111 (()) (.node 110 (()) .leaf .leaf) (.node 112 (()) .leaf .leaf))) (.node 117 (()) (.node 115 (()) (.node 114 (()) .leaf .leaf) (.node 116 (()) .leaf .leaf)) (.node 119 (()) (.node 118 (()) .leaf .leaf) (.node 129 (()) .leaf .leaf)))))) (.node 211 (()) (.node 174 (()) (.node 155 (()) (.node 151 (()) (.node 134 (()) (.node 133 (()) (.node 132 (()) .leaf .leaf) .leaf) (.node 150 (()) .leaf .leaf)) (.node 153 (()) (.node 152 (()) .leaf .leaf) (.node 154 (()) .leaf .leaf))) (.node 170 (()) (.node 168 (()) (.node 167 (()) (.node 156 (()) .leaf .leaf) .leaf) (.node 169 (()) .leaf .leaf)) (.node 172 (()) (.node 171 (()) .leaf .leaf) (.node 173 (()) .leaf .leaf)))) (.node 191 (()) (.node 179 (()) (.node 177 (()) (.node 176 (()) (.node 175 (()) .leaf .leaf) .leaf) (.node 178 (()) .leaf .leaf)) (.node 189 (()) (.node 188 (()) .leaf .leaf) (.node 190 (()) .leaf .leaf))) (.node 206 (()) (.node 204 (()) (.node 203 (()) (.node 192 (()) .leaf .leaf) .leaf) (.node 205 (()) .leaf .leaf)) (.node 209 (()) (.node 208 (()) .leaf .leaf) (.node 210 (()) .leaf .leaf))))) (.node 251 (()) (.node 234 (()) (.node 226 (()) (.node 214 (()) (.node 213 (()) (.node 212 (()) .leaf .leaf) .leaf) (.node 225 (()) .leaf .leaf)) (.node 230 (()) (.node 227 (()) .leaf .leaf) (.node 231 (()) .leaf .leaf))) (.node 247 (()) (.node 244 (()) (.node 236 (()) (.node 235 (()) .leaf .leaf) .leaf) (.node 246 (()) .leaf .leaf)) (.node 249 (()) (.node 248 (()) .leaf .leaf) (.node 250 (()) .leaf .leaf)))) (.node 269 (()) (.node 265 (()) (.node 263 (()) (.node 253 (()) (.node 252 (()) .leaf .leaf) .leaf) (.node 264 (()) .leaf .leaf)) (.node 267 (()) (.node 266 (()) .leaf .leaf) (.node 268 (()) .leaf .leaf))) (.node 277 (()) (.node 271 (()) (.node 270 (()) .leaf .leaf) (.node 276 (()) .leaf .leaf)) (.node 279 (()) (.node 278 (()) .leaf .leaf) (.node 280 (()) .leaf .leaf))))))
def qyP:BT Unit:=.node 99 (()) (.node 25 (()) (.node 23 (()) (.node 22 (()) .leaf .leaf) .leaf) (.node 93 (()) (.node 29 (()) .leaf .leaf) .leaf)) (.node 205 (()) (.node 188 (()) (.node 106 (()) .leaf .leaf) .leaf) (.node 236 (()) .leaf .leaf))
def qyY:BT Unit:=.node 205 (()) .leaf .leaf
def qyv:BT Unit:=.node 40 (()) .leaf .leaf
def qyO:BT Unit:=.leaf
def qyx:BT (List Nat):=.node 144 ([99,4]) (.node 77 ([65,32]) (.node 56 ([54,55]) (.node 42 ([22,32]) (.node 33 ([25,4,3,32]) .leaf .leaf) (.node 48 ([25,4,32]) .leaf .leaf)) (.node 62 ([61,32]) (.node 59 ([58,32]) .leaf .leaf) .leaf)) (.node 114 ([3,32]) (.node 111 ([3,25,32]) (.node 100 ([99,32]) .leaf .leaf) .leaf) (.node 132 ([118,32]) (.node 116 ([25,32]) .leaf .leaf) .leaf))) (.node 192 ([4,4]) (.node 170 ([106,4]) (.node 150 ([3,4]) (.node 146 ([22,40]) .leaf .leaf) (.node 156 ([25,4]) .leaf .leaf)) (.node 190 ([23,4]) (.node 172 ([9,32]) .leaf .leaf) .leaf)) (.node 228 ([118,4]) (.node 208 ([3,3,32]) (.node 202 ([93,4]) .leaf .leaf) .leaf) (.node 282 ([118,118]) (.node 242 ([40,4]) .leaf .leaf) .leaf)))
def qeD:List (Nat×Func):=[(129,Tryz.f129),(132,Tryz.f132),(150,Tryz.f150),(188,Tryz.f188),(192,Tryz.f192),(203,Tryz.f203),(225,Tryz.f225),(246,Tryz.f246),(266,Tryz.f266),(276,Tryz.f276)]
def qsR:BT Func:=.node 130 (Tryz.f130) (.node 62 (Tryz.f62) (.node 41 (Tryz.f41) (.node 17 (Tryz.f17) (.node 12 (Tryz.f12) (.node 9 (Tryz.f9) (.node 8 (Tryz.f8) (.node 4 (Tryz.f4) .leaf .leaf) .leaf) (.node 11 (Tryz.f11) .leaf .leaf)) (.node 15 (Tryz.f15) (.node 14 (Tryz.f14) .leaf .leaf) (.node 16 (Tryz.f16) .leaf .leaf))) (.node 22 (Tryz.f22) (.node 20 (Tryz.f20) (.node 19 (Tryz.f19) (.node 18 (Tryz.f18) .leaf .leaf) .leaf) (.node 21 (Tryz.f21) .leaf .leaf)) (.node 24 (Tryz.f24) (.node 23 (Tryz.f23) .leaf .leaf) (.node 40 (Tryz.f40) .leaf .leaf)))) (.node 53 (Tryz.f53) (.node 46 (Tryz.f46) (.node 44 (Tryz.f44) (.node 43 (Tryz.f43) (.node 42 (Tryz.f42) .leaf .leaf) .leaf) (.node 45 (Tryz.f45) .leaf .leaf)) (.node 51 (Tryz.f51) (.node 47 (Tryz.f47) .leaf .leaf) (.node 52 (Tryz.f52) .leaf .leaf))) (.node 58 (Tryz.f58) (.node 56 (Tryz.f56) (.node 55 (Tryz.f55) (.node 54 (Tryz.f54) .leaf .leaf) .leaf) (.node 57 (Tryz.f57) .leaf .leaf)) (.node 60 (Tryz.f60) (.node 59 (Tryz.f59) .leaf .leaf) (.node 61 (Tryz.f61) .leaf .leaf))))) (.node 104 (Tryz.f104) (.node 91 (Tryz.f91) (.node 78 (Tryz.f78) (.node 65 (Tryz.f65) (.node 64 (Tryz.f64) (.node 63 (Tryz.f63) .leaf .leaf) .leaf) (.node 66 (Tryz.f66) .leaf .leaf)) (.node 83 (Tryz.f83) (.node 81 (Tryz.f81) .leaf .leaf) (.node 90 (Tryz.f90) .leaf .leaf))) (.node 96 (Tryz.f96) (.node 94 (Tryz.f94) (.node 93 (Tryz.f93) (.node 92 (Tryz.f92) .leaf .leaf) .leaf) (.node 95 (Tryz.f95) .leaf .leaf)) (.node 102 (Tryz.f102) (.node 101 (Tryz.f101) .leaf .leaf) (.node 103 (Tryz.f103) .leaf .leaf)))) (.node 113 (Tryz.f113) (.node 109 (Tryz.f109) (.node 107 (Tryz.f107) (.node 106 (Tryz.f106) (.node 105 (Tryz.f105) .leaf .leaf) .leaf) (.node 108 (Tryz.f108) .leaf .leaf)) (.node 111 (Tryz.f111) (.node 110 (Tryz.f110) .leaf .leaf) (.node 112 (Tryz.f112) .leaf .leaf))) (.node 117 (Tryz.f117) (.node 115 (Tryz.f115) (.node 114 (Tryz.f114) .leaf .leaf) (.node 116 (Tryz.f116) .leaf .leaf)) (.node 119 (Tryz.f119) (.node 118 (Tryz.f118) .leaf .leaf) (.node 129 (Tryz.f129) .leaf .leaf)))))) (.node 211 (Tryz.f211) (.node 174 (Tryz.f174) (.node 155 (Tryz.f155) (.node 151 (Tryz.f151) (.node 134 (Tryz.f134) (.node 133 (Tryz.f133) (.node 132 (Tryz.f132) .leaf .leaf) .leaf) (.node 150 (Tryz.f150) .leaf .leaf)) (.node 153 (Tryz.f153) (.node 152 (Tryz.f152) .leaf .leaf) (.node 154 (Tryz.f154) .leaf .leaf))) (.node 170 (Tryz.f170) (.node 168 (Tryz.f168) (.node 167 (Tryz.f167) (.node 156 (Tryz.f156) .leaf .leaf) .leaf) (.node 169 (Tryz.f169) .leaf .leaf)) (.node 172 (Tryz.f172) (.node 171 (Tryz.f171) .leaf .leaf) (.node 173 (Tryz.f173) .leaf .leaf)))) (.node 191 (Tryz.f191) (.node 179 (Tryz.f179) (.node 177 (Tryz.f177) (.node 176 (Tryz.f176) (.node 175 (Tryz.f175) .leaf .leaf) .leaf) (.node 178 (Tryz.f178) .leaf .leaf)) (.node 189 (Tryz.f189) (.node 188 (Tryz.f188) .leaf .leaf) (.node 190 (Tryz.f190) .leaf .leaf))) (.node 206 (Tryz.f206) (.node 204 (Tryz.f204) (.node 203 (Tryz.f203) (.node 192 (Tryz.f192) .leaf .leaf) .leaf) (.node 205 (Tryz.f205) .leaf .leaf)) (.node 209 (Tryz.f209) (.node 208 (Tryz.f208) .leaf .leaf) (.node 210 (Tryz.f210) .leaf .leaf))))) (.node 251 (Tryz.f251) (.node 234 (Tryz.f234) (.node 226 (Tryz.f226) (.node 214 (Tryz.f214) (.node 213 (Tryz.f213) (.node 212 (Tryz.f212) .leaf .leaf) .leaf) (.node 225 (Tryz.f225) .leaf .leaf)) (.node 230 (Tryz.f230) (.node 227 (Tryz.f227) .leaf .leaf) (.node 231 (Tryz.f231) .leaf .leaf))) (.node 247 (Tryz.f247) (.node 244 (Tryz.f244) (.node 236 (Tryz.f236) (.node 235 (Tryz.f235) .leaf .leaf) .leaf) (.node 246 (Tryz.f246) .leaf .leaf)) (.node 249 (Tryz.f249) (.node 248 (Tryz.f248) .leaf .leaf) (.node 250 (Tryz.f250) .leaf .leaf)))) (.node 269 (Tryz.f269) (.node 265 (Tryz.f265) (.node 263 (Tryz.f263) (.node 253 (Tryz.f253) (.node 252 (Tryz.f252) .leaf .leaf) .leaf) (.node 264 (Tryz.f264) .leaf .leaf)) (.node 267 (Tryz.f267) (.node 266 (Tryz.f266) .leaf .leaf) (.node 268 (Tryz.f268) .leaf .leaf))) (.node 277 (Tryz.f277) (.node 271 (Tryz.f271) (.node 270 (Tryz.f270) .leaf .leaf) (.node 276 (Tryz.f276) .leaf .leaf)) (.node 279 (Tryz.f279) (.node 278 (Tryz.f278) .leaf .leaf) (.node 280 (Tryz.f280) .leaf .leaf))))))
theorem qw0:qsR.All λf fn=>Tryz.prog.funcs[f]? =some fn:=(BT.all_node Tryz.func130 (BT.all_node Tryz.func62 (BT.all_node Tryz.func41 (BT.all_node Tryz.func17 (BT.all_node Tryz.func12 (BT.all_node Tryz.func9 (BT.all_node Tryz.func8 (BT.all_node Tryz.func4 trivial trivial) trivial) (BT.all_node Tryz.func11 trivial trivial)) (BT.all_node Tryz.func15 (BT.all_node Tryz.func14 trivial trivial) (BT.all_node Tryz.func16 trivial trivial))) (BT.all_node Tryz.func22 (BT.all_node Tryz.func20 (BT.all_node Tryz.func19 (BT.all_node Tryz.func18 trivial trivial) trivial) (BT.all_node Tryz.func21 trivial trivial)) (BT.all_node Tryz.func24 (BT.all_node Tryz.func23 trivial trivial) (BT.all_node Tryz.func40 trivial trivial)))) (BT.all_node Tryz.func53 (BT.all_node Tryz.func46 (BT.all_node Tryz.func44 (BT.all_node Tryz.func43 (BT.all_node Tryz.func42 trivial trivial) trivial) (BT.all_node Tryz.func45 trivial trivial)) (BT.all_node Tryz.func51 (BT.all_node Tryz.func47 trivial trivial) (BT.all_node Tryz.func52 trivial trivial))) (BT.all_node Tryz.func58 (BT.all_node Tryz.func56 (BT.all_node Tryz.func55 (BT.all_node Tryz.func54 trivial trivial) trivial) (BT.all_node Tryz.func57 trivial trivial)) (BT.all_node Tryz.func60 (BT.all_node Tryz.func59 trivial trivial) (BT.all_node Tryz.func61 trivial trivial))))) (BT.all_node Tryz.func104 (BT.all_node Tryz.func91 (BT.all_node Tryz.func78 (BT.all_node Tryz.func65 (BT.all_node Tryz.func64 (BT.all_node Tryz.func63 trivial trivial) trivial) (BT.all_node Tryz.func66 trivial trivial)) (BT.all_node Tryz.func83 (BT.all_node Tryz.func81 trivial trivial) (BT.all_node Tryz.func90 trivial trivial))) (BT.all_node Tryz.func96 (BT.all_node Tryz.func94 (BT.all_node Tryz.func93 (BT.all_node Tryz.func92 trivial trivial) trivial) (BT.all_node Tryz.func95 trivial trivial)) (BT.all_node Tryz.func102 (BT.all_node Tryz.func101 trivial trivial) (BT.all_node Tryz.func103 trivial trivial)))) (BT.all_node Tryz.func113 (BT.all_node Tryz.func109 (BT.all_node Tryz.func107 (BT.all_node Tryz.func106 (BT.all_node Tryz.func105 trivial trivial) trivial) (BT.all_node Tryz.func108 trivial trivial)) (BT.all_node Tryz.func111 (BT.all_node Tryz.func110 trivial trivial) (BT.all_node Tryz.func112 trivial trivial))) (BT.all_node Tryz.func117 (BT.all_node Tryz.func115 (BT.all_node Tryz.func114 trivial trivial) (BT.all_node Tryz.func116 trivial trivial)) (BT.all_node Tryz.func119 (BT.all_node Tryz.func118 trivial trivial) (BT.all_node Tryz.func129 trivial trivial)))))) (BT.all_node Tryz.func211 (BT.all_node Tryz.func174 (BT.all_node Tryz.func155 (BT.all_node Tryz.func151 (BT.all_node Tryz.func134 (BT.all_node Tryz.func133 (BT.all_node Tryz.func132 trivial trivial) trivial) (BT.all_node Tryz.func150 trivial trivial)) (BT.all_node Tryz.func153 (BT.all_node Tryz.func152 trivial trivial) (BT.all_node Tryz.func154 trivial trivial))) (BT.all_node Tryz.func170 (BT.all_node Tryz.func168 (BT.all_node Tryz.func167 (BT.all_node Tryz.func156 trivial trivial) trivial) (BT.all_node Tryz.func169 trivial trivial)) (BT.all_node Tryz.func172 (BT.all_node Tryz.func171 trivial trivial) (BT.all_node Tryz.func173 trivial trivial)))) (BT.all_node Tryz.func191 (BT.all_node Tryz.func179 (BT.all_node Tryz.func177 (BT.all_node Tryz.func176 (BT.all_node Tryz.func175 trivial trivial) trivial) (BT.all_node Tryz.func178 trivial trivial)) (BT.all_node Tryz.func189 (BT.all_node Tryz.func188 trivial trivial) (BT.all_node Tryz.func190 trivial trivial))) (BT.all_node Tryz.func206 (BT.all_node Tryz.func204 (BT.all_node Tryz.func203 (BT.all_node Tryz.func192 trivial trivial) trivial) (BT.all_node Tryz.func205 trivial trivial)) (BT.all_node Tryz.func209 (BT.all_node Tryz.func208 trivial trivial) (BT.all_node Tryz.func210 trivial trivial))))) (BT.all_node Tryz.func251 (BT.all_node Tryz.func234 (BT.all_node Tryz.func226 (BT.all_node Tryz.func214 (BT.all_node Tryz.func213 (BT.all_node Tryz.func212 trivial trivial) trivial) (BT.all_node Tryz.func225 trivial trivial)) (BT.all_node Tryz.func230 (BT.all_node Tryz.func227 trivial trivial) (BT.all_node Tryz.func231 trivial trivial))) (BT.all_node Tryz.func247 (BT.all_node Tryz.func244 (BT.all_node Tryz.func236 (BT.all_node Tryz.func235 trivial trivial) trivial) (BT.all_node Tryz.func246 trivial trivial)) (BT.all_node Tryz.func249 (BT.all_node Tryz.func248 trivial trivial) (BT.all_node Tryz.func250 trivial trivial)))) (BT.all_node Tryz.func269 (BT.all_node Tryz.func265 (BT.all_node Tryz.func263 (BT.all_node Tryz.func253 (BT.all_node Tryz.func252 trivial trivial) trivial) (BT.all_node Tryz.func264 trivial trivial)) (BT.all_node Tryz.func267 (BT.all_node Tryz.func266 trivial trivial) (BT.all_node Tryz.func268 trivial trivial))) (BT.all_node Tryz.func277 (BT.all_node Tryz.func271 (BT.all_node Tryz.func270 trivial trivial) (BT.all_node Tryz.func276 trivial trivial)) (BT.all_node Tryz.func279 (BT.all_node Tryz.func278 trivial trivial) (BT.all_node Tryz.func280 trivial trivial)))))))
def cfg:Cfg:={ P:=Tryz.prog,ty:=λt=>qnn.look t,mode:=λf=>match qxo.look f with|some m=>m|none=>.imp,frz:=λf r k=>qxv f r k,mask:=λf r=>qnt f r qxp,cut:=λf r=>qnt f r qyQ,tup:=λt=>qyx.look t,ext:=λf=>qac f qgU,known:=λf=>(qv1.look f).isSome,dat:=λt=>(qyP.look t).isSome,inl:=λf=>z9 f qeD,lift:=λf r=>match qnt f r qxq with|some l=>l|none=>[],ems:=λt=>(qyO.look t).isSome,ali:=λt=>(qyY.look t).isSome,wrt:=λt=>(qyv.look t).isSome,bld:=λt=>qyW.look t,olift:=λf=>match qvR.look f with|some l=>l|none=>[],shp:=λf=>match qyz.look f with|some l=>l|none=>[],okeep:=λf=>match qvS.look f with|some n=>n|none=>0,nsp:=λf=>(qyF.look f).isSome }
theorem qAn{fs:List Fact}(hfs:xE cfg fs){f:Nat}{args:List AV}{v:AV}(m d:Nat)(h:(match yF cfg (λf=>qsR.look f) fs m d (.f f) args []with|some r=>some r.1|none=>none)=some v):EVs (EV cfg) f args=some v:=qyM (λ_ _ h=>BT.all_look qw0 h) hfs m d h
theorem qnD{fs:List Fact}(hfs:xE cfg fs){f:Nat}{args:List AV}{v:AV}(m d:Nat)(h:(match yF cfg (λf=>qsR.look f) fs m d (.f f) args []with|some r=>gA (r.1.frz r.1.msIds r.2).fg some|none=>none)=some v):EVf (EV cfg) f args=some v:=qyN (λ_ _ h=>BT.all_look qw0 h) hfs m d h
instance inl_ok:InlOk cfg:=InlOk.of qeD (λ_=>rfl) ⟨⟨rfl,rfl,Tryz.func129,rfl⟩,⟨⟨rfl,rfl,Tryz.func132,rfl⟩,⟨⟨rfl,rfl,Tryz.func150,rfl⟩,⟨⟨rfl,rfl,Tryz.func188,rfl⟩,⟨⟨rfl,rfl,Tryz.func192,rfl⟩,⟨⟨rfl,rfl,Tryz.func203,rfl⟩,⟨⟨rfl,rfl,Tryz.func225,rfl⟩,⟨⟨rfl,rfl,Tryz.func246,rfl⟩,⟨⟨rfl,rfl,Tryz.func266,rfl⟩,⟨⟨rfl,rfl,Tryz.func276,rfl⟩,trivial⟩⟩⟩⟩⟩⟩⟩⟩⟩⟩
end Go.Proofs.YtafdkafbgohigaaGreat
end
noncomputable section
namespace Go.Av
def cmpS(a b:List UInt8):Int:=if a==b then 0 else if Op.bytesLess a b then -1 else 1
theorem qdS:∀a b:List UInt8,Lib.compareBytes a b=cmpS a b
 |[],[]=>rfl
 |[],_::_=>by simp[Lib.compareBytes,cmpS,Op.bytesLess]
 |_::_,[]=>by simp[Lib.compareBytes,cmpS,Op.bytesLess]
 |a::l,b::m=>by
  rw[Lib.compareBytes,qdS l m];unfold cmpS
  by_cases h:a=b
  ·subst h;have:¬a<a:=by simp
   by_cases h2:l=m
   ·subst h2;simp
   ·simp[Op.bytesLess,h2]
  ·have h':(a::l==b::m)=false:=by simp[h]
   rw[h'];simp only[qAK,if_false,Op.bytesLess]
   by_cases hlt:a<b
   ·simp[hlt]
   ·have:b<a:=by
     have h1:¬a.toNat<b.toNat:=hlt;have h2:a.toNat≠b.toNat:=λe=>h (UInt8.toNat.inj e)
     show b.toNat<a.toNat;omega
    simp[hlt,this,h]
theorem qo8 [Lent] {P:Program} {f:FuncId} {fn:Func} (hf:P.funcs[f]? =some fn) (hn:(fn.name== "runtime.NumGoroutine")=false) (hb:fn.body.isNone=true) (hx:Extern.findNext fn=none)
  (he:Extern.find fn=some Extern.BytealgCompare.compare) {args:List AV} {H H':AH} {r:AV} (hr:qkW args H=some (r,H')) {C:qh} {μ:MMap} {w:World} {vs:Array Value} (ha:qw C μ args vs) (hw:Wld C μ H w):
  vF P (callFunc f vs) w (xc C μ H w r H'):=by
 unfold qkW at hr;split at hr
 ·rename_i H0 a b;cases hr;obtain⟨hl,hv⟩:=ha;obtain⟨x,y,rfl⟩:∃x y,vs= #[x,y]:=by
   obtain⟨l⟩:=vs
   match l,hl with
   |[x,y],_=>exact⟨x,y,rfl⟩
  have h0:=hv 0 _ _ rfl rfl;have h1:=hv 1 _ _ rfl rfl;cases h0;cases h1;have hrun:(callFunc f #[.string ⟨a.toArray⟩,.string ⟨b.toArray⟩]).run P w= .ok (.value (.int .i64 (cmpS a b))) w:=by
   unfold callFunc;simp only[Sem.run_bind,run_program,Result.andThen_ok,hf,hn,hb,qAK,if_false,if_true,run_mark,hx,he,Lib.run_compareString,Sem.run_pure];rw[qdS]
  unfold vF;rw[hrun];exact⟨C,μ,.int _ _,hw,Ext.refl (qAA _)⟩
 ·cases hr
end Go.Av
namespace Go.Proofs.YtafdkafbgohigaaGreat
open Go.Av
theorem qjK:qnn.All λt ti=>tiOf Tryz.prog t=some ti:=by
 unfold qnn
 repeat (first|exact trivial|refine BT.all_node (by show tiOf Tryz.prog _=_;kernel_rfl) ?_ ?_)
theorem qvX:Tryz.prog.funcs.toList.all (λfn=> !(fn.name== "runtime.NumGoroutine"))=true:=by kernel_rfl
theorem qe7:Tryz.prog.follows .mixedOrders=true:=by kernel_rfl
end Go.Proofs.YtafdkafbgohigaaGreat
end
noncomputable section
namespace Go.Av
abbrev Rz:=List (List AV)
abbrev Bz:=List UInt8
inductive Tm where
 |mk (k n:Int) (s:List UInt8) (l:List Tm)
 deriving Inhabited
namespace Tm
def kind:Tm->Int|mk k _ _ _=>k
def num:Tm->Int|mk _ n _ _=>n
def str:Tm->List UInt8|mk _ _ s _=>s
def subs:Tm->List Tm|mk _ _ _ l=>l
end Tm
mutual
def Tm.cells:Tm->List AV
 | .mk k n s l=>[.int .i64 k,.int .i64 n,.str s,.sl (qa l)]
def qa:List Tm->List (List AV)
 |[]=>[]
 |t::l=>t.cells::qa l
end
def Tm.av(t:Tm):AV:=.agg t.cells
theorem Tm.cells_mk(k n:Int)(s:List UInt8)(l:List Tm):(Tm.mk k n s l).cells=[.int .i64 k,.int .i64 n,.str s,.sl (qa l)]:=by rw[Tm.cells]
theorem Tm.av_mk(k n:Int)(s:List UInt8)(l:List Tm):(Tm.mk k n s l).av= .agg [.int .i64 k,.int .i64 n,.str s,.sl (qa l)]:=by rw[Tm.av,Tm.cells_mk]
theorem qam:∀l:List Tm,qa l=l.map Tm.cells
 |[]=>by rw[qa];rfl
 |t::l=>by rw[qa,qam l];rfl
@[simp] theorem qc(l:List Tm):(qa l).length=l.length:=by rw[qam];simp
@[simp] theorem vj:qa []=[]:=by rw[qa]
theorem qK(t:Tm)(l:List Tm):qa (t::l)=t.cells::qa l:=by rw[qa]
theorem vH(a b:List Tm):qa (a++b)=qa a++qa b:=by simp[qam]
theorem qrW(n:Nat)(a:List Tm):(qa a).take n=qa (a.take n):=by simp[qam,List.map_take]
theorem qrX(n:Nat)(a:List Tm):(qa a).drop n=qa (a.drop n):=by simp[qam,List.map_drop]
theorem yQ(l:List Tm)(i:Nat):(qa l)[i]? =(l[i]?).map Tm.cells:=by rw[qam];simp
theorem qtT(l:List Tm)(i:Nat)(t:Tm):(qa l).set i t.cells=qa (l.set i t):=by simp[qam,List.map_set]
theorem qlb(t:Tm):qz 0 t.cells=true:=by
 obtain⟨k,n,s,l⟩:=t;rw[Tm.cells_mk];rfl
theorem qjS(l:List Tm):qQ 0 (qa l)=true:=by
 induction l with
 |nil=>rw[qa];rfl
 |cons t l ih=>rw[qa,qQ,ih,qlb];rfl
mutual
/-- no list is longer than is counted here, no text -/
def Tm.Ok:Tm->Prop
 | .mk _ _ s l=>s.length<1099511627776∧l.length<1099511627776∧OkL l
def OkL:List Tm->Prop
 |[]=>True
 |t::l=>t.Ok∧OkL l
end
theorem qhO{l:List Tm}:OkL l↔∀t∈l,t.Ok:=by
 induction l with
 |nil=>simp[OkL]
 |cons t l ih=>simp[OkL,ih]
theorem Tm.Ok.str{k n:Int}{s:List UInt8}{l:List Tm}(h:(Tm.mk k n s l).Ok):s.length<1099511627776:=by rw[Tm.Ok]at h;exact h.1
theorem Tm.Ok.len{k n:Int}{s:List UInt8}{l:List Tm}(h:(Tm.mk k n s l).Ok):l.length<1099511627776:=by rw[Tm.Ok]at h;exact h.2.1
theorem Tm.Ok.sub{k n:Int}{s:List UInt8}{l:List Tm}(h:(Tm.mk k n s l).Ok){t:Tm}(ht:t∈l):t.Ok:=by rw[Tm.Ok]at h;exact qhO.1 h.2.2 t ht
theorem OkL.get{l:List Tm}(h:OkL l){t:Tm}(ht:t∈l):t.Ok:=qhO.1 h t ht
theorem Tm.ind{P:Tm->Prop}(h:∀k n s l,(∀t∈l,P t)->P (.mk k n s l)):∀t,P t
 | .mk k n s l=>h k n s l (λt _=>Tm.ind h t)
theorem vE{x:Int}(h1: -9223372036854775808<=x)(h2:x<9223372036854775808):qAH .i64 x=x:=by
 simp[qAH,IntKind.bits,IntKind.signed];omega
theorem qL{i n:Nat}(h:i<n)(hn:n<1099511627776):qAH .i64 ((i:Int)+1)=((i+1:Nat):Int):=by
 rw[vE (by omega) (by omega)];rfl
theorem qI(i:Nat):qe 0 (i:Int)=true:=by simp[qe]
theorem q8(i n:Nat):qi (i:Int) (n:Int)=decide (i<n):=by simp[qi]
def kTmC{α:Type}(l:List AV)(k:Int->Int->List UInt8->List (List AV)->Option α):Option α:=
 qf l λc cs=>kInt .i64 c λn=>qf cs λc cs=>kInt .i64 c λm=>qf cs λc cs=>kStr c λs=>qf cs λc cs=>kSl c λA=>kNil cs (k n m s A)
def kTmV{α:Type}(v:AV)(k:Int->Int->List UInt8->List (List AV)->Option α):Option α:=kAgg v λcs=>kTmC cs k
theorem ye{α:Type}{l:List Tm}{i:Nat}{t:Tm}(h:l[i]? =some t)(k:List AV->Option α):kOpt (qAu (qa l) (qAR (i:Int))) k=k t.cells:=by
 rw[qB,qAS,yQ,h];rfl
mutual
def Tm.w:Tm->Nat
 | .mk _ _ s l=>1+s.length+wL l
def wL:List Tm->Nat
 |[]=>0
 |t::l=>t.w+wL l
end
theorem Tm.w_mk(k n:Int)(s:List UInt8)(l:List Tm):(Tm.mk k n s l).w=1+s.length+wL l:=by rw[Tm.w]
theorem Tm.w_eq(t:Tm):t.w=1+t.str.length+wL t.subs:=by cases t;rw[Tm.w_mk];rfl
@[simp] theorem xu:wL []=0:=by rw[wL]
@[simp] theorem qA(t:Tm)(l:List Tm):wL (t::l)=t.w+wL l:=by rw[wL]
@[simp] theorem zB(a b:List Tm):wL (a++b)=wL a+wL b:=by
 induction a with
 |nil=>simp
 |cons t l ih=>simp[ih];omega
theorem yJ(t:Tm):1<=t.w:=by rw[Tm.w_eq];omega
theorem vV{t:Tm}{l:List Tm}(h:t∈l):t.w<=wL l:=by
 induction l with
 |nil=>cases h
 |cons x l ih=>
  rw[qA];rcases qAZ.1 h with rfl|h
  ·omega
  ·have:=ih h;omega
theorem xw(l:List Tm):l.length<=wL l:=by
 induction l with
 |nil=>simp
 |cons x l ih=>have:=yJ x;simp;omega
theorem qbk(t:Tm):t.w<1099511627776->t.Ok:=by
 induction t using Tm.ind with
 |_ k n s l ih=>
  intro h;rw[Tm.w_mk]at h;rw[Tm.Ok];have:=xw l;exact⟨by omega,by omega,qhO.2 λt ht=>ih t ht (by have:=vV ht;omega)⟩
theorem qvT{l:List Tm}(h:wL l<1099511627776):OkL l:=qhO.2 λt ht=>qbk t (by have:=vV ht;omega)
theorem qtE(l:List Tm):wL l.reverse=wL l:=by
 induction l with
 |nil=>rfl
 |cons x l ih=>simp[ih];omega
end Go.Av
end
noncomputable section
namespace Go.Proofs.YtafdkafbgohigaaGreat
open Go.Av
def C0(W:World):qh:=λb o=>W.cell? ⟨b,o,none⟩
def M0:MMap:=λ_=>none
theorem wld0(W:World):Wld (C0 W) M0 [] W where
 cl:=λ_ _ _ h=>h
 dom:=λid m h=>by cases h
 res:=λid h=>by simp at h
 live:=λid b h=>by simp at h
 froz:=λid d sz rs h=>by simp at h
 inj:=λi i' b b' m m' h=>by simp at h
 free:=yA.nil
 lnt:=⟨λ_ _ _ h=>(by cases h),λh=>h.elim,λ_ _=>trivial⟩
structure TermTys (P:Program) (tT tL tI tS:TypeId):Prop where
 uT:∃f0 f1 f2 f3:Field,P.underlying tT=some (.struct #[f0,f1,f2,f3])∧f0.type=tI∧f0.offset=0∧f1.type=tI∧f1.offset=1∧f2.type=tS∧f2.offset=2∧f3.type=tL∧f3.offset=3
 uL:P.underlying tL=some (.slice tT)
 uI:P.underlying tI=some (.int .i64)
 uS:P.underlying tS=some .string
 cT:P.cellsOf tT=4
 cL:P.cellsOf tL=1
 cI:P.cellsOf tI=1
 cS:P.cellsOf tS=1
noncomputable section
variable {H : Type} {enc : TypeId × Value → H} {P : Program} {W : World} {tT tL tI tS : TypeId}
def qjh(W:World)(cs:List Value)(t:Tm):Prop:=cs.length=4∧∀(j:Nat) a v,t.cells[j]? =some a->cs[j]? =some v->a.isCell=true∧Rep (C0 W) M0 a v
theorem qaY{base:Nat}{a:Addr}{n:Nat}{cs:List Value}(h:W.cells? base a n=some cs)(hn:0<n):a.spot=none∧cs.length=n∧∀(j:Nat) v,cs[j]? =some v->W.cell? ⟨a.block,a.off+j,none⟩=some v:=by
 unfold World.cells? at h;split at h
 ·have hl:cs.length=n:=by simpa using mapM_some_length h
  have hg:∀(j:Nat),j<n->W.cell? (a.add j)=cs[j]? :=λj hj=>mapM_some_get h j j (by simp[hj])
  have hsp:a.spot=none:=by
   have h0:=hg 0 hn;rw[qAv (by omega)]at h0;cases hs:a.spot with
   |none=>rfl
   |some s=>
    simp only[World.cell?,Addr.add,qBj,hs]at h0;split at h0
    ·simp at h0
    ·cases h0
  refine⟨hsp,hl,λj v hv=>?_⟩;have hj:j<n:=by rw[←hl];exact(qAy.1 hv).1
  have:=hg j hj;rw[hv]at this;rw[yU _ _ hsp]at this;exact this
 ·cases h
theorem qu1{H:Type}{d:DataW H}{l:List (DataW H)}(h:d∈l):Rows.uptoBulk d<=Rows.uptoBulkAll l:=by
 induction l with
 |nil=>cases h
 |cons x r ih=>
  simp only[Rows.uptoBulkAll];cases qAZ.1 h with
  |inl e=>subst e;omega
  |inr e=>have:=ih e;omega
theorem qlc{H:Type}:∀(l:List Tm) (ds:List (DataW H)),l.length=ds.length->(∀(i:Nat) t d,l[i]? =some t->ds[i]? =some d->t.w<=Rows.uptoBulk d)->wL l<=Rows.uptoBulkAll ds
 |[],[],_,_=>by simp[Rows.uptoBulkAll]
 |t::l,d::ds,hl,h=>by
  have h0:=h 0 t d rfl rfl;have:=qlc l ds (by simpa using hl) (λi t d ht hd=>h (i+1) t d (by simpa using ht) (by simpa using hd));simp only[qA,Rows.uptoBulkAll];omega
theorem quh(T:TermTys P tT tL tI tS):∀(n:Nat),
  (∀cs x,DataW.trod enc P W 0 (λ_=>true) true n tT cs=some x->∃t:Tm,qjh W cs t∧t.w<=Rows.uptoBulk x.1 ∧
   ∀(W':World) (sp:Nat->Bool),(∀p∈x.2,W.sameAt W' p)->(∀p∈x.2,sp p.block=true)->DataW.trod enc P W' 0 sp true n tT cs=some x) ∧
  (∀cs x,DataW.trod enc P W 0 (λ_=>true) true n tL cs=some x->∃(l:List Tm) (v:Value),cs=[v]∧Rep (C0 W) M0 (.sl (qa l)) v∧wL l<=Rows.uptoBulk x.1 ∧
   ∀(W':World) (sp:Nat->Bool),(∀p∈x.2,W.sameAt W' p)->(∀p∈x.2,sp p.block=true)->DataW.trod enc P W' 0 sp true n tL cs=some x):=by
 intro n
 induction n with
 |zero=>exact⟨λcs x h=>by simp[DataW.trod]at h,λcs x h=>by simp[DataW.trod]at h⟩
 |succ n ih=>
  obtain⟨ihT,ihL⟩:=ih;refine⟨λcs x h=>?_,λcs x h=>?_⟩
  ·obtain⟨f0,f1,f2,f3,hu,t0,o0,t1,o1,t2,o2,t3,o3⟩:=T.uT;obtain⟨xs,n',e,rfl,hl,hxl,hx⟩:=DataW.trod_struct hu h;obtain rfl:n'=n:=by omega
   rw[T.cT]at hl;obtain⟨c0,c1,c2,c3,rfl⟩:∃c0 c1 c2 c3,cs=[c0,c1,c2,c3]:=by
    match cs,hl with
    |[a,b,c,d],_=>exact⟨a,b,c,d,rfl⟩
   obtain⟨x0,x1,x2,x3,rfl⟩:∃c0 c1 c2 c3,xs=[c0,c1,c2,c3]:=by
    match xs,hxl with
    |[a,b,c,d],_=>exact⟨a,b,c,d,rfl⟩
   have h0:=hx 0 f0 rfl;have h1:=hx 1 f1 rfl;have h2:=hx 2 f2 rfl;have h3:=hx 3 f3 rfl;rw[t0,o0,T.cI]at h0;rw[t1,o1,T.cI]at h1;rw[t2,o2,T.cS]at h2;rw[t3,o3,T.cL]at h3;simp at h0 h1 h2 h3;obtain⟨k,e0,rfl,w0⟩:=DataW.trod_int T.uI h0;obtain⟨m,e1,rfl,w1⟩:=DataW.trod_int T.uI h1;obtain⟨s,e2,rfl,w2⟩:=DataW.trod_string T.uS h2;obtain⟨l,v,e3,hr,hb,hback⟩:=ihL _ _ h3;simp at e0 e1 e2 e3;subst e0 e1 e2 e3;refine⟨.mk k m s.data.toList l,⟨rfl,λj a u ha hu=>?_⟩,?_,λW' sp hs hp=>?_⟩
   ·rw[Tm.cells_mk]at ha
    match j,ha,hu with
    |0,ha,hu=>simp at ha hu;subst ha hu;exact⟨rfl,.int _ _⟩
    |1,ha,hu=>simp at ha hu;subst ha hu;exact⟨rfl,.int _ _⟩
    |2,ha,hu=>
     simp at ha hu;subst ha hu;refine⟨rfl,?_⟩;have:=Rep.str (C:=C0 W) (μ:=M0) s.data.toList
     simpa using this
    |3,ha,hu=>simp at ha hu;subst ha hu;exact⟨rfl,hr⟩
    |(j+4),ha,hu=>simp at ha
   ·simp only[qBf,List.map_nil,Rows.uptoBulk,Rows.uptoBulkAll];rw[Tm.w_mk];omega
   ·have hs3:∀p∈x3.2,W.sameAt W' p:=λp hp=>hs p (by simp[hp])
    have hp3:∀p∈x3.2,sp p.block=true:=λp hpp=>hp p (by simp[hpp])
    have b3:=hback W' sp hs3 hp3;have b0:DataW.trod enc P W' 0 sp true n' tI [Value.int .i64 k]=some (.lit (.int .i64 k),[]):=by
     cases n' with
     |zero=>simp[DataW.trod]at h0
     |succ q=>simp[DataW.trod,T.uI,w0]
    have b1:DataW.trod enc P W' 0 sp true n' tI [Value.int .i64 m]=some (.lit (.int .i64 m),[]):=by
     cases n' with
     |zero=>simp[DataW.trod]at h0
     |succ q=>simp[DataW.trod,T.uI,w1]
    have b2:DataW.trod enc P W' 0 sp true n' tS [Value.string s]=some (.lit (.string s.data.toList),[]):=by
     cases n' with
     |zero=>simp[DataW.trod]at h0
     |succ q=>simp[DataW.trod,T.uS,w2]
    unfold DataW.trod;rw[hu];simp[T.cT,t0,o0,t1,o1,t2,o2,t3,o3,T.cI,T.cS,T.cL,b0,b1,b2,b3]
  ·rcases DataW.trod_slice T.uL h with⟨rfl,rfl⟩|⟨a,len,cap,elems,rest,n',e,rfl,rfl,hb,hlc,hmx,hel,hg,hsp,_⟩
   ·refine⟨[],_,rfl,by rw[vj];exact .slNil,by simp,λW' sp _ _=>?_⟩;simp[DataW.trod,T.uL]
   ·obtain rfl:n'=n:=by omega
    obtain⟨hrl,hrg⟩:=hsp rfl;have one:∀(i:Nat) (y:DataW H×List MemPlace),(W.cells? 0 (a.add (i*P.cellsOf tT)) (P.cellsOf tT)).bind (DataW.trod enc P W 0 (λ_=>true) true n' tT)=some y ->
      ∃cs',W.cells? 0 (a.add (i*4)) 4=some cs'∧DataW.trod enc P W 0 (λ_=>true) true n' tT cs'=some y:=by
     intro i y hy;rw[T.cT]at hy;exact qAx.1 hy
    -- the terms
    have tms:∃f:Nat->Tm,∀(i:Nat) y,elems[i]? =some y->∃cs',W.cells? 0 (a.add (i*4)) 4=some cs'∧qjh W cs' (f i)∧(f i).w<=Rows.uptoBulk y.1:=by
     have:∀i:Nat,∃t:Tm,∀y,elems[i]? =some y->∃cs',W.cells? 0 (a.add (i*4)) 4=some cs'∧qjh W cs' t∧t.w<=Rows.uptoBulk y.1:=by
      intro i;cases hy:elems[i]? with
      |none=>exact⟨default,λy h=>by cases h⟩
      |some y=>
       have hi:i<len:=by rw[←hel];exact(qAy.1 hy).1
       obtain⟨cs',h1,h2⟩:=one i y ((hg i hi).trans hy);obtain⟨t,h3,h4,_⟩:=ihT _ _ h2;exact⟨t,λy' hy'=>by cases hy';exact⟨cs',h1,h3,h4⟩⟩
     exact⟨λi=>Classical.choose (this i),λi=>Classical.choose_spec (this i)⟩
    obtain⟨f,hf⟩:=tms;have hget:∀(i:Nat) (row:List AV),(qa ((qA7 len).map f))[i]? =some row->i<len∧row=(f i).cells:=by
     intro i row hi;have hil:i<len:=by have:=(qAy.1 hi).1;simpa using this
     refine⟨hil,?_⟩;rw[yQ,List.getElem?_map,List.getElem?_range hil]at hi
     simpa using hi.symm
    have hcell:∀(i j:Nat) (row:List AV) x,(qa ((qA7 len).map f))[i]? =some row->row[j]? =some x->a.spot=none∧x.isCell=true∧∃v,W.cell? ⟨a.block,a.off+i*4+j,none⟩=some v∧Rep (C0 W) M0 x v:=by
     intro i j row x hi hj;obtain⟨hil,rfl⟩:=hget i row hi;obtain⟨cs',h1,h2,_⟩:=hf i _ (qAv (by omega));obtain⟨s1,s2,s3⟩:=qaY h1 (by omega);have hspot:a.spot=none:=by
      obtain⟨cs0,q1,_⟩:=hf 0 _ (qAv (by omega));have:=(qaY q1 (by omega)).1
      simpa [Addr.add]using this
     have hjl:j<cs'.length:=by
      rw[h2.1];have:=(qAy.1 hj).1;cases hfi:f i with
      |mk k n s l=>rw[hfi,Tm.cells_mk]at this;simpa using this
     have h4:=h2.2 j x _ hj (qAv hjl);refine⟨hspot,h4.1,_,?_,h4.2⟩;have:=s3 j _ (qAv hjl);rw[yU _ _ hspot]at this;exact this
    refine⟨(qA7 len).map f,_,rfl,?_,?_,λW' sp hs hp=>?_⟩
    ·have:=Rep.sl (C:=C0 W) (μ:=M0) (qa ((qA7 len).map f)) a cap 4 (λi j=>(W.cell? ⟨a.block,a.off+i*4+j,none⟩).getD undef) (λhne=>?_) (λi row hi=>?_) (λi j row x hi hj=>?_) (λi j row x hi hj=>?_) (λi j row x hi hj=>?_) (by simpa using hlc) (qjS _)
     ·simpa using this
     ·have hl0:0<len:=by
       rcases Nat.eq_zero_or_pos len with h0|h0
       ·subst h0;exact absurd (by simp) hne
       ·exact h0
      obtain⟨cs0,q1,_⟩:=hf 0 _ (qAv (by omega));have:=(qaY q1 (by omega)).1
      simpa [Addr.add]using this
     ·obtain⟨_,rfl⟩:=hget i row hi;cases hfi:f i with
      |mk k n s l=>rw[Tm.cells_mk];rfl
     ·obtain⟨_,_,v,h1,_⟩:=hcell i j row x hi hj;show W.cell? _=_;rw[h1];rfl
     ·obtain⟨_,_,v,h1,h2⟩:=hcell i j row x hi hj;rw[h1];exact h2
     ·exact(hcell i j row x hi hj).2.1
    ·simp only[Rows.uptoBulk];have:=qlc ((qA7 len).map f) (elems.map (·.1)) (by simp[hel]) (λi t d ht hd=>by
      rw[List.getElem?_map]at ht hd;obtain⟨j,hj,rfl⟩:=qAD.1 ht;obtain⟨y,hy,rfl⟩:=qAD.1 hd;have hil:i<len:=by have:=(qAy.1 hj).1;simpa using this
      rw[List.getElem?_range hil]at hj;cases hj;obtain⟨_,_,_,h4⟩:=hf i y hy;exact h4)
     omega
    ·have hrow:0<(elems.length+rest.length)->sp a.block=true:=λhpos=>hp (.cell a.block (a.off+0)) (by
      rw[qAY];exact .inl (MemPlace.mem_row.2 ⟨0,Nat.mul_pos hpos (by rw[T.cT];omega),rfl⟩))
     unfold DataW.trod at h⊢;rw[T.uL]at h⊢;simp only[if_true]at h⊢;rw[qBj ⟨hb,hlc,hmx⟩]at h⊢;simp only[qAD,qAx]at h⊢;obtain⟨elems',he,rest',hr,hx⟩:=h;have hlen:elems'.length=len:=by simpa using mapM_some_length he
     have hrl':rest'.length=cap - len:=by simpa using mapM_some_length hr
     simp only[Prod.mk.injEq,DataW.slice.injEq]at hx;have one':∀(i:Nat) (y:DataW H×List MemPlace),i<elems'.length+rest'.length->y∈elems'++rest' ->
       (W.cells? 0 (a.add (i*P.cellsOf tT)) (P.cellsOf tT)).bind (DataW.trod enc P W 0 (λ_=>true) true n' tT)=some y->(W'.cells? 0 (a.add (i*P.cellsOf tT)) (P.cellsOf tT)).bind (DataW.trod enc P W' 0 sp true n' tT)=some y:=by
      intro i y hi hy hv;simp only[qAx]at hv⊢;obtain⟨cs',hc',hy'⟩:=hv;obtain⟨_,_,_,hbk⟩:=ihT _ _ hy';refine⟨cs',World.cells?_carry hc' (λp hpp=>hs p ?_),hbk W' sp (λp hpp=>hs p ?_) (λp hpp=>hp p ?_)⟩
      ·rw[←hx.2];obtain⟨j,hj,rfl⟩:=MemPlace.mem_row.1 hpp;simp only[qAY]
       left
       refine MemPlace.mem_row.2 ⟨i*P.cellsOf tT+j,?_,?_⟩
       ·calc i*P.cellsOf tT+j<i*P.cellsOf tT+P.cellsOf tT:=by omega
         _=(i+1)*P.cellsOf tT:=by rw[qBg,Nat.one_mul]
         _<=(elems'.length+rest'.length)*P.cellsOf tT:=qAX _ hi
       ·unfold Addr.add;split
        ·rename_i h0;simp[h0]
        ·simp[qBa]
      ·rw[←hx.2];simp only[qAY,List.mem_flatMap]
       right
       exact⟨y,by simpa using hy,hpp⟩
      ·rw[←hx.2];simp only[qAY,List.mem_flatMap]
       right
       exact⟨y,by simpa using hy,hpp⟩
     refine⟨elems',mapM_carry he (λi y hi hy=>one' i y (by have:i<len:=(by simpa using hi);omega) (by simp[hy])),rest',?_,by simp only[Prod.mk.injEq,DataW.slice.injEq];exact hx⟩
     by_cases h0:0<elems.length+rest.length
     ·rw[qBj (hrow h0)];exact mapM_carry hr (λj y hj hy=>one' (len+j) y (by have:j<cap - len:=(by simpa using hj);omega) (by simp[hy]))
     ·have hc0:cap - len=0:=by omega
      rw[hc0]at hr⊢;simp at hr;subst hr;split<;>rfl
end
end Go.Proofs.YtafdkafbgohigaaGreat
end
noncomputable section
namespace Go.Proofs.YtafdkafbgohigaaGreat
open Go.Av Go.ChangeShapes Go.WideShapes Go.ChangeAt Go.RowKit
theorem qvN:ownKnob Tryz.prog.godebug=none:=by kernel_rfl
noncomputable section
variable {H : Type} {enc : TypeId × Value → H} {P : Program} {W W' : World}
theorem qua{f:Func}{s:ChangeSpec}{apart fresh handsOn again:Bool}{args:Array Value}{v:Value}{ds gs:List (DataW H)}{before pa pv:List MemPlace}(hW:DataW.Whole enc P f.params.toList s.vars apart W args.toList ds gs before)(hres:∀(b:Nat) (sp:Nat->Bool) (hd:Bool),DataW.TrodAll enc P W' b sp hd f.resultTypes.toList (v.resultList f.resultTypes.size) (s.fn H (ds++gs)).results [])(hargs:∀sp:Nat->Bool,(∀p∈before,sp p.block=true)->DataW.TrodAll enc P W' 0 sp true f.params.toList args.toList (s.fn H (ds++gs)).args pa)(hvars:∀sp:Nat->Bool,(∀p∈before,sp p.block=true)->DataW.TrodVars enc P W' sp s.vars (s.fn H (ds++gs)).vars pv)(hps:before=pa++pv)(hk:W.keptBut W' (·∈before))(hfz:∀b o,b<W.heap.size->W'.frozen? ⟨b,o,none⟩=W.frozen? ⟨b,o,none⟩)(hok:∀(j:Nat) (t:TypeId) (r:Value),f.resultTypes[j]? =some t->(v.resultList f.resultTypes.size)[j]? =some r->Value.okWide P W' .any 0 t r):
  s.post enc P f apart fresh handsOn again W args v W':=by
 have hlt:=hW.lt;have hold:∀p∈before,(λb=>decide (b<W.heap.size)) p.block=true:=λp hp=>by simpa using hlt p hp
 refine⟨ds,gs,before,[],pa,pv,hW,hres _ _ _,hargs _ hold,hvars _ hold,World.keptBut_mono (λp hp=>⟨hp,?_⟩) hk,λ_=>?_⟩
 ·rw[hps,qAY]at hp;exact Or.inr hp
 ·obtain⟨_,_,_,_,_,hz,hn⟩:=hW;refine⟨hok,_,_,([]++pa)++pv,⟨[]++pa,pv,trodAll_append (hargs _ (λ_ _=>rfl)) (hres _ _ _),hvars _ (λ_ _=>rfl),rfl,?_,?_⟩,?_⟩
  ·intro b off hp;have hp':MemPlace.cell b off∈before:=by rw[hps];simpa using hp
   rw[hfz b off (hlt _ hp')];exact hz b off hp'
  ·intro ha;have:=hn ha;rw[hps]at this
   simpa using this
  ·intro p hp _;rw[hps]
   simpa using hp
theorem qoC(h:∀b,b<W.heap.size->W'.heap[b]? =W.heap[b]?)(ho:W'.os=W.os)(hu:W'.output=W.output)(may:MemPlace->Prop):W.keptBut W' may:=by
 refine⟨ho,hu,λi hi=>?_⟩;rw[h i hi];cases W.heap[i]? with
 |none=>rfl
 |some o=>cases o<;>simp
theorem qdd(h:∀b,b<W.heap.size->W'.heap[b]? =W.heap[b]?){p:MemPlace}(hp:p.block<W.heap.size):W.sameAt W' p:=by
 cases p with
 |cell b o=>simp only[World.sameAt,World.cell?];rw[h b hp]
 |map b=>exact h b hp
theorem qlS(h:∀b,b<W.heap.size->W'.heap[b]? =W.heap[b]?)(b o:Nat)(hb:b<W.heap.size):W'.frozen? ⟨b,o,none⟩=W.frozen? ⟨b,o,none⟩:=by
 simp only[World.frozen?];rw[h b hb]
structure Opened (enc:TypeId×Value->H) (P:Program) (W:World) (t:TypeId) (v:Value) (d:DataW H) (ps:List MemPlace) (a:AV):Prop where
 rep:Rep (C0 W) M0 a v
 back:∀(W':World) (sp:Nat->Bool),(∀p∈ps,W.sameAt W' p)->(∀p∈ps,sp p.block=true)->DataW.Trod enc P W' 0 sp true t v d ps
theorem qmn{tT tL tI tS:TypeId}(T:TermTys P tT tL tI tS){r:Reach}{b0:Nat}{v:Value}{d:DataW H}{ps:List MemPlace}(hval:Value.okWide P W r b0 tT v)(hd:DataW.Trod enc P W 0 (λ_=>true) true tT v d ps):
  ∃t:Tm,Opened enc P W tT v d ps t.av∧t.w<=Rows.uptoBulk d:=by
 obtain⟨f0,f1,f2,f3,hu,_⟩:=T.uT;obtain⟨cs,rfl,hsz⟩:=okWide_struct hu hval;obtain⟨n,hn⟩:=hd;obtain⟨t,h1,h2,h3⟩:=(quh T n).1 _ _ hn;refine⟨t,⟨?_,λW' sp hs hp=>⟨n,h3 W' sp hs hp⟩⟩,h2⟩;have:=Rep.agg (C:=C0 W) (μ:=M0) t.cells cs.toList (by
  have:=h1.1;cases t with
  |mk k n s l=>rw[Tm.cells_mk];simpa [Value.cells]using this.symm) (λi a v ha hv=>(h1.2 i a v ha (by simpa [Value.cells]using hv)).2)
 simpa [Tm.av]using this
end
theorem qtX{C:qh}{a b c:AV}{x y z:Value}(h1:Rep C M0 a x)(h2:Rep C M0 b y)(h3:Rep C M0 c z):qw C M0 [a,b,c] #[x,y,z]:=⟨rfl,λi c v hc hv=>by
 match i,hc,hv with
 |0,hc,hv=>simp at hc hv;subst hc hv;exact h1
 |1,hc,hv=>simp at hc hv;subst hc hv;exact h2
 |2,hc,hv=>simp at hc hv;subst hc hv;exact h3
 |(i+3),hc,hv=>simp at hc⟩
end Go.Proofs.YtafdkafbgohigaaGreat
end
noncomputable section
namespace Go.Proofs.YtafdkafbgohigaaGreat
open Go.Av Go.ChangeShapes Go.WideShapes Go.ChangeAt Go.RowKit
theorem qn2:TermTys Tryz.prog 25 23 3 9 where
 uT:=⟨_,_,_,_,Tryz.underlying25,rfl,rfl,rfl,rfl,rfl,rfl,rfl,rfl⟩
 uL:=Tryz.underlying23
 uI:=Tryz.underlying3
 uS:=Tryz.underlying9
 cT:=by kernel_rfl
 cL:=by kernel_rfl
 cI:=by kernel_rfl
 cS:=by kernel_rfl
end Go.Proofs.YtafdkafbgohigaaGreat
end
noncomputable section
namespace Go.Proofs.YtafdkafbgohigaaGreat
open Go.Av Go.ChangeShapes Go.WideShapes Go.ChangeAt Go.RowKit
theorem qe6(f:FuncId)(fn:Func)(h:Tryz.prog.funcs[f]? =some fn):(fn.name== "runtime.NumGoroutine")=false:=by
 have h1:=qBd.1 qvX fn (by
  rw[←qBb]at h;exact qAJ h)
 simpa using h1
theorem quU[Lent]{args:List AV}{H H':AH}{r:AV}{C:qh}{μ:MMap}{w:World}{vs:Array Value}(hr:qkW args H=some (r,H'))(ha:qw C μ args vs)(hw:Wld C μ H w):
  vF Tryz.prog (callFunc 281 vs) w (xc C μ H w r H'):=
 qo8 (P:=Tryz.prog) Tryz.func281 (by rfl) (by rfl) (by kernel_rfl) (by kernel_rfl) hr ha hw
theorem qaX [Lent] : CfgOk cfg where
  ty := ⟨fun t ti h => BT.all_look qjK h⟩
  mixed := qe7
  named := fun f fn _ h => qe6 f fn h
  ext := fun f s h args H r H' hr C μ w vs ha hw => by
    have h : qac f qgU = some s := h
    unfold qgU at h
    rw [qac] at h
    split at h
    · rename_i e
      have e := qAC e
      subst e
      cases h
      exact quU hr ha hw
    · rw [qkV] at h
      first
        | (rw [qac] at h; cases h; done)
        | (have okK : CfgOk K.cfg := {
             ty := ⟨fun t ti h => BT.all_look (show K.qnn.All _ from qjK) h⟩
             mixed := qe7
             named := fun f fn _ h => qe6 f fn h
             ext := fun f s h args H r H' hr C μ w vs ha hw => by
               have h : K.qac f K.qgU = some s := h
               unfold K.qgU at h
               rw [K.qac] at h
               split at h
               · rename_i e
                 have e := qAC e
                 subst e
                 cases h
                 exact quU hr ha hw
               · rw [K.qkV, K.qac] at h
                 cases h }
           rw [qac] at h
           split at h
           · rename_i e
             have e := qAC e
             subst e
             cases h
             exact (qb0 okK).calls _ _ _ _ _ hr C μ w vs _ ha hw rfl
           · rw [qac] at h
             cases h)
theorem row_calls{f:FuncId}{args:List AV}{vs:Array Value}{W:World}(hx:cfg.ext f=none)(he:EVs (EV cfg) f args=some (.bool true))(ha:qw (C0 W) M0 args vs):
  Calls Tryz.prog f vs W λe W'=>e= .returned (.bool true)∧(∀b,b<W.heap.size->W'.heap[b]? =W.heap[b]?)∧W.heap.size<=W'.heap.size∧W'.os=W.os∧W'.output=W.output:=by
 unfold EVs at he;obtain⟨q,h1,h2⟩:=qAD.1 he;have:=qpK qaX hx (r:=q.1) (H':=q.2) h1 ha (wld0 W);refine this.mono λe W' ⟨v,hv,C',μ',p1,p2,p3⟩=>?_
 rw[h2]at p1;cases p1;refine⟨hv,λb hb=>(p3.fr b hb vI).1,p3.size,p3.os,p3.output⟩
end Go.Proofs.YtafdkafbgohigaaGreat
end
