/-
  Parts of the proof of BoundTellsUptoSaid, put together: the abstract evaluation and its contracts. Own work.
  What is proved: each lemma as it stands; no condition.
-/
import Derived.KernelRfl
import Derived.Test.YtgleolmhpmljhaaGreatProg
import Derived.Lib.Bytealg
import Derived.Test.YtgleolmhpmljhaaGreatRows
import Derived.ProofKit
import Derived.OpenShut
import Derived.JoinedCond
import Derived.ChangeArms
import Derived.RowKit
import Derived.WalkKit
import Derived.Test.YtgleolmhpmljhaaGreatZBoundTellsM2
open Go.IntKind renaming wrap → qFD
open List renaming getElem?_eq_getElem → qFE, getElem?_eq_some_iff → qFF, get?Internal → qFG, length → qFI, mem_of_getElem? → qFK, take → qFN, take_of_length_le → qFP, drop_eq_getElem_cons → qFS, length_append → qFU, drop_eq_nil_of_le → qFV, getElem?_append_left → qFX, eq_nil_of_length_eq_zero → qFZ, getElem?_append_right → qF0, getElem?_set → qF1, append → qF2, mem_cons → qF6, mem_append → qF8, length_take → qF9, drop → qGb, replicate → qGd, length_cons → qGf, append_nil → qGh, take_add_one → qGk, append_assoc → qGl, range → qGn
open Nat renaming le_refl → qFH, eq_of_beq_eq_true → qFO, ble → qFR, beq → qFY, beq_refl → qF3, mul_le_mul_right → qGe, zero_add → qGi, ble_eq → qGj
open Bool renaming and_eq_true → qFJ, not_true → qFW, not_false → qF4, false_eq_true → qF5, and_self → qF7, true_and → qGm
open Option renaming bind_eq_some_iff → qFL, map_eq_some_iff → qFM, bind_some → qGa, map_some → qGc
open Int renaming toNat → qFQ, toNat_natCast → qFT
open Array renaming toList → qGg
set_option maxRecDepth 1000000
set_option maxHeartbeats 0
noncomputable section
namespace Go.Av
variable {α : Type}
abbrev KV(α:Type):=AV->Option α
abbrev KH(α:Type):=AV->AH->Option α
abbrev KE(α:Type):=Ex->List AV->AH->Option α
abbrev KF(α:Type):=Tgt->List AV->AH->(AV×AH->Option α)->Option α
def kInt(kd:IntKind)(v:AV)(k:Int->Option α):Option α:=
 match v with
 | .int k' n=>cond (qab k' kd) (k n) none
 |_=>none
def qt(v:AV)(k:Bool->Option α):Option α:=
 match v with
 | .bool b=>k b
 |_=>none
def kStr(v:AV)(k:List UInt8->Option α):Option α:=
 match v with
 | .str s=>k s
 |_=>none
def kSl(v:AV)(k:List (List AV)->Option α):Option α:=
 match v with
 | .sl rows=>k rows
 |_=>none
def kAgg(v:AV)(k:List AV->Option α):Option α:=
 match v with
 | .agg cs=>k cs
 |_=>none
def kOpt{β:Type}(o:Option β)(k:β->Option α):Option α:=
 match o with
 |some b=>k b
 |none=>none
def ql(l:List AV)(k:AV->List AV->Option α):Option α:=
 match l with
 |c::cs=>k c cs
 |[]=>none
def kNil(l:List AV)(x:Option α):Option α:=
 match l with
 |[]=>x
 |_=>none
def qbn(s:FK)(v:AV)(k:KV α):Option α:=
 match s with
 | .int kd=>kInt kd v λn=>k (.int kd n)
 | .bool=>qt v λb=>k (.bool b)
 | .str=>kStr v λs=>k (.str s)
 | .sl=>kSl v λrows=>k (.sl rows)
 | .any=>k v
def qbo:List FK->List AV->(List AV->Option α)->Option α
 |[],l,k=>kNil l (k [])
 |s::ss,l,k=>ql l λc cs=>qbn s c λv=>qbo ss cs λvs=>k (v::vs)
def qwz(sl:Bool):TD->FK
 | .int k=>.int k
 | .bool=>.bool
 | .str=>.str
 | .slice _=>if sl then .sl else .any
 |_=>.any
def qlQ(cfg:Cfg)(p:TypeId->Bool):Nat->TypeId->Option (List FK)
 |0,_=>none
 |n+1,t=>
  match cfg.td t with
  |some (.struct fs)=>(fs.foldr (λf acc=>match qlQ cfg p n f.2,acc with|some l,some a=>some (l++a)|_,_=>none) (some []))
  |some (.array m e)=>(match qlQ cfg p n e with|some l=>some ((qGd m l).flatten)|none=>none)
  |some d=>some [qwz (p t) d]
  |none=>none
def kTy1(p:TypeId->Bool)(cfg:Cfg)(t:TypeId)(v:AV)(k:KV α):Option α:=
 match cfg.td t with
 |some d=>
  match d with
  | .struct _=>(match qlQ cfg p 6 t with|some ss=>kAgg v λcs=>qbo ss cs λvs=>k (.agg vs)|none=>k v)
  | .array _ _=>(match qlQ cfg p 6 t with|some ss=>kAgg v λcs=>qbo ss cs λvs=>k (.agg vs)|none=>k v)
  |d=>qbn (qwz (p t) d) v k
 |none=>k v
def kTup(v:AV)(k:List AV->Option α):Option α:=
 match v with
 | .tup cs=>k cs
 |_=>none
def kTys(p:TypeId->Bool)(cfg:Cfg):List TypeId->List AV->(List AV->Option α)->Option α
 |[],l,k=>kNil l (k [])
 |t::ts,l,k=>ql l λc cs=>kTy1 p cfg t c λv=>kTys p cfg ts cs λvs=>k (v::vs)
def kTy(p:TypeId->Bool)(cfg:Cfg)(t:TypeId)(v:AV)(k:KV α):Option α:=
 match cfg.tup t with
 |some ts=>kTup v λcs=>kTys p cfg ts cs λvs=>k (.tup vs)
 |none=>kTy1 p cfg t v k
def AV.regA(i:Nat):AV->AV
 | .agg cs=>.agg (cs.map (AV.regn i))
 |a=>a
def noTy:TypeId->Bool:=λ_=>false
def qd5:TypeId->Bool:=λ_=>true
def qFl(cfg:Cfg)(H:AH)(a:AV):TypeId->Bool:=
 match a with
 | .cptr _ _=>cfg.dat
 | .ptr id _ _=>if xT H id then cfg.dat else noTy
 |_=>noTy
def kNew(nid:Option Nat)(H:AH)(b:ABlk)(k:Nat->AH->Option α):Option α:=
 match nid with
 |none=>k H.length (H++[b])
 |some i=>kOpt H[i]? λx=>match x with| .res=>k i (H.set i b)|_=>none
def qvq(cfg:Cfg)(t:TypeId):Bool:=match cfg.td t with|some d=>d.agg|none=>false
def qbQ(agg:Bool)(v:AV)(k:List AV->Option α):Option α:=
 cond agg (kAgg v λcs=>cond (xZ cs) (k cs) none) (cond v.isCell (k [v]) none)
def quC(t:Bool)(a b:AV)(k:KV α):Option α:=
 match a,b with
 | .bool p,.bool q=>k (.bool (cond t p q))
 | .int k1 p,.int k2 q=>cond (qab k1 k2) (k (.int k1 (cond t p q))) (cond t (k a) (k b))
 |a,b=>cond t (k a) (k b)
def ql1(place:Nat->Option (Nat×Nat×Bool))(cells:List AV):List (Nat×AV)->(List AV->Option α)->Option α
 |[],k=>k cells
 |(i,v)::rest,k=>
  match place i with
  |some (off,size,agg)=>qbQ agg v λcs=>cond (qFY cs.length size&&qFR (off+size) cells.length) (ql1 place (cells.take off++cs++cells.drop (off+size)) rest k) none
  |none=>none
def qiR(cfg:Cfg):List (Nat×TypeId)->Option (List (Nat×Nat×Bool))
 |[]=>some []
 |(off,t)::l=>
  match cfg.sz t,qiR cfg l with
  |some n,some ps=>some ((off,n,qvq cfg t)::ps)
  |_,_=>none
def qoX(agg:Bool)(n:Nat)(rows:List (List AV)):List (Nat×AV)->(List (List AV)->Option α)->Option α
 |[],k=>k rows
 |(i,v)::rest,k=>qbQ agg v λcs=>cond (qFY cs.length n&&Nat.blt i rows.length) (qoX agg n (rows.set i cs) rest k) none
def kBlk(H:AH)(id:Nat)(k:Nat->List (List AV)->Option α):Option α:=
 kOpt H[id]? λb=>match b with| .rows _ sz rs=>k sz rs| .froz _ sz rs=>k sz rs|_=>none
def qd0(H:AH)(id:Nat)(k:Bool->Nat->List (List AV)->Option α):Option α:=
 kOpt H[id]? λb=>match b with| .rows d sz rs=>k d sz rs|_=>none
def qb1(agg:Bool)(n:Nat)(cells:List AV)(off:Nat)(k:KV α):Option α:=
 cond agg (cond (qFR (off+n) cells.length) (k (.agg ((cells.drop off).take n))) none) (kOpt cells[off]? k)
def qlX(agg:Bool)(n:Nat)(H:AH)(p:AV)(k:KV α):Option α:=
 match p with
 | .ptr id r off=>kBlk H id λ_ rs=>kOpt rs[r]? λrow=>qb1 agg n row off k
 | .cptr cs off=>qb1 agg n cs off k
 | .lpt cs off=>qb1 agg n (cs.map AV.lend) off k
 | .rpt id cs off=>kOpt H[id]? λb=>match b with
  | .reg=>qb1 agg n (cs.map (AV.regn id)) off k
  | .spl=>cond agg (cond (qFY n 4) (qbo [.int .i64,.int .i64,.str,.sl] ((cs.drop off).take 4) λvs=>k (.alt [.agg (vs.map (AV.regn id)),.agg qiQ,.agg row0])) none) (kOpt (qcW cs off) λrows=>k (.rsl id rows))
  |_=>none
 |_=>none
def qqb(agg:Bool)(n:Nat)(H:AH)(p v:AV)(k:AH->Option α):Option α:=
 match p with
 | .ptr id r off=>qbQ agg v λcs=>qd0 H id λd sz rs=>kOpt rs[r]? λrow=>cond (qFY cs.length n&&qFR (off+n) row.length) (k (H.set id (.rows (d&&qK 0 cs) sz (rs.set r (row.take off++cs++row.drop (off+n)))))) none
 | .rpt id cs off=>kOpt H[id]? λb=>match b with| .spl=>cond (qFY n 4) (cond (qam ((cs.drop off).take 4)&&is77 v) (k H) none) (cond (qFY n 7&&ql8 (cs.drop off)&&qcY v) (k H) none)|_=>none
 |_=>none
def qhL(v:AV)(k:KV α):Option α:=
 match v with
 | .ptr id r off=>k (.ptr id r off)
 | .cptr cs off=>k (.cptr cs off)
 | .fn (.func f) a b=>k (.fn (.func f) a b)
 | .mp id=>k (.mp id)
 | .yld id=>k (.yld id)
 |_=>none
def qj(a b:Int):Bool:=decide (a<=b)
def qA(a b:Int):Bool:=decide (a<b)
def qhO(lo hi:Nat)(x:Option AV)(dflt:Nat)(k:Nat->Option α):Option α:=
 match x with
 |none=>k dflt
 |some v=>match v with| .int _ i=>cond (qj lo i&&qj i hi) (k i.toNat) none|_=>none
def qbP(n:Nat)(lo hi mx:Option AV)(k:Nat->Nat->Option α):Option α:=
 cond (hi.isNone&&mx.isSome) none (qhO 0 n hi n λh=>qhO h n mx h λ_=>qhO 0 h lo 0 λl=>k l h)
def qqc(cfg:Cfg)(t:TypeId)(H:AH)(x:AV)(lo hi mx:Option AV)(k:KV α):Option α:=
 match cfg.td t with
 |some .str=>(match mx with|none=>(match x with| .str s=>qbP s.length lo hi none λl h=>k (.str ((s.drop l).take (h - l)))|_=>none)|_=>none)
 |some (.slice e)=>
  match cfg.sz e with
  |some n=>
   match x with
   | .nilS=>qbP 0 lo hi mx λ_ _=>k .nilS
   | .sl rows=>qbP rows.length lo hi mx λl h=>cond (vP n rows) (match cfg.ems t with|false=>k (.sl ((rows.drop l).take (h - l)))|true=>k (slE true rows l h)) none
   | .ms id off len=>qbP len lo hi mx λl h=>kBlk H id λsz _=>cond (qFY sz n) (k (.ms id (off+l) (h - l))) none
   | .wr _ v=>(match lo,hi,mx with
    |none,some hv,none=>(match hv with
     | .int _ h=>(match v with
      | .sl rows=>cond (qj 0 h&&qj h rows.length) (k (.wr h.toNat (.sl rows))) none
      | .ms id off len=>cond (qj 0 h&&qj h len) (k (.wr h.toNat (.ms id off len))) none
      |_=>none)
     |_=>none)
    |_,_,_=>none)
   |_=>none
  |none=>none
 |_=>none
def qfG(cfg:Cfg)(t:TypeId)(H:AH)(x i:AV)(k:KV α):Option α:=
 match i with
 | .int _ i=>
  match cfg.td t with
  |some (.slice e)=>
   match cfg.sz e with
   |some n=>
    match x with
    | .ms id off len=>kBlk H id λsz _=>cond (qFY sz n&&qj 0 i&&qA i len) (k (.ptr id (off+i.toNat) 0)) none
    | .sl rows=>cond (qj 0 i&&qA i rows.length) (kOpt rows[i.toNat]? λrow=>cond (qFY row.length n) (k (.cptr row 0)) none) none
    | .lsl rows=>cond (qj 0 i&&qA i rows.length) (kOpt rows[i.toNat]? λrow=>cond (qFY row.length n) (k (.lpt row 0)) none) none
    | .rsl id rows=>cond (qj 0 i&&qA i rows.length) (kOpt rows[i.toNat]? λrow=>cond (qFY row.length n) (k (.rpt id row 0)) none) none
    |_=>none
   |none=>none
  |some (.array n e)=>
   match cfg.sz e with
   |some sz=>
    match x with
    | .ptr id r off=>cond (qj 0 i&&qA i n) (k (.ptr id r (off+i.toNat*sz))) none
    | .cptr cs off=>cond (qj 0 i&&qA i n) (k (.cptr cs (off+i.toNat*sz))) none
    |_=>none
   |none=>none
  |_=>none
 |_=>none
def qqm(cfg:Cfg)(t:TypeId)(x i:AV)(k:KV α):Option α:=
 match i with
 | .int _ i=>
  match cfg.td t with
  |some (.array n e)=>
   match cfg.ty e with
   |some ti=>kAgg x λcs=>cond (qj 0 i&&qA i n) (qb1 ti.d.agg ti.sz cs (i.toNat*ti.sz) k) none
   |none=>none
  |some .str=>kStr x λs=>cond (qj 0 i) (kOpt s[i.toNat]? λb=>k (.int .u8 b.toNat)) none
  |_=>none
 |_=>none
def qqn(cfg:Cfg)(t:TypeId)(x:AV)(f:Nat)(k:KV α):Option α:=
 match cfg.td t with
 |some (.struct fs)=>
  match fs[f]? with
  |some (off,ft)=>(match cfg.ty ft with|some ti=>kAgg x λcs=>qb1 ti.d.agg ti.sz cs off k|none=>none)
  |none=>none
 |_=>none
def qfJ(cfg:Cfg)(t:TypeId)(x:AV)(f:Nat)(k:KV α):Option α:=
 match cfg.td t with
 |some (.struct fs)=>
  match fs[f]? with
  |some (o,ft)=>
   match cfg.sz ft with
   |some (_+1)=>(match x with| .ptr id r off=>k (.ptr id r (off+o))| .cptr cs off=>k (.cptr cs (off+o))| .rpt id cs off=>k (.rpt id cs (off+o))|_=>none)
   |_=>none
  |none=>none
 |_=>none
def qkF(cfg:Cfg)(nid:Option Nat)(src dst:TypeId)(x:AV)(H:AH)(k:KH α):Option α:=
 match cfg.td src,cfg.td dst with
 |some (.int _),some (.int kd)=>(match x with| .int _ n=>k (.int kd (kd.wrap n)) H|_=>none)
 |some .str,some .str=>kStr x λs=>k (.str s) H
 |some .str,some (.slice e)=>
  match cfg.td e with
  |some (.int .u8)=>kStr x λs=>kNew nid H (.rows true 1 (zI s)) λi H'=>k (.ms i 0 s.length) H'
  |_=>none
 |some (.slice e),some .str=>
  match cfg.td e with
  |some (.int .u8)=>kOpt (yH H 1 x) λrows=>kOpt (xV rows) λbs=>k (.str bs) H
  |_=>none
 |_,_=>none
def qnk(H:AH)(n:Nat)(x:AV)(k:List (List AV)->Option α):Option α:=
 match x with
 | .nilS=>k []
 | .em=>k []
 | .sl rows=>cond (vP n rows) (k rows) none
 | .ms id off len=>kBlk H id λsz rs=>cond (qFY sz n&&qFR (off+len) rs.length) (k ((rs.drop off).take len)) none
 |_=>none
def kSrc(isStr:Bool)(H:AH)(n:Nat)(x:AV)(k:List (List AV)->Option α):Option α:=
 cond isStr (kStr x λb=>cond (qFY n 1) (k (zI b)) none) (qnk H n x k)
def qsZ(cfg:Cfg)(t:TypeId):Bool:=match cfg.td t with|some .str=>true|_=>false
def qno(cfg:Cfg)(nid:Option Nat)(t xt:TypeId)(s x:AV)(H:AH)(k:KH α):Option α:=
 match cfg.td t,cfg.td xt with
 |some (.slice e),some xd=>
  match cfg.ty e with
  |some ei=>
   cond (xd.notInt&&Nat.blt 0 ei.sz&&qFY ei.zero.length ei.sz)
    (kSrc (qsZ cfg xt) H ei.sz x λnews=>
     match s with
     | .nilS=>cond news.isEmpty (k .nilS H) (cond (qI news.length ei.bytes) (kNew nid H (.rows (x7 H x) ei.sz news) λi H'=>k (.ms i 0 news.length) H') none)
     | .ms id off len=>qd0 H id λd sz rs=>cond (qFY sz ei.sz&&qFR (off+len) rs.length&&qI (len+news.length) ei.bytes)
       (kNew nid (H.set id .dead) (.rows (d&&x7 H x) sz ((rs.drop off).take len++news)) λi H'=>k (.ms i 0 (len+news.length)) H') none
     |_=>none) none
  |none=>none
 |_,_=>none
def kLen(cfg:Cfg)(t:TypeId)(x:AV)(H:AH)(k:KV α):Option α:=
 match cfg.td t with
 |some .str=>kStr x λs=>k (.int .i64 s.length)
 |some (.slice _)=>(match x with| .nilS=>k (.int .i64 0)| .em=>k (.int .i64 0)| .sl rows=>k (.int .i64 rows.length)| .ms _ _ len=>k (.int .i64 len)| .lsl rows=>k (.int .i64 rows.length)| .rsl _ rows=>k (.int .i64 rows.length)|_=>none)
 |some (.array n _)=>k (.int .i64 n)
 |some (.map _ _)=>(match x with| .nilM=>k (.int .i64 0)| .mp id=>(kOpt H[id]? λb=>match b with| .mp _ es=>k (.int .i64 es.length)|_=>none)|_=>none)
 |_=>none
def qoY(cfg:Cfg)(nid:Option Nat)(t:TypeId)(len cap:AV)(H:AH)(k:KH α):Option α:=
 match cfg.td t with
 |some (.slice e)=>
  match cfg.ty e with
  |some ei=>
   cond (zU ei) (kInt .i64 len λn=>kInt .i64 cap λc=>
    cond (qj 0 n&&qj n c&&qj (c*ei.bytes) 140737488355328&&qj c 9223372036854775807) (kNew nid H (.rows true ei.sz (qGd n.toNat ei.zero)) λi H'=>k (.ms i 0 n.toNat) H') none) none
  |none=>none
 |_=>none
def qqi(cfg:Cfg)(nid:Option Nat)(t:TypeId)(len cap:AV)(H:AH)(k:KH α):Option α:=
 match cfg.wrt t with
 |false=>qoY cfg nid t len cap H k
 |true=>
  match len,cap with
  | .int _ n,.int _ c=>cond (decide (n=c)) (qoY cfg nid t len cap H λv H'=>match v with| .ms id off l=>k (.wr l (.ms id off l)) H'|_=>none) none
  |_,_=>none
def kCap(cfg:Cfg)(t:TypeId)(x:AV)(k:KV α):Option α:=
 match cfg.td t with
 |some (.slice _)=>(match x with| .wr _ v=>(match v with| .sl rows=>k (.int .i64 rows.length)| .ms _ _ len=>k (.int .i64 len)|_=>none)|_=>none)
 |_=>none
def qqo(cfg:Cfg)(t:TypeId)(x:AV)(H:AH)(k:AH->Option α):Option α:=
 match cfg.td t with
 |some (.slice e)=>
  match x with
  | .nilS=>k H
  | .ms id off len=>
   match cfg.ty e with
   |some ei=>qd0 H id λd sz rs=>cond (zU ei&&qFY sz ei.sz&&qFR (off+len) rs.length) (k (H.set id (.rows d sz (rs.take off++qGd len ei.zero++rs.drop (off+len))))) none
   |none=>none
  |_=>none
 |_=>none
def quH(cfg:Cfg)(t xt:TypeId)(d s:AV)(H:AH)(k:KH α):Option α:=
 match cfg.td t with
 |some (.slice e)=>
  match d with
  | .ms id off len=>
   match cfg.sz e with
   |some n=>qd0 H id λd sz rs=>kSrc (qsZ cfg xt) H n s λnews=>cond (qFY sz n&&qFR (off+len) rs.length&&Nat.blt 0 sz)
     (k (.int .i64 (Nat.min news.length len)) (H.set id (.rows (d&&x7 H s) sz (rs.take off++news.take len++rs.drop (off+(news.take len).length))))) none
   |none=>none
  |_=>none
 |_=>none
def kMpB(b:ABlk)(k:Bool->List (AV×AV)->Option α):Option α:=
 match b with
 | .mp d es=>k d es
 |_=>none
def qqh(H:AH)(x:AV)(k:Bool->List (AV×AV)->Option α):Option α:=
 match x with
 | .nilM=>k true []
 | .mp id=>kOpt H[id]? λb=>kMpB b k
 |_=>none
def qeY(r:Option (Nat×AV))(x:Option α)(y:Nat->AV->Option α):Option α:=
 match r with
 |none=>x
 |some p=>y p.1 p.2
def qDB(cfg:Cfg):Bool->TypeId->Bool
 |true=>cfg.dat
 |false=>noTy
def qnn(cfg:Cfg)(t:TypeId)(x key:AV)(ok:Bool)(H:AH)(k:KV α):Option α:=
 match cfg.td t with
 |some (.map kt et)=>
  match cfg.td kt with
  |some d=>qqh H x λdf es=>cond d.keyed (kOpt (qbM d key es 0) λr=>qeY r
    (kOpt (cfg.zeroV et) λz=>k (cond ok (.tup [z,.bool false]) z))
    λ_ v=>kTy1 (qDB cfg df) cfg et v λv=>k (cond ok (.tup [v,.bool true]) v)) none
  |none=>none
 |_=>none
def qnm(cfg:Cfg)(t:TypeId)(m key v:AV)(H:AH)(k:AH->Option α):Option α:=
 match cfg.td t with
 |some (.map kt _)=>
  match m with
  | .mp id=>
   match cfg.td kt with
   |some d=>kOpt H[id]? λb=>kMpB b λd0 es=>cond d.keyed (kOpt (qbM d key es 0) λr=>qeY r
     (k (H.set id (.mp (d0&&(key.refsLt 0&&v.refsLt 0)) (es++[(key,v)]))))
     λi _=>k (H.set id (.mp (d0&&(key.refsLt 0&&v.refsLt 0)) (es.set i (key,v))))) none
   |none=>none
  |_=>none
 |_=>none
def qqj(cfg:Cfg)(nid:Option Nat)(t:TypeId)(r:Option AV)(H:AH)(k:KH α):Option α:=
 match cfg.td t with
 |some (.map _ _)=>
  match r with
  |none=>kNew nid H (.mp true []) λi H'=>k (.mp i) H'
  |some h=>(match h with| .int _ _=>kNew nid H (.mp true []) λi H'=>k (.mp i) H'|_=>none)
 |_=>none
def kOp(cfg:Cfg)(nid:Option Nat)(o:Op)(ty:TypeId)(x:Operand->AV)(H:AH)(k:KH α):Option α:=
 match o with
 | .move a| .assign a=>k (x a) H
 | .pick c a b=>qt (x c) λt=>quC t (x a) (x b) λv=>k v H
 | .alloc t=>
  match cfg.ty t with
  |some ti=>cond (xZ ti.zero) (kNew nid H (qfW cfg t ti.zero) λi H'=>k (.ptr i 0 0) H') none
  |none=>none
 | .box t a=>qbQ (qvq cfg t) (x a) λcs=>kNew nid H (qmD cfg t cs) λi H'=>k (.ptr i 0 0) H'
 | .build t parts=>
  match cfg.ty t with
  |some ti=>
   cond (xZ ti.zero)
    (match ti.d with
    | .struct fs=>
     match qiR cfg fs with
     |some ps=>ql1 (λi=>ps[i]?) ti.zero (parts.toList.map λp=>(p.1,x p.2)) λcs=>k (.agg (cfg.fga t cs)) H
     |none=>none
    | .array _ e=>
     match cfg.sz e with
     |some n=>ql1 (λi=>some (i*n,n,qvq cfg e)) ti.zero (parts.toList.map λp=>(p.1,x p.2)) λcs=>k (.agg cs) H
     |none=>none
    |_=>none) none
  |none=>none
 | .buildSlice t len parts=>
  match cfg.td t with
  |some (.slice e)=>
   match cfg.ty e with
   |some ei=>
    cond (zU ei&&qFR (len*ei.sz) 16777216)
     (qoX ei.d.agg ei.sz (qGd len ei.zero) (parts.toList.map λp=>(p.1,x p.2)) λrows=>kNew nid H (.rows (qQ 0 rows) ei.sz rows) λi H'=>k (.ms i 0 len) H') none
   |none=>none
  |_=>none
 | .load t a=>
  match cfg.ty t with
  |some ti=>match x a with
   | .lpt cs off=>qb1 ti.d.agg ti.sz cs off λv=>kTy cfg.dat cfg t v λv=>cond ti.d.agg (k v.lendA H) (k v.lend H)
   | .rpt id cs off=>kOpt H[id]? λb=>match b with
    | .reg=>qb1 ti.d.agg ti.sz cs off λv=>kTy cfg.dat cfg t v λv=>cond ti.d.agg (k (v.regA id) H) (k (v.regn id) H)
    |_=>qlX ti.d.agg ti.sz H (.rpt id cs off) λv=>k v H
   |p=>qlX ti.d.agg ti.sz H p λv=>kTy (qFl cfg H p) cfg t v λv=>k v H
  |none=>none
 | .store t a v=>
  match cfg.ty t with
  |some ti=>qqb ti.d.agg ti.sz H (x a) (x v) λH'=>k .junk H'
  |none=>none
 | .nilCheck a=>qhL (x a) λv=>k v H
 | .binOp op t a b _=>kOpt (aBin cfg (litN a b) op t (x a) (x b)) λv=>kTy noTy cfg ty v λv=>k v H
 | .unOp op _ a=>kOpt (aUn op (x a)) λv=>kTy noTy cfg ty v λv=>k v H
 | .convert s d a=>qkF cfg nid s d (x a) H k
 | .makeFunc f first caps=>k (.fn f (first.toList.map x) (caps.toList.map x)) H
 | .makeSlice t l c=>qqi cfg nid t (x l) (x c) H k
 | .makeMap t r=>qqj cfg nid t (r.map x) H k
 | .lookup t a key ok=>qnn cfg t (x a) (x key) ok H λv=>k v H
 | .mapUpdate t m key v| .insert t m key v=>qnm cfg t (x m) (x key) (x v) H λH'=>k .junk H'
 | .slice t a lo hi mx=>qqc cfg t H (x a) (lo.map x) (hi.map x) (mx.map x) λv=>k v H
 | .fieldAddr t a f=>qfJ cfg t (x a) f λv=>k v H
 | .field t a f=>qqn cfg t (x a) f λv=>kTy noTy cfg ty v λv=>k v H
 | .indexAddr t a i=>qfG cfg t H (x a).unwr (x i) λv=>k v H
 | .index t a i=>qqm cfg t (x a) (x i) λv=>kTy noTy cfg ty v λv=>k v H
 | .extract t i=>(match x t with| .tup vs=>kOpt vs[i]? λv=>kTy noTy cfg ty v λv=>k v H|_=>none)
 | .call c=>
  match c.callee with
  | .builtin b=>
   match b,c.args.toList,c.argTypes.toList with
   | .len,[a],[t]=>kLen cfg t (x a).unwr H λv=>k v H
   | .cap,[a],[t]=>kCap cfg t (x a) λv=>k v H
   | .append,[s,a],[t,xt]=>qno cfg nid t xt (x s) (x a) H k
   | .copy,[d,s],[t,xt]=>quH cfg t xt (x d).unwr (x s) H k
   | .clear,[a],[t]=>qqo cfg t (x a) H λH'=>k (.tup []) H'
   | .min,[a,b],_=>kOpt (aMin (λb a=>decide (b<a)) [x a,x b]) λv=>kTy noTy cfg ty v λv=>k v H
   | .max,[a,b],_=>kOpt (aMin (λb a=>decide (a<b)) [x a,x b]) λv=>kTy noTy cfg ty v λv=>k v H
   |_,_,_=>none
  |_=>none
 |_=>none
def ql0(g s:Bool)(H:AH)(v:AV)(k:KV α):Option α:=
 match v with
 | .ms id off len=>kBlk H id λ_ rs=>cond (qFR (off+len) rs.length&&(xT H id||qQ 0 ((rs.drop off).take len))) (k (.sl ((rs.drop off).take len))) none
 | .nilS=>k (cond g (.sl []) .nilS)
 | .em=>k (cond g (.sl []) .em)
 | .wr n v=>(match v with| .sl rows=>k (cond g (.sl (rows.take n)) (.wr n (.sl rows)))|_=>none)
 | .ptr id r off=>cond s (kBlk H id λ_ rs=>kOpt rs[r]? λrow=>cond (qK 0 row) (k (.cptr row off)) none) (k (.ptr id r off))
 | .rsl id rows=>cond s (kOpt H[id]? λb=>match b with| .reg=>k (.sl rows)|_=>none) (k (.rsl id rows))
 |a=>k a
def qaN(g s:Bool)(H:AH):List AV->(List AV->Option α)->Option α
 |[],k=>k []
 |a::l,k=>ql0 g s H a λa=>qaN g s H l λl=>k (a::l)
def qb2(s:Bool)(H:AH)(v:AV)(k:KV α):Option α:=
 match v with
 | .agg cs=>qaN true s H cs λcs=>k (.agg cs)
 | .tup cs=>cond s (k ((AV.tup cs).fg)) (qaN true s H cs λcs=>k (.tup cs))
 | .fn f a b=>cond s (qaN false s H a λa=>qaN false s H b λb=>k (.fn f a b)) (k (.fn f a b))
 |a=>ql0 true s H a k
def qiZ(H:AH)(v:AV)(k:KV α):Option α:=
 match v with
 | .agg cs=>qaN false false H cs λcs=>k (.agg cs)
 | .tup cs=>qaN false false H cs λcs=>k (.tup cs)
 |a=>ql0 false false H a k
def qhN(H:AH):List AV->(List AV->Option α)->Option α
 |[],k=>k []
 |a::l,k=>qiZ H a λa=>qhN H l λl=>k (a::l)
def qo2(H:AH):List AV->(List AV->Option α)->Option α
 |[],k=>k []
 |a::l,k=>qb2 true H a λa=>qo2 H l λl=>k (a::l)
inductive OV where
 |nil
 |own (sz:Nat) (rs:List (List AV)) (off len:Nat)
def ovOf(r:AV×AH):Option OV:=
 match r.1 with
 | .nilS=>some .nil
 | .ms id off len=>
  match r.2[id]? with
  |some (.rows d sz rs)=>if d||qQ 0 rs then some (.own sz rs off len)else none
  |_=>none
 |_=>none
def qoU(r:AV×AH):Option (OV×AV):=
 match r.1 with
 | .tup [a,s]=>cond ((s.frz s.msIds r.2).fg.refsLt 0) (match ovOf (a,qV s.msIds r.2)with|some o=>some (o,(s.frz s.msIds r.2).fg)|none=>none) none
 |_=>none
def EVd(cf:Orac)(f:Nat)(args:List AV)(sz:Nat)(rs:List (List AV)):Option (AV×List (List AV)):=(cf (.f f) args [.rows true sz rs]).bind (qmd sz)
def EVx(cf:Orac)(f:Nat)(args:List AV)(sz:Nat)(rs:List (List AV)):Option (AV×List (List AV)):=(cf (.f f) args [.rows false sz rs]).bind (qli sz)
open Classical in
def EVk (cf:Orac) (f:Nat) (args:List AV) (sz:Nat) (rs:List (List AV)):Option AV:=(EVx cf f args sz rs).bind λq=>if q.2=rs then some q.1 else none
theorem qmR{cf:Orac}{f:Nat}{args:List AV}{sz:Nat}{rs:List (List AV)}{v:AV}(h:EVx cf f args sz rs=some (v,rs)):EVk cf f args sz rs=some v:=by
 unfold EVk;rw[h];exact qGq rfl
theorem qzP{cf:Orac}{f:Nat}{args:List AV}{sz:Nat}{rs:List (List AV)}{v:AV}(h:EVk cf f args sz rs=some v):EVx cf f args sz rs=some (v,rs):=by
 unfold EVk at h;obtain⟨q,h1,h2⟩:=qFL.1 h;split at h2
 ·rename_i e;rw[h1,←Option.some.inj h2,←e]
 ·cases h2
def EVs(cf:Orac)(f:Nat)(args:List AV):Option AV:=(cf (.f f) args []).map λr=>r.1
def EVf(cf:Orac)(f:Nat)(args:List AV):Option AV:=(cf (.f f) args []).map λr=>(r.1.frz r.1.msIds r.2).fg
def EVo(cf:Orac)(f:Nat)(args:List AV):Option OV:=(cf (.f f) args []).bind ovOf
def EVn(cf:Orac)(f:Nat)(args:List AV):Option AV:=(cf (.f f) args []).bind λr=>qfw r.2 r.1
def EVg(cf:Orac)(f:Nat)(args:List AV):Option AV:=(cf (.f f) args []).bind λr=>qhm r.2 r.1
def EVz(cf:Orac)(f:Nat)(a:AV):Option Unit:=(cf (.f f) [a] [.spl]).bind qiT
def ql6(cf:Orac)(f:Nat):List AV->Option α->Option α
 |[],k=>k
 |a::l,k=>kOpt (EVz cf f a) λ_=>ql6 cf f l k
def qDF(l:AH)(k:ABlk->AH->Option α):Option α:=
 match l with
 |b::bs=>k b bs
 |[]=>none
def qFt(l:AH)(x:Option α):Option α:=
 match l with
 |[]=>x
 |_=>none
def qDE(l:List (List AV))(k:List AV->List (List AV)->Option α):Option α:=
 match l with
 |b::bs=>k b bs
 |[]=>none
def qFs(l:List (List AV))(x:Option α):Option α:=
 match l with
 |[]=>x
 |_=>none
def qDD(b:ABlk)(k:Bool->Nat->List (List AV)->Option α):Option α:=
 match b with
 | .rows d n rs=>k d n rs
 |_=>none
def kMsE(v:AV)(k:Nat->Nat->Nat->Option α):Option α:=
 match v with
 | .ms a b c=>k a b c
 |_=>none
def kMpE(v:AV)(k:Nat->Option α):Option α:=
 match v with
 | .mp a=>k a
 |_=>none
def qFr(v:AV)(k:Nat->Nat->Nat->Option α):Option α:=
 match v with
 | .ptr a b c=>k a b c
 |_=>none
def beqB(a b:Bool):Bool:=cond a b (!b)
def EVq(cf:Orac)(f:Nat)(args:List AV):Option (OV×AV):=(cf (.f f) args []).bind qoU
def kOwn(o:OV)(x:Option α)(k:Nat->List (List AV)->Nat->Nat->Option α):Option α:=
 match o with
 | .nil=>x
 | .own sz rs off len=>k sz rs off len
inductive MV where
 |unit
 |nil
 |sl (off len:Nat)
 |int (k:IntKind) (n:Int)
 |bool (b:Bool)
def mvOf:AV->Option MV
 | .tup []=>some .unit
 | .nilS=>some .nil
 | .ms id off len=>if qFY id 0 then some (.sl off len)else none
 | .int k n=>some (.int k n)
 | .bool b=>some (.bool b)
 |_=>none
def MV.av(id:Nat):MV->AV
 | .unit=>.tup []
 | .nil=>.nilS
 | .sl off len=>.ms id off len
 | .int k n=>.int k n
 | .bool b=>.bool b
def EVm(cf:Orac)(f:Nat)(args:List AV)(sz:Nat)(rs:List (List AV)):Option (MV×List (List AV)):=
 (cf (.f f) args [.rows true sz rs]).bind λr=>(qlJ sz r).bind λq=>(mvOf q.1).map λv=>(v,q.2)
def EVu(cf:Orac)(f:Nat)(args:List AV):Option MV:=(cf (.f f) args []).bind λr=>if r.1.refsLt 0 then mvOf r.1 else none
def kMSl(v:MV)(x:Option α)(k:Nat->Nat->Option α):Option α:=
 match v with
 | .nil=>x
 | .sl off len=>k off len
 |_=>none
def q6(v:MV)(x:Option α):Option α:=
 match v with
 | .unit=>x
 |_=>none
def qo0(kd:IntKind)(v:MV)(k:Int->Option α):Option α:=
 match v with
 | .int q n=>cond (qab q kd) (k n) none
 |_=>none
def qqk(v:MV)(k:Bool->Option α):Option α:=
 match v with
 | .bool b=>k b
 |_=>none
def qwv(cfg:Cfg)(ty:TypeId):Nat:=
 match cfg.td ty with
 |some (.slice _)=>1
 |some (.int _)=>2
 |some .bool=>3
 |_=>0
def qAg(cfg:Cfg)(ty:TypeId):IntKind:=
 match cfg.td ty with
 |some (.int k)=>k
 |_=>.i64
def qoZ(kd:Nat)(ik:IntKind)(id:Nat)(v:MV)(k:KV α):Option α:=
 match kd with
 |0=>q6 v (k (.tup []))
 |1=>kMSl v (k .nilS) λoff len=>k (.ms id off len)
 |2=>qo0 ik v λn=>k (.int ik n)
 |_=>qqk v λb=>k (.bool b)
def qbp(cfg:Cfg)(cf:Orac)(kf:KF α)(nid:Option Nat)(ty:TypeId)(t:Tgt)(args:List AV)(H:AH)(k:KH α):Option α:=
 match t with
 | .y id=>kf (.y id) args H λr=>kOpt (yY nid H.length r.1 r.2) λr=>kTy noTy cfg ty r.1 λv=>k v r.2
 | .f f=>
  match cfg.mode f with
  | .scal=>qo2 H args λal=>cond (qK 0 al) (match cfg.inl f with
   |some _=>kf (.f f) al [] λr=>kTy noTy cfg ty r.1 λv=>cond v.scalar (k v H) none
   |none=>kOpt (EVs cf f al) λv=>kTy noTy cfg ty v λv=>cond v.scalar (k v H) none) none
  | .pfrz=>cond (qK 0 (args.map AV.fg)) (match cfg.inl f with
   |some _=>kf (.f f) (args.map AV.fg) [] λr=>qb2 false r.2 r.1 λv=>kTy qd5 cfg ty v λv=>cond (v.refsLt 0) (k v H) none
   |none=>kOpt (EVf cf f (args.map AV.fg)) λv=>kTy qd5 cfg ty v λv=>cond (v.refsLt 0) (k v H) none) none
  | .nfrz=>cond (qK 0 (args.map AV.fg)) (kOpt (EVn cf f (args.map AV.fg)) λV=>kTy qd5 cfg ty V λV=>k V.lendT H) none
  | .pown=>match cfg.tup ty with
   |some [_,t2]=>cond (qK 0 args) (kOpt (EVq cf f args) λq=>kTy1 qd5 cfg t2 q.2 λs=>kOwn q.1 (k (.tup [.nilS,s]) H) λsz rs off len=>kNew nid H (.rows true sz rs) λi H'=>k (.tup [.ms i off len,s]) H') none
   |_=>cond (qK 0 args) (match cfg.inl f with
   |some _=>kf (.f f) args [] λr=>kOpt (ovOf r) λo=>kOwn o (k .nilS H) λsz rs off len=>kNew nid H (.rows true sz rs) λi H'=>k (.ms i off len) H'
   |none=>kOpt (EVo cf f args) λo=>kOwn o (k .nilS H) λsz rs off len=>kNew nid H (.rows true sz rs) λi H'=>k (.ms i off len) H') none
  | .inpl=>
   match vo 0 args with
   |id::l=>cond (ye [id] l) (kOpt H[id]? λb=>match b with
     | .rows d sz rs=>cond (d||qQ 0 rs) (kOpt (EVm cf f (renL (λ_=>0) args) sz rs) λq=>qoZ (qwv cfg ty) (qAg cfg ty) id q.1 λv=>k v (H.set id (.rows true sz q.2))) none
     |_=>none) none
   |[]=>cond (qK 0 args) (kOpt (EVu cf f args) λv=>qoZ (qwv cfg ty) (qAg cfg ty) 0 v λv=>k v H) none
  | .imp=>kf (.f f) args H λr=>kOpt (yY nid H.length r.1 r.2) λr=>kTy noTy cfg ty r.1 λv=>k v r.2
  | .ifrz=>kf (.f f) args H λr=>qiZ r.2 r.1 λx=>kOpt (yY nid H.length x (qV r.1.msIds r.2)) λr=>kTy noTy cfg ty r.1 λv=>k v r.2
  | .inpf=>
   match vo 0 args with
   |id::l=>cond (ye [id] l) (kOpt H[id]? λb=>match b with
     | .rows d sz rs=>cond (d||qQ 0 rs) (kOpt (EVd cf f (renL (λ_=>0) args) sz rs) λq=>kTy qd5 cfg ty q.1 λv=>k v (H.set id (.rows true sz q.2))) none
     |_=>none) none
   |[]=>none
  | .slf=>
   match vo 0 args with
   |id::l=>cond (ye [id] l) (kOpt H[id]? λb=>match b with
     | .rows _ sz rs=>cond (ye [id] (yZ 0 rs)) (kOpt (EVk cf f (renL (λ_=>0) args) sz (renR (λ_=>0) rs)) λq=>kTy qd5 cfg ty q λv=>k v (H.set id (.rows false sz (renR (λ_=>id) (renR (λ_=>0) rs))))) none
     |_=>none) none
   |[]=>none
  | .rgn=>cond (qK 0 (args.map AV.fg)) (kOpt (EVg cf f (args.map AV.fg)) λV=>kTy qd5 cfg ty V λV=>kNew nid H .reg λi H'=>k (rgIn i V) H') none
  | .over=>
   match args with
   |[a]=>
    (match vo 0 a.alts with
    |id::l=>cond (ye [id] l) (kOpt H[id]? λb=>match b with
      | .reg=>ql6 cf f (renL (λ_=>0) a.alts) (k (.tup []) (H.set id .spl))
      | .spl=>ql6 cf f (renL (λ_=>0) a.alts) (k (.tup []) H)
      |_=>none) none
    |[]=>none)
   |_=>none
open Classical in
def kEqR {β:Type} (a b:β) (x:Option α):Option α:=if a=b then x else none
def qFu(n:Nat)(x y:Option α):Option α:=match n with|0=>x|_+1=>y
def ql4(cfg:Cfg)(cf:Orac)(kf:KF α)(nid:Option Nat)(ty:TypeId)(t:Tgt)(args:List AV)(H:AH)(k:KH α):Option α:=
 match qaE cfg t args with
 |some n=>qFu n (qbp cfg cf kf nid ty t [.nilS] H λv H1=>qbp cfg cf kf nid ty t [.em] H λv2 H2=>kEqR (v,H1) (v2,H2) (k v H1)) (qbp cfg cf kf nid ty t args H k)
 |none=>qbp cfg cf kf nid ty t args H k
def kTgt(f:AV)(args:List AV)(k:Tgt->List AV->Option α):Option α:=
 match f with
 | .fn (.func g) first caps=>k (.f g) (first++args++caps)
 | .yld id=>k (.y id) args
 |_=>none
def opEq:Operand->Operand->Bool
 | .tmp a,.tmp b=>qFY a b
 |_,_=>false
def frzX:List Operand->List AV->(Operand->AV)->Operand->AV
 |b::l,v::al,x,a=>cond (opEq b a) v (frzX l al x a)
 |_,_,x,a=>x a
def qo1(cfg:Cfg)(nid:Option Nat)(o:Oper)(x:Operand->AV)(H:AH)(k:KH α):Option α:=
 qhN H (o.op.operands.toList.map x) λal=>
  kOp cfg nid o.op o.type (frzX o.op.operands.toList al λa=>(x a).frz (o.op.operands.toList.flatMap λa=>(x a).msIds) H) (qV (o.op.operands.toList.flatMap λa=>(x a).msIds) H) k
def qlV(cfg:Cfg)(cf:Orac)(kf:KF α)(frz:Bool)(nid:Option Nat)(o:Oper)(x:Operand->AV)(H:AH)(k:KH α):Option α:=
 cond frz
  (match o.op with
   | .call c=>
    match c.callee with
    | .value f=>qhN H (c.args.toList.map x) λal=>kTgt ((x f).frz (o.op.operands.toList.flatMap λa=>(x a).msIds) H) al λt al=>
      ql4 cfg cf kf nid o.type t al (qV (o.op.operands.toList.flatMap λa=>(x a).msIds) H) k
    |_=>qo1 cfg nid o x H k
   |_=>qo1 cfg nid o x H k)
  (match o.op with
   | .call c=>
    match c.callee with
    | .value f=>kTgt (x f) (c.args.toList.map x) λt al=>ql4 cfg cf kf nid o.type t al H k
    |_=>kOp cfg nid o.op o.type x H k
   |_=>kOp cfg nid o.op o.type x H k)
def qeX(ops:Array Oper)(fr:List AV)(o:Oper)(k:Bool->List AV->Option α):Option α:=
 match o.guard with
 |none=>k true fr
 |some (j,want)=>
  match(ops[j]?).bind (·.dst)with
  |some d=>kOpt fr[d]? λv=>match v with
   | .tup l=>(match l with|[]=>k false fr|_=>none)
   |v=>qt v λb=>cond b (k want (fr.set d (.bool true))) (k (!want) (fr.set d (.bool false)))
  |none=>none
def kOps(cfg:Cfg)(cf:Orac)(kf:KF α)(f rid:Nat)(ops:Array Oper):Nat->List Oper->List AV->AH->(List AV->AH->Option α)->Option α
 |_,[],fr,H,k=>k fr H
 |n,o::rest,fr,H,k=>qeX ops fr o λb fr=>
   cond b (qlV cfg cf kf (cfg.frz f rid n) none o (opd fr) H λv H'=>kOps cfg cf kf f rid ops (n+1) rest (put fr o.dst v) H' k) (kOps cfg cf kf f rid ops (n+1) rest (put fr o.dst (.tup [])) H k)
def ql3(cfg:Cfg)(cf:Orac)(kf:KF α)(f rid:Nat)(ops:Array Oper):Nat->Nat->List Oper->List AV->AH->(List DR->List AV->AH->Option α)->Option α
 |_,_,[],fr,H,k=>k [] fr H
 |n,at_,o::rest,fr,H,k=>qeX ops fr o λb fr=>
   cond b
    (qlV cfg cf kf (cfg.frz f rid n) (some at_) o (opd fr) H λv H'=>
     ql3 cfg cf kf f rid ops (n+1) (at_+qeW cfg o) rest (put fr o.dst v) H' λfps fr' H''=>k (drOf cfg (cfg.frz f rid n) at_ o (opd fr) H v H'::fps) fr' H'')
    (ql3 cfg cf kf f rid ops (n+1) (at_+qeW cfg o) rest (put fr o.dst (.tup [])) H λfps fr' H''=>k (drNo H::fps) fr' H'')
open Classical in
def CUT {β:Type} (p:β):Option β:=if ∃q:β,some q=some p then some p else none
theorem qxJ{β:Type}(p:β):CUT p=some p:=qGq ⟨p,rfl⟩
def ve(ts:Option (List Tmp))(fr:List AV)(H:AH)(g:List AV->AH->Option α):Option α:=
 match ts with
 |none=>g fr H
 |some ks=>kOpt (CUT (xk (some ks) fr,H)) λp=>g p.1 p.2
theorem qqO{β:Type}{p:β}{K:β->Option α}{r:α}(h:K p=some r):kOpt (CUT p) K=some r:=by rw[qxJ];exact h
theorem qsj{ts:Option (List Tmp)}{fr:List AV}{H:AH}{g:List AV->AH->Option α}{r:α}(h:ve ts fr H g=some r):g (xk ts fr) H=some r:=by
 cases ts with
 |none=>exact h
 |some ks=>
  have h:kOpt (CUT (xk (some ks) fr,H)) (λp=>g p.1 p.2)=some r:=h;rw[qxJ]at h;exact h
def kSeq(nx:List AV->AH->Option α)(k:KE α):KE α:=λe fr H=>
 match e with
 | .normal=>nx fr H
 |e=>k e fr H
def vm(id:Nat)(k:KE α):KE α:=λe fr H=>
 match e with
 | .exit id'=>cond (qFY id' id) (k .normal fr H) (k (.exit id') fr H)
 |e=>k e fr H
def qdq(k:KE α):KE α:=λe fr H=>
 match e with
 | .goto _=>none
 |e=>k e fr H
def kAft(ts:Option (List Tmp))(k:KE α)(r:Ex×List AV×AH):Option α:=k r.1 (xk ts r.2.1) r.2.2
def known(fr:List AV)(c:Operand)(b:Bool):List AV:=
 match c with
 | .tmp d=>fr.set d (.bool b)
 |_=>fr
def qAi(b:ABlk)(k:Option Code->Option α):Option α:=
 match b with
 | .loop _ _ _ _ _ pend st=>(match st with| .busy=>none|_=>k pend)
 |_=>none
def qqe(pend:Option Code)(k:KE α)(fr:List AV)(H:AH):Option α:=
 match pend with
 |none=>k .normal fr H
 |some c=>(match c with| .ret=>k .ret fr H| .exit id=>k (.exit id) fr H|_=>none)
def yN(bs n:Nat)(fr:List AV)(k:KE α)(H:AH):Option α:=
 kOpt H[n]? λb=>qAi b λpend=>qqe pend k (gc bs fr (H.set n .dead)).1 (gc bs fr (H.set n .dead)).2
def qwJ(cfg:Cfg)(_cf:Orac)(kf:KF α)(f:Nat)(rd:Option Nat)(bs:Nat)(g:AV)(ps:List Tmp)(assign body:Code)(fr:List AV)(H:AH)(k:KE α):Option α:=
 cond (qpQ rd H)
  (match g with
   | .fn (.func h) first caps=>cond (cfg.ext h).isNone
     (kf (.f h) (first++[.yld H.length]++caps) (H++[.loop f (xk (cfg.keepIn f (qm body)) fr) ps assign body none .ready]) λr=>
      yN bs H.length (xk (cfg.keepOut f (qm body)) fr) k r.2) none
   |_=>none) none
def kOrd(cfg:Cfg)(cf:Orac)(kf:KF α)(f rid:Nat)(ops:Array Oper):List (Nat×Oper)->List AV->AH->(List AV->AH->Option α)->Option α
 |[],fr,H,k=>k fr H
 |p::rest,fr,H,k=>qeX ops fr p.2 λb fr=>
   cond b (qlV cfg cf kf (cfg.frz f rid p.1) none p.2 (opd fr) H λv H'=>kOrd cfg cf kf f rid ops rest (put fr p.2.dst v) H' k) (kOrd cfg cf kf f rid ops rest (put fr p.2.dst (.tup [])) H k)
def quA{β:Type}(F:β->KE α->Option α)(g:Ex->List AV->AH->Ex×List AV×AH)(r:Ex×List AV×AH):List β->Option α->Option α
 |[],x=>x
 |q::l,x=>F q λe fr H=>kEqR r (g e fr H) (quA F g r l x)
def qAl{β:Type}(F:β->KE α->Option α)(g:Ex->List AV->AH->Ex×List AV×AH)(k:KE α):List β->Option α
 |[]=>none
 |q::l=>F q λe fr H=>quA F g (g e fr H) l (k (g e fr H).1 (g e fr H).2.1 (g e fr H).2.2)
def qR(cfg:Cfg)(cf:Orac)(kf:KF α)(f:Nat)(rd:Option Nat)(bs:Nat):Code->List AV->AH->KE α->Option α
 | .skip,fr,H,k=>k .normal fr H
 | .label _,fr,H,k=>k .normal fr H
 | .region id ops draw,fr,H,k=>
  cond draw
   (cond (qfS ops)
    (ql3 cfg cf kf f id ops 0 H.length ops.toList fr (H++qGd (places cfg ops.toList) .res) λfps fr' H'=>cond (qi4 (ancs [] ops.toList) (H++qGd (places cfg ops.toList) .res) fps) (k .normal fr' H') none) none)
   (kOps cfg cf kf f id ops 0 ops.toList fr H λfr' H'=>k .normal fr' H')
 | .seq a b,fr,H,k=>
  match qhZ a with
  |some p=>
   match qiU p.2 p.2.size []with
   |some O=>qAl (λo k=>kOrd cfg cf kf f p.1 p.2 o fr H λfr H=>qR cfg cf kf f rd bs b (xk (cfg.cut f (qm b)) fr) H k) (λe fr H=>qs9 bs (dsts a++dsts b) (e,fr,H)) k O
   |none=>none
  |none=>qR cfg cf kf f rd bs a fr H (kSeq (λfr H=>ve (cfg.cut f (qm b)) fr H λfr H=>qR cfg cf kf f rd bs b fr H k) k)
 | .cond c a b,fr,H,k=>qt (opd fr c) λt=>cond t (qR cfg cf kf f rd bs a (known fr c true) H k) (qR cfg cf kf f rd bs b (known fr c false) H k)
 | .block id a,fr,H,k=>qR cfg cf kf f rd bs a fr H (vm id k)
 | .loop a,fr,H,k=>kOpt (LOOP bs (cfg.keepIn f (qm a)) (cfg.lift f (qm a)) (evC cfg cf f rd bs a) (qbr bs (cfg.keepIn f (qm a)) (cfg.lift f (qm a)) fr H)) (kAft (cfg.keepOut f (qm a)) k)
 | .scope a,fr,H,k=>qR cfg cf kf f rd bs a fr H (qdq k)
 | .exit id,fr,H,k=>k (.exit id) fr H
 | .goto _,_,_,_=>none
 | .ret,fr,H,k=>k .ret fr H
 | .rangeFunc g ps assign body,fr,H,k=>qwJ cfg cf kf f rd bs (opd (xf (cfg.lift f (qm body)) fr H).1 g) ps.toList assign body (xf (cfg.lift f (qm body)) fr H).1 (xf (cfg.lift f (qm body)) fr H).2 k
 | .refuse _,_,_,_=>none
inductive Ko where
 |seq (c:Code)
 |block (id:Nat)
 |scope
def kRun(cfg:Cfg)(cf:Orac)(kf:KF α)(f:Nat)(rd:Option Nat)(bs:Nat)(k:KE α):List Ko->KE α
 |[]=>k
 | .seq c::s=>kSeq (λfr H=>ve (cfg.cut f (qm c)) fr H λfr H=>qR cfg cf kf f rd bs c fr H (kRun cfg cf kf f rd bs k s)) (kRun cfg cf kf f rd bs k s)
 | .block id::s=>vm id (kRun cfg cf kf f rd bs k s)
 | .scope::s=>qdq (kRun cfg cf kf f rd bs k s)
def kRes(cfg:Cfg)(fr:List AV)(H:AH):List ResultVar->(List AV->Option α)->Option α
 |[],k=>k []
 | .tmp t::l,k=>kRes cfg fr H l λvs=>k (fr.getD t .junk::vs)
 | .cell a t::l,k=>
  match cfg.ty t with
  |some ti=>qlX ti.d.agg ti.sz H (fr.getD a .junk) λv=>kTy noTy cfg t v λv=>kRes cfg fr H l λvs=>k (v::vs)
  |none=>none
variable {α : Type} {r : α} {H : AH}
theorem qq{b:Bool}{x:Option α}(h:cond b x none=some r):b=true∧x=some r:=by cases b<;>simp_all
theorem qva{b:Bool}{x:Option α}(h:cond b none x=some r):b=false∧x=some r:=by cases b<;>simp_all
theorem yk{b:Bool}{x y:Option α}(h:cond b x y=some r):(b=true∧x=some r)∨(b=false∧y=some r):=by cases b<;>simp_all
theorem qhD{a b:IntKind}(h:qab a b=true):a=b:=by simpa [qab]using h
theorem xa{a b:Int}:qj a b=true↔a<=b:=by simp[qj]
theorem qaa{a b:Int}:qA a b=true↔a<b:=by simp[qA]
theorem qcj{kd:IntKind}{v:AV}{k:Int->Option α}(h:kInt kd v k=some r):∃n,v= .int kd n∧k n=some r:=by
 unfold kInt at h;split at h
 ·obtain⟨h1,h2⟩:=qq h;rw[qhD h1];exact⟨_,rfl,h2⟩
 ·cases h
theorem qcN{v:AV}{k:Bool->Option α}(h:qt v k=some r):∃b,v= .bool b∧k b=some r:=by
 unfold qt at h;split at h
 ·exact⟨_,rfl,h⟩
 ·cases h
theorem qac{v:AV}{k:List UInt8->Option α}(h:kStr v k=some r):∃b,v= .str b∧k b=some r:=by
 unfold kStr at h;split at h
 ·exact⟨_,rfl,h⟩
 ·cases h
theorem qd1{v:AV}{k:List AV->Option α}(h:kAgg v k=some r):∃b,v= .agg b∧k b=some r:=by
 unfold kAgg at h;split at h
 ·exact⟨_,rfl,h⟩
 ·cases h
theorem qz{β:Type}{o:Option β}{k:β->Option α}(h:kOpt o k=some r):∃b,o=some b∧k b=some r:=by
 unfold kOpt at h;split at h
 ·exact⟨_,rfl,h⟩
 ·cases h
theorem qav{l:List AV}{k:AV->List AV->Option α}(h:ql l k=some r):∃a b,l=a::b∧k a b=some r:=by
 unfold ql at h;split at h
 ·exact⟨_,_,rfl,h⟩
 ·cases h
theorem qhK{l:List AV}{x:Option α}(h:kNil l x=some r):l=[]∧x=some r:=by
 unfold kNil at h;split at h
 ·exact⟨rfl,h⟩
 ·cases h
theorem qka{s:FK}{v:AV}{k:KV α}(h:qbn s v k=some r):k v=some r:=by
 cases s with
 |int kd=>obtain⟨n,rfl,h1⟩:=qcj h;exact h1
 |bool=>obtain⟨n,rfl,h1⟩:=qcN h;exact h1
 |str=>obtain⟨n,rfl,h1⟩:=qac h;exact h1
 |sl=>
  have h:kSl v (λrows=>k (.sl rows))=some r:=h;unfold kSl at h;split at h
  ·exact h
  ·cases h
 |any=>exact h
theorem qen:∀{ss:List FK} {l:List AV} {k:List AV->Option α},qbo ss l k=some r->k l=some r
 |[],l,k,h=>by
  obtain⟨rfl,h1⟩:=qhK h;exact h1
 |s::ss,l,k,h=>by
  obtain⟨a,b,rfl,h1⟩:=qav h;exact qen (k:=λvs=>k (a::vs)) (qka (k:=λv=>qbo ss b λvs=>k (v::vs)) h1)
theorem quJ{l0:List AV}{k:List AV->Option α}(h0:qbo [.int .i64,.int .i64,.str,.sl] l0 k=some r):qam l0=true∧k l0=some r:=by
 refine⟨?_,qen h0⟩;simp only[qbo]at h0;obtain⟨a,l1,rfl,h1⟩:=qav h0;obtain⟨n,rfl,h2⟩:=qcj (k:=λn=>ql l1 λc cs=>qbn (.int .i64) c λv=>ql cs λc cs=>qbn .str c λv1=>ql cs λc cs=>qbn .sl c λv2=>kNil cs (k [.int .i64 n,v,v1,v2])) h1;obtain⟨a,l2,rfl,h3⟩:=qav h2;obtain⟨m,rfl,h4⟩:=qcj (k:=λm=>ql l2 λc cs=>qbn .str c λv1=>ql cs λc cs=>qbn .sl c λv2=>kNil cs (k [.int .i64 n,.int .i64 m,v1,v2])) h3
 obtain⟨a,l3,rfl,h5⟩:=qav h4;obtain⟨s,rfl,h6⟩:=qac (k:=λs=>ql l3 λc cs=>qbn .sl c λv2=>kNil cs (k [.int .i64 n,.int .i64 m,.str s,v2])) h5;obtain⟨a,l4,rfl,h7⟩:=qav h6;have h8:kSl a (λrows=>kNil l4 (k [.int .i64 n,.int .i64 m,.str s,.sl rows]))=some r:=h7;unfold kSl at h8;split at h8
 ·obtain⟨rfl,_⟩:=qhK h8;rfl
 ·cases h8
theorem qdY{p:TypeId->Bool}{cfg:Cfg}{t:TypeId}{v:AV}{k:KV α}(h:kTy1 p cfg t v k=some r):k v=some r:=by
 unfold kTy1 at h;have agg:∀{ss:List FK},(kAgg v λcs=>qbo ss cs λvs=>k (.agg vs))=some r->k v=some r:=by
  intro ss h;obtain⟨cs,rfl,h⟩:=qd1 h;exact qen (k:=λvs=>k (.agg vs)) h
 split at h
 ·split at h
  ·split at h
   ·exact agg h
   ·exact h
  ·split at h
   ·exact agg h
   ·exact h
  ·exact qka h
 ·exact h
theorem qn7{p:TypeId->Bool}{cfg:Cfg}:∀{ts:List TypeId} {l:List AV} {k:List AV->Option α},kTys p cfg ts l k=some r->k l=some r
 |[],l,k,h=>by
  rw[kTys]at h;obtain⟨h1,h2⟩:=qhK h;rw[h1];exact h2
 |t::ts,l,k,h=>by
  rw[kTys]at h;obtain⟨a,b,rfl,h⟩:=qav h;have h1:=qdY (k:=λv=>kTys p cfg ts b λvs=>k (v::vs)) h;exact qn7 (k:=λvs=>k (a::vs)) h1
theorem vN{p:TypeId->Bool}{cfg:Cfg}{t:TypeId}{v:AV}{k:KV α}(h:kTy p cfg t v k=some r):k v=some r:=by
 unfold kTy at h;split at h
 ·unfold kTup at h;split at h
  ·exact qn7 (k:=λvs=>k (.tup vs)) h
  ·cases h
 ·exact qdY h
theorem yc{nid:Option Nat}{b:ABlk}{k:Nat->AH->Option α}(h:kNew nid H b k=some r):∃i H',aNew nid H b=some (i,H')∧k i H'=some r:=by
 unfold kNew at h;unfold aNew;cases nid with
 |none=>exact⟨_,_,rfl,h⟩
 |some i=>
  simp only at h⊢;obtain⟨x,hx,h⟩:=qz h;rw[hx];split at h
  ·exact⟨_,_,rfl,h⟩
  ·cases h
theorem qqt{v:AV}(h:v.isCell=true):v.cells=some [v]:=by cases v<;>simp_all [AV.isCell,AV.cells]
theorem qaO{agg:Bool}{v:AV}{k:List AV->Option α}(h:qbQ agg v k=some r):∃cs,v.cells=some cs∧k cs=some r:=by
 unfold qbQ at h;rcases yk h with⟨_,h⟩|⟨_,h⟩
 ·obtain⟨cs,rfl,h⟩:=qd1 h;obtain⟨h1,h2⟩:=qq h;exact⟨cs,by simp[AV.cells,h1],h2⟩
 ·obtain⟨h1,h2⟩:=qq h;exact⟨_,qqt h1,h2⟩
theorem quB{t:Bool}{a b:AV}{k:KV α}(h:quC t a b k=some r):k (if t then a else b)=some r:=by
 have sp:∀{a b:AV},cond t (k a) (k b)=some r->k (if t then a else b)=some r:=by
  intro a b h;cases t<;>simpa using h
 unfold quC at h;split at h
 ·cases t<;>simpa using h
 ·rcases yk h with⟨h1,h⟩|⟨_,h⟩
  ·have:=qhD h1;subst this;cases t<;>simpa using h
  ·exact sp h
 ·exact sp h
theorem qfI{place:Nat->Option (Nat×Nat×Bool)}{place':Nat->Option (Nat×Nat)}(hp:∀i off n g,place i=some (off,n,g)->place' i=some (off,n)):∀{parts:List (Nat×AV)} {cells:List AV} {k:List AV->Option α},
  ql1 place cells parts k=some r->∃cs,qd7 place' cells parts=some cs∧k cs=some r
 |[],cells,k,h=>⟨cells,rfl,h⟩
 |(i,v)::rest,cells,k,h=>by
  rw[ql1]at h;split at h
  ·rename_i off n g hi;obtain⟨cs,h1,h⟩:=qaO h;obtain⟨h2,h⟩:=qq h;obtain⟨cs',h3,h4⟩:=qfI hp h;refine⟨cs',?_,h4⟩;rw[qFJ]at h2;rw[qd7,hp _ _ _ _ hi,h1];simp only;rw[qGq]
   ·exact h3
   ·rw[qFJ,beq_iff_eq];exact⟨qFO h2.1,h2.2⟩
  ·cases h
theorem qlD{cfg:Cfg}:∀{fs:List (Nat×TypeId)} {ps:List (Nat×Nat×Bool)},qiR cfg fs=some ps->∃qs,qaX cfg fs=some qs∧∀(i off n:Nat) (g:Bool),ps[i]? =some (off,n,g)->qs[i]? =some (off,n)
 |[],ps,h=>by cases h;exact⟨[],rfl,λi off n g h=>by simp at h⟩
 |(off,t)::l,ps,h=>by
  rw[qiR]at h;split at h
  ·rename_i n ps' h1 h2;cases h;obtain⟨qs,h3,h4⟩:=qlD h2;refine⟨(off,n)::qs,by rw[qaX,h1,h3],λi o m g hi=>?_⟩;cases i with
   |zero=>simp at hi⊢;exact⟨hi.1,hi.2.1⟩
   |succ i=>simpa using h4 i o m g (by simpa using hi)
  ·cases h
theorem qlU{agg:Bool}{n:Nat}:∀{parts:List (Nat×AV)} {rows:List (List AV)} {k:List (List AV)->Option α},qoX agg n rows parts k=some r->∃rs,qca n rows parts=some rs∧k rs=some r
 |[],rows,k,h=>⟨rows,rfl,h⟩
 |(i,v)::rest,rows,k,h=>by
  rw[qoX]at h;obtain⟨cs,h1,h⟩:=qaO h;obtain⟨h2,h⟩:=qq h;obtain⟨rs,h3,h4⟩:=qlU h;refine⟨rs,?_,h4⟩;rw[qFJ]at h2;rw[qca,h1];simp only;rw[qGq]
  ·exact h3
  ·rw[qFJ,beq_iff_eq];exact⟨qFO h2.1,h2.2⟩
theorem qa8{id:Nat}{k:Nat->List (List AV)->Option α}(h:kBlk H id k=some r):∃sz rs,vg H id=some (sz,rs)∧k sz rs=some r:=by
 unfold kBlk at h;obtain⟨b,hb,h⟩:=qz h;unfold vg;rw[hb];split at h
 ·exact⟨_,_,rfl,h⟩
 ·exact⟨_,_,rfl,h⟩
 ·cases h
theorem qbm{g s:Bool}{v:AV}{k:KV α}(h:ql0 g s H v k=some r):(∀ids,(∀id off len,v= .ms id off len->id∈ids)->s=false->k (cond g (v.frz1 ids H).fg1 (v.frz1 ids H))=some r)∧(s=true->k (cond g (v.snap1 H).fg1 (v.snap1 H))=some r):=by
 unfold ql0 at h;split at h
 ·rename_i id off len;obtain⟨sz,rs,h1,h⟩:=qa8 h;rcases hc:(qFR (off+len) rs.length&&(xT H id||qQ 0 ((rs.drop off).take len)))with _|_
  ·rw[hc]at h;cases h
  ·rw[hc]at h;have h:k (.sl ((rs.drop off).take len))=some r:=h;have aux:∀ids:List Nat,id∈ids->(AV.ms id off len).frz1 ids H= .sl ((rs.drop off).take len):=by
    intro ids hi;simp only[AV.frz1,h1];rw[qGq];rw[Bool.and_assoc,hc,Bool.and_true];exact vL.2 hi
   refine⟨λids hi _=>?_,λ_=>?_⟩
   ·rw[aux ids (hi _ _ _ rfl)];cases g<;>exact h
   ·simp only[AV.snap1];rw[aux [id] (by simp)];cases g<;>exact h
 ·refine⟨λids _ _=>?_,λ_=>?_⟩<;>(cases g<;>exact h)
 ·refine⟨λids _ _=>?_,λ_=>?_⟩<;>(cases g<;>exact h)
 ·split at h
  ·refine⟨λids _ _=>?_,λ_=>?_⟩<;>(cases g<;>exact h)
  ·cases h
 ·rename_i id r' off;cases s with
  |false=>exact⟨λids _ _=>by cases g<;>exact h,λh=>by cases h⟩
  |true=>
   refine⟨λ_ _ h=>by(cases h),λ_=>?_⟩;obtain⟨sz,rs,h1,h⟩:=qa8 h;obtain⟨row,h2,h⟩:=qz h;obtain⟨h3,h⟩:=qq h;simp only[AV.snap1,h1,h2,qmu,h3,if_true];cases g<;>exact h
 ·rename_i id rows;cases s with
  |false=>exact⟨λids _ _=>by cases g<;>exact h,λh=>by cases h⟩
  |true=>
   refine⟨λ_ _ h=>by(cases h),λ_=>?_⟩;obtain⟨b,h1,h⟩:=qz h;split at h
   ·simp only[AV.snap1,h1];cases rows<;>cases g<;>exact h
   ·cases h
 ·rename_i hn1 hn2 hn4 hn6 hn3 hn5;refine⟨λids _ _=>?_,λ_=>?_⟩
  ·have:v.frz1 ids H=v:=by
    cases v<;>first|rfl|exact absurd rfl (hn1 _ _ _)
   rw[this];have:v.fg1=v:=by
    cases v<;>first|rfl|exact absurd rfl hn2|exact absurd rfl hn4|exact absurd rfl (hn6 _ _)
   rw[this];cases g<;>exact h
  ·have:v.snap1 H=v:=by
    cases v<;>first|rfl|exact absurd rfl (hn1 _ _ _)|exact absurd rfl (hn3 _ _ _)|exact absurd rfl (hn5 _ _)
   rw[this];have:v.fg1=v:=by
    cases v<;>first|rfl|exact absurd rfl hn2|exact absurd rfl hn4|exact absurd rfl (hn6 _ _)
   rw[this];cases g<;>exact h
theorem qck{g:Bool}{ids:List Nat}:∀{l:List AV} {k:List AV->Option α},(∀v∈l,∀id off len,v= .ms id off len->id∈ids)->qaN g false H l k=some r->k (l.map λv=>cond g (v.frz1 ids H).fg1 (v.frz1 ids H))=some r
 |[],k,_,h=>h
 |a::l,k,hi,h=>by
  rw[qaN]at h;have h1:=(qbm h).1 ids (hi a (by simp)) rfl;exact qck (k:=λl=>k (cond g (a.frz1 ids H).fg1 (a.frz1 ids H)::l)) (λv hv=>hi v (by simp[hv])) h1
theorem qcK{g:Bool}:∀{l:List AV} {k:List AV->Option α},qaN g true H l k=some r->k (l.map λv=>cond g (v.snap1 H).fg1 (v.snap1 H))=some r
 |[],k,h=>h
 |a::l,k,h=>by
  rw[qaN]at h;have h1:=(qbm h).2 rfl;exact qcK (k:=λl=>k (cond g (a.snap1 H).fg1 (a.snap1 H)::l)) h1
theorem qdT{l:List AV}{v:AV}(hv:v∈l){id off len:Nat}(h:v= .ms id off len):id∈l.flatMap AV.msId:=by
 subst h;exact List.mem_flatMap.2 ⟨_,hv,by simp[AV.msId]⟩
theorem qcl{v:AV}{k:KV α}(h:qb2 false H v k=some r):k (v.frz v.msIds H).fg=some r:=by
 unfold qb2 at h;split at h
 ·rename_i cs;have:=qck (ids:=cs.flatMap AV.msId) (λv hv id off len e=>qdT hv e) h
  simpa [AV.frz,AV.fg,AV.msIds,Function.comp_def]using this
 ·rename_i cs;have:=qck (k:=λcs=>k (.tup cs)) (ids:=cs.flatMap AV.msId) (λv hv id off len e=>qdT hv e) h
  simpa [AV.frz,AV.fg,AV.msIds,Function.comp_def]using this
 ·exact h
 ·rename_i h1 h2 h3;have h4:=(qbm h).1 v.msIds (λid off len e=>by subst e;simp[AV.msIds,AV.msId]) rfl;have e1:v.frz v.msIds H=v.frz1 v.msIds H:=by
   cases v<;>first|rfl|exact absurd rfl (h1 _)|exact absurd rfl (h2 _)
  have e2:(v.frz1 v.msIds H).fg=(v.frz1 v.msIds H).fg1:=by
   cases v<;>first|rfl|exact absurd rfl (h1 _)|exact absurd rfl (h2 _)|skip
   simp only[AV.frz1];split
   ·split<;>rfl
   ·rfl
  rw[e1,e2];exact h4
theorem quD{v:AV}{k:KV α}(h:qb2 true H v k=some r):k (v.snap H).fg=some r:=by
 unfold qb2 at h;split at h
 ·rename_i cs;have:=qcK h
  simpa [AV.snap,AV.fg,Function.comp_def]using this
 ·exact h
 ·rename_i f a b;have h2:=qcK (k:=λa=>qaN false true H b λb=>k (.fn f a b)) h;have h3:=qcK (k:=λb=>k (.fn f (a.map (AV.snap1 H)) b)) h2;exact h3
 ·rename_i h1 h2 h3;have h4:=(qbm h).2 rfl;have e1:v.snap H=v.snap1 H:=by
   cases v<;>first|rfl|exact absurd rfl (h1 _)|exact absurd rfl (h3 _ _ _)
  have e2:(v.snap1 H).fg=(v.snap1 H).fg1:=by
   cases v<;>first|rfl|exact absurd rfl (h1 _)|exact absurd rfl (h2 _)|skip
   ·simp only[AV.snap1,AV.frz1];split
    ·split<;>rfl
    ·rfl
   ·simp only[AV.snap1];split
    ·split<;>rfl
    ·rfl
   ·simp only[AV.snap1];split<;>rfl
  rw[e1,e2];exact h4
theorem ql5:∀{l:List AV} {k:List AV->Option α},qo2 H l k=some r->k (l.map λa=>(a.snap H).fg)=some r
 |[],k,h=>h
 |a::l,k,h=>by
  rw[qo2]at h;have h1:=quD h;exact ql5 (k:=λl=>k ((a.snap H).fg::l)) h1
theorem qaw{id:Nat}{k:Bool->Nat->List (List AV)->Option α}(h:qd0 H id k=some r):∃d sz rs,H[id]? =some (.rows d sz rs)∧k d sz rs=some r:=by
 unfold qd0 at h;obtain⟨b,hb,h⟩:=qz h;split at h
 ·exact⟨_,_,_,hb,h⟩
 ·cases h
theorem zc{agg:Bool}{n off:Nat}{cells:List AV}{k:KV α}(h:qb1 agg n cells off k=some r):
  ∃v,(if agg then(if qFR (off+n) cells.length then some (AV.agg ((cells.drop off).take n))else none)else cells[off]?)=some v∧k v=some r:=by
 unfold qb1 at h;rcases yk h with⟨rfl,h⟩|⟨rfl,h⟩
 ·obtain⟨h1,h2⟩:=qq h;exact⟨_,by simp[h1],h2⟩
 ·obtain⟨v,h1,h2⟩:=qz h;exact⟨v,by simp[h1],h2⟩
theorem qfF{agg:Bool}{n:Nat}{p:AV}{k:KV α}(h:qlX agg n H p k=some r):∃v,qaC agg n H p=some v∧k v=some r:=by
 unfold qlX at h;unfold qaC;split at h
 ·obtain⟨sz,rs,h1,h⟩:=qa8 h;obtain⟨row,h2,h⟩:=qz h;obtain⟨v,h3,h4⟩:=zc h;exact⟨v,by simp only[h1,h2];exact h3,h4⟩
 ·obtain⟨v,h3,h4⟩:=zc h;exact⟨v,h3,h4⟩
 ·obtain⟨v,h3,h4⟩:=zc h;refine⟨v,?_,h4⟩;rw[←h3];simp only[List.length_map,List.map_take,List.map_drop,List.getElem?_map]
 ·obtain⟨b,h1,h⟩:=qz h;split at h
  ·obtain⟨v,h3,h4⟩:=zc h;refine⟨v,?_,h4⟩;simp only[h1];rw[←h3];simp only[List.length_map,List.map_take,List.map_drop,List.getElem?_map]
  ·simp only[h1];rcases yk h with⟨ha,h⟩|⟨ha,h⟩
   ·obtain⟨h2,h⟩:=qq h;obtain⟨h3,h⟩:=quJ h;exact⟨_,by rw[qGq ha,qGq (by rw[h2,h3];rfl)],h⟩
   ·obtain⟨rows,h2,h⟩:=qz h;exact⟨_,by rw[qGr (by rw[ha];simp)];unfold qm5;rw[h2];rfl,h⟩
  ·cases h
 ·cases h
theorem qsc{agg:Bool}{n:Nat}{p v:AV}{k:AH->Option α}(h:qqb agg n H p v k=some r):∃H',qcq n H p v=some H'∧k H'=some r:=by
 unfold qqb at h;unfold qcq;split at h
 ·obtain⟨cs,h1,h⟩:=qaO h;obtain⟨d,sz,rs,h2,h⟩:=qaw h;obtain⟨row,h3,h⟩:=qz h;obtain⟨h4,h⟩:=qq h;rw[qFJ]at h4;refine⟨_,?_,h⟩;simp only[h1,h2,h3];rw[qGq];rw[qFJ,beq_iff_eq];exact⟨qFO h4.1,h4.2⟩
 ·obtain⟨b,h1,h⟩:=qz h;split at h
  ·rcases yk h with⟨h4,h⟩|⟨h4,h⟩
   ·obtain⟨h2,h⟩:=qq h;refine⟨H,?_,h⟩;have h77:is77 v=true:=by rw[qFJ]at h2;exact h2.2
    have hv:∃cs,v.cells=some cs:=by
     rcases qs2 h77 with rfl|rfl
     ·exact⟨_,rfl⟩
     ·exact⟨_,rfl⟩
    obtain⟨cs,hv⟩:=hv;simp only[hv,h1];rw[qGq (by rw[h4,qGm];exact h2)]
   ·obtain⟨h2,h⟩:=qq h;refine⟨H,?_,h⟩;have h99:qcY v=true:=by rw[qFJ]at h2;exact h2.2
    have hv:∃cs,v.cells=some cs:=by
     unfold qcY at h99;split at h99
     ·exact⟨_,rfl⟩
     ·exact⟨_,rfl⟩
     ·cases h99
    obtain⟨cs,hv⟩:=hv;simp only[hv,h1];rw[qGr (by rw[h4];simp),qGq h2]
  ·cases h
 ·cases h
theorem qeo{lo hi d:Nat}{x:Option AV}{k:Nat->Option α}(h:qhO lo hi x d k=some r):∃n,qbu lo hi x d=some n∧k n=some r:=by
 unfold qhO at h;unfold qbu;split at h
 ·exact⟨_,rfl,h⟩
 ·split at h
  ·obtain⟨h1,h⟩:=qq h;rw[qFJ,xa,xa]at h1;exact⟨_,by simp only;rw[qGq h1],h⟩
  ·cases h
theorem qaM{n:Nat}{lo hi mx:Option AV}{k:Nat->Nat->Option α}(h:qbP n lo hi mx k=some r):∃l h',qa5 n lo hi mx=some (l,h')∧k l h'=some r:=by
 unfold qbP at h;obtain⟨h0,h⟩:=qva h;obtain⟨a,h1,h⟩:=qeo h;obtain⟨b,h2,h⟩:=qeo h;obtain⟨c,h3,h⟩:=qeo h;refine⟨c,a,?_,h⟩;unfold qa5;rw[qGr (by rw[h0];simp),h1];simp only[h2,h3]
theorem qsd{cfg:Cfg}{t:TypeId}{x:AV}{lo hi mx:Option AV}{k:KV α}(h:qqc cfg t H x lo hi mx k=some r):∃v,qcr cfg t H x lo hi mx=some v∧k v=some r:=by
 unfold qqc at h;unfold qcr;split at h
 ·rename_i ht;rw[ht];split at h
  ·split at h
   ·obtain⟨l,h',h1,h⟩:=qaM h;exact⟨_,by simp only[h1],h⟩
   ·cases h
  ·cases h
 ·rename_i e ht;rw[ht];split at h
  ·rename_i n hn;split at h
   ·obtain⟨l,h',h1,h⟩:=qaM h;exact⟨_,by simp only[hn,h1],h⟩
   ·rename_i rows;obtain⟨l,h',h1,h⟩:=qaM h;obtain⟨h2,h⟩:=qq h;refine⟨slE (cfg.ems t) rows l h',by simp only[hn,h1,h2,if_true],?_⟩;split at h
    ·rename_i he;rw[he];exact h
    ·rename_i he;rw[he];exact h
   ·obtain⟨l,h',h1,h⟩:=qaM h;obtain⟨sz,rs,h2,h⟩:=qa8 h;obtain⟨h3,hz⟩:=qq h;have:=qFO h3;subst this;exact⟨_,by simp[hn,h1,h2],hz⟩
   ·split at h
    ·split at h
     ·rename_i kd hh _;split at h
      ·obtain⟨h2,hz⟩:=qq h;rw[qFJ,xa,xa]at h2;exact⟨_,by simp only[hn,AV.lenW];rw[qGq h2],hz⟩
      ·obtain⟨h2,hz⟩:=qq h;rw[qFJ,xa,xa]at h2;exact⟨_,by simp only[hn,AV.lenW];rw[qGq h2],hz⟩
      ·cases h
     ·cases h
    ·cases h
   ·cases h
  ·cases h
 ·cases h
theorem qlY{cfg:Cfg}{t:TypeId}{x i:AV}{k:KV α}(h:qfG cfg t H x i k=some r):∃v,zg cfg t H x i=some v∧k v=some r:=by
 unfold qfG at h;unfold zg;split at h
 case h_2=>cases h
 rename_i kk i;split at h
 ·rename_i e ht;rw[ht];split at h
  case h_2=>cases h
  rename_i n hn;split at h
  ·obtain⟨sz,rs,h1,h⟩:=qa8 h;obtain⟨h2,hz⟩:=qq h;rw[qFJ,qFJ,xa,qaa]at h2;have:=qFO h2.1.1;subst this;exact⟨_,by simp[hn,h1,h2.1.2,h2.2],hz⟩
  ·obtain⟨h2,h⟩:=qq h;rw[qFJ,xa,qaa]at h2;obtain⟨row,h3,h⟩:=qz h;obtain⟨h4,hz⟩:=qq h;refine⟨.cptr row 0,?_,hz⟩;have h5:=qFO h4;simp only[hn,qGq h2,h3];rw[qGq (by rw[h5];exact beq_self_eq_true n)]
  ·obtain⟨h2,h⟩:=qq h;rw[qFJ,xa,qaa]at h2;obtain⟨row,h3,h⟩:=qz h;obtain⟨h4,hz⟩:=qq h;refine⟨.lpt row 0,?_,hz⟩;have h5:=qFO h4;simp only[hn,qGq h2,h3];rw[qGq (by rw[h5];exact beq_self_eq_true n)]
  ·rename_i id rows;obtain⟨h2,h⟩:=qq h;rw[qFJ,xa,qaa]at h2;obtain⟨row,h3,h⟩:=qz h;obtain⟨h4,hz⟩:=qq h;refine⟨.rpt id row 0,?_,hz⟩;have h5:=qFO h4;simp only[hn,qGq h2,h3];rw[qGq (by rw[h5];exact beq_self_eq_true n)]
  ·cases h
 ·rename_i m e ht;rw[ht];split at h
  case h_2=>cases h
  rename_i n hn;split at h
  ·obtain⟨h2,h⟩:=qq h;rw[qFJ,xa,qaa]at h2;exact⟨_,by simp[hn,h2.1,h2.2],h⟩
  ·obtain⟨h2,h⟩:=qq h;rw[qFJ,xa,qaa]at h2;exact⟨_,by simp[hn,h2.1,h2.2],h⟩
  ·cases h
 ·cases h
theorem qz6{cfg:Cfg}{t:TypeId}{ti:TI}(h:cfg.ty t=some ti):cfg.sz t=some ti.sz∧cfg.td t=some ti.d:=by
 unfold Cfg.sz Cfg.td;rw[h];exact⟨rfl,rfl⟩
theorem qsh{cfg:Cfg}{t:TypeId}{x i:AV}{k:KV α}(h:qqm cfg t x i k=some r):∃v,qh7 cfg t x i=some v∧k v=some r:=by
 unfold qqm at h;unfold qh7;split at h
 case h_2=>cases h
 rename_i kk i;split at h
 ·rename_i n e ht;rw[ht];split at h
  case h_2=>cases h
  rename_i ti hti;obtain⟨cs,rfl,h⟩:=qd1 h;obtain⟨h2,h⟩:=qq h;rw[qFJ,xa,qaa]at h2;obtain⟨v,h3,h⟩:=zc h;refine⟨v,?_,h⟩;simp only[(qz6 hti).1];rw[qGq h2];unfold qi7;rw[hti];exact h3
 ·rename_i ht;rw[ht];obtain⟨s,rfl,h⟩:=qac h;obtain⟨h2,h⟩:=qq h;rw[xa]at h2;obtain⟨b,h3,h⟩:=qz h;exact⟨_,by simp[h2,h3],h⟩
 ·cases h
theorem qsi{cfg:Cfg}{t:TypeId}{x:AV}{f:Nat}{k:KV α}(h:qqn cfg t x f k=some r):∃v,qh8 cfg t x f=some v∧k v=some r:=by
 unfold qqn at h;unfold qh8;split at h
 case h_2=>cases h
 rename_i fs ht;rw[ht];split at h
 case h_2=>cases h
 rename_i off ft hf;split at h
 case h_2=>cases h
 rename_i ti hti;obtain⟨cs,rfl,h⟩:=qd1 h;obtain⟨v,h3,h⟩:=zc h;refine⟨v,?_,h⟩;simp only[hf];unfold qi7;rw[hti];exact h3
theorem ql2{cfg:Cfg}{t:TypeId}{x:AV}{f:Nat}{k:KV α}(h:qfJ cfg t x f k=some r):∃v,qbx cfg t x f=some v∧k v=some r:=by
 unfold qfJ at h;unfold qbx;split at h
 case h_2=>cases h
 rename_i fs ht;rw[ht];simp only;split at h
 case h_2=>cases h
 rename_i off ft hf;simp only[hf];split at h
 case h_2=>cases h
 rename_i n hn;split at h
 ·exact⟨_,by simp only[hn],h⟩
 ·exact⟨_,by simp only[hn],h⟩
 ·exact⟨_,by simp only[hn],h⟩
 ·cases h
variable {α : Type} {r : α} {H : AH}
theorem qqd{n:Nat}{x:AV}{k:List (List AV)->Option α}(h:qnk H n x k=some r):∃rows,yH H n x=some rows∧k rows=some r:=by
 unfold qnk at h;unfold yH;split at h
 ·exact⟨_,rfl,h⟩
 ·exact⟨_,rfl,h⟩
 ·obtain⟨h1,hz⟩:=qq h;exact⟨_,by simp only[h1,if_true],hz⟩
 ·obtain⟨sz,rs,h1,h⟩:=qa8 h;obtain⟨h2,hz⟩:=qq h;rw[qFJ]at h2;refine⟨_,?_,hz⟩;simp only[h1];rw[qGq];rw[qFJ,beq_iff_eq];exact⟨qFO h2.1,h2.2⟩
 ·cases h
theorem qn8{b:Bool}{n:Nat}{x:AV}{k:List (List AV)->Option α}(h:kSrc b H n x k=some r):∃rows,yv H n x=some rows∧k rows=some r:=by
 unfold kSrc at h;rcases yk h with⟨_,h⟩|⟨_,h⟩
 ·obtain⟨s,rfl,h⟩:=qac h;obtain⟨h1,hz⟩:=qq h;exact⟨_,by simp only[yv,h1,if_true],hz⟩
 ·obtain⟨rows,h1,hz⟩:=qqd h;refine⟨rows,?_,hz⟩;unfold yv;split
  ·simp[yH]at h1
  ·exact h1
theorem qoF{cfg:Cfg}{nid:Option Nat}{s d:TypeId}{x:AV}{k:KH α}(h:qkF cfg nid s d x H k=some r):∃v H',qai cfg nid s d x H=some (v,H')∧k v H'=some r:=by
 unfold qkF at h;unfold qai;split at h
 ·rename_i hs hd;split at h
  ·exact⟨_,_,by simp only[hs,hd],h⟩
  ·cases h
 ·rename_i hs hd;obtain⟨b,rfl,hz⟩:=qac h;exact⟨_,_,by simp only[hs,hd],hz⟩
 ·rename_i e hs hd;split at h
  ·rename_i hte;obtain⟨b,rfl,h0⟩:=qac h;obtain⟨i,H',h1,hz⟩:=yc h0;exact⟨_,_,by simp only[hs,hd,hte,h1],hz⟩
  ·cases h
 ·rename_i e hs hd;split at h
  ·rename_i hte;obtain⟨rows,h1,h⟩:=qz h;obtain⟨bs,h2,hz⟩:=qz h;refine⟨.str bs,H,?_,hz⟩;simp only[hs,hd];cases x<;>first|(simp only[hte,h1,h2];done)|(simp[yH]at h1)
  ·cases h
 ·cases h
theorem qqp{cfg:Cfg}{nid:Option Nat}{t xt:TypeId}{s x:AV}{k:KH α}(h:qno cfg nid t xt s x H k=some r):∃v H',qbb cfg nid t xt s x H=some (v,H')∧k v H'=some r:=by
 unfold qno at h;unfold qbb;split at h
 case h_2=>cases h
 rename_i e xd ht hxt;split at h
 case h_2=>cases h
 rename_i ei hei;obtain⟨h1,h⟩:=qq h;obtain⟨news,h2,h⟩:=qn8 h;simp only[ht,hxt,hei,h1,if_true,h2];split at h
 ·rcases yk h with⟨h3,hz⟩|⟨h3,h⟩
  ·exact⟨_,_,by simp only[h3,if_true],hz⟩
  ·obtain⟨h4,h⟩:=qq h;obtain⟨i,H',h5,hz⟩:=yc h;exact⟨_,_,by simp only[h3,qF5,if_false,h4,if_true,h5],hz⟩
 ·obtain⟨d,sz,rs,h3,h⟩:=qaw h;obtain⟨h4,h⟩:=qq h;obtain⟨i,H',h5,hz⟩:=yc h;exact⟨_,_,by simp only[h3,h4,if_true,h5],hz⟩
 ·cases h
theorem qwL{cfg:Cfg}{t:TypeId}{x:AV}{k:KV α}(h:kLen cfg t x H k=some r):∃v,aLen cfg t x H=some v∧k v=some r:=by
 unfold kLen at h;unfold aLen;split at h
 ·rename_i ht;obtain⟨s,rfl,hz⟩:=qac h;exact⟨_,by simp only[ht],hz⟩
 ·rename_i e ht;split at h
  ·exact⟨_,by simp only[ht],h⟩
  ·exact⟨_,by simp only[ht],h⟩
  ·exact⟨_,by simp only[ht],h⟩
  ·exact⟨_,by simp only[ht],h⟩
  ·exact⟨_,by simp only[ht],h⟩
  ·exact⟨_,by simp only[ht],h⟩
  ·cases h
 ·rename_i n e ht;exact⟨_,by simp only[ht],h⟩
 ·rename_i a b ht;split at h
  ·exact⟨_,by simp only[ht],h⟩
  ·obtain⟨b,h1,h⟩:=qz h;split at h
   ·exact⟨_,by simp only[ht,h1],h⟩
   ·cases h
  ·cases h
 ·cases h
theorem qlW{cfg:Cfg}{nid:Option Nat}{t:TypeId}{l c:AV}{k:KH α}(h:qoY cfg nid t l c H k=some r):∃v H',qcb cfg nid t l c H=some (v,H')∧k v H'=some r:=by
 unfold qoY at h;unfold qcb;split at h
 case h_2=>cases h
 rename_i e ht;split at h
 case h_2=>cases h
 rename_i ei hei;obtain⟨h1,h⟩:=qq h;obtain⟨n,rfl,ha⟩:=qcj h;obtain⟨m,rfl,hb⟩:=qcj ha;obtain⟨h2,hd⟩:=qq hb;obtain⟨i,H',h3,hz⟩:=yc hd;rw[qFJ,qFJ,qFJ,xa,xa,xa,xa]at h2;exact⟨_,_,by simp only[ht,hei,h1,if_true];rw[qGq ⟨h2.1.1.1,h2.1.1.2,h2.1.2,h2.2⟩];simp only[h3],hz⟩
theorem qsg{cfg:Cfg}{nid:Option Nat}{t:TypeId}{l c:AV}{k:KH α}(h:qqi cfg nid t l c H k=some r):∃v H',qcs cfg nid t l c H=some (v,H')∧k v H'=some r:=by
 unfold qqi at h;unfold qcs;split at h
 ·rename_i hw;rw[hw];exact qlW h
 ·rename_i hw;rw[hw];split at h
  ·obtain⟨h1,h⟩:=qq h;obtain⟨v,H',h2,h⟩:=qlW h;split at h
   ·refine⟨_,_,?_,h⟩;simp only;rw[qGq h1,h2];rfl
   ·cases h
  ·cases h
theorem qwM{cfg:Cfg}{t:TypeId}{x:AV}{k:KV α}(h:kCap cfg t x k=some r):∃v,aCap cfg t x=some v∧k v=some r:=by
 unfold kCap at h;unfold aCap;split at h
 ·rename_i e ht;split at h
  ·split at h
   ·exact⟨_,by simp only[ht,AV.lenW,qGc],h⟩
   ·exact⟨_,by simp only[ht,AV.lenW,qGc],h⟩
   ·cases h
  ·cases h
 ·cases h
theorem qnl{v:AV}{k:KV α}{cfg:Cfg}{nid:Option Nat}{a:Operand}{ty:TypeId}{x:Operand->AV}(hx:x a=v)(h:qhL v k=some r):evOp cfg nid (.nilCheck a) ty x H=some (v,H)∧k v=some r:=by
 unfold qhL at h;simp only[evOp,hx];split at h<;>first|exact⟨rfl,h⟩|cases h
theorem qsk{cfg:Cfg}{t:TypeId}{x:AV}{k:AH->Option α}(h:qqo cfg t x H k=some r):∃H',qe6 cfg t x H=some H'∧k H'=some r:=by
 unfold qqo at h;unfold qe6;split at h
 case h_2=>cases h
 rename_i e he;rw[he];split at h
 ·exact⟨H,rfl,h⟩
 ·rename_i id off len;split at h
  case h_2=>cases h
  rename_i ei hei;obtain⟨d,sz,rs,h1,h⟩:=qaw h;obtain⟨h2,hz⟩:=qq h;exact⟨_,by simp only[hei,h1,h2,if_true],hz⟩
 ·cases h
theorem quG{cfg:Cfg}{t xt:TypeId}{d s:AV}{k:KH α}(h:quH cfg t xt d s H k=some r):∃v H',qi8 cfg t d s H=some (v,H')∧k v H'=some r:=by
 unfold quH at h;unfold qi8;split at h
 case h_2=>cases h
 rename_i e he;rw[he];split at h
 case h_2=>cases h
 rename_i id off len;split at h
 case h_2=>cases h
 rename_i n hn;obtain⟨db,sz,rs,h1,h⟩:=qaw h;obtain⟨news,h2,h⟩:=qn8 h;obtain⟨h3,hz⟩:=qq h;exact⟨_,_,by simp only[hn,h1,h2,h3,if_true],hz⟩
theorem qn9{b:ABlk}{k:Bool->List (AV×AV)->Option α}(h:kMpB b k=some r):∃d es,b= .mp d es∧k d es=some r:=by
 unfold kMpB at h;split at h
 ·exact⟨_,_,rfl,h⟩
 ·cases h
theorem qsf{x:AV}{k:Bool->List (AV×AV)->Option α}(h:qqh H x k=some r):∃d es,qdV H x=some es∧k d es=some r:=by
 unfold qqh at h;split at h
 ·exact⟨_,_,rfl,h⟩
 ·obtain⟨b,h1,h⟩:=qz h;obtain⟨d,es,rfl,h⟩:=qn9 h;exact⟨d,es,by simp only[qdV,h1],h⟩
 ·cases h
theorem qj9{q:Option (Nat×AV)}{x:Option α}{y:Nat->AV->Option α}(h:qeY q x y=some r):(q=none∧x=some r)∨∃p,q=some p∧y p.1 p.2=some r:=by
 unfold qeY at h;split at h
 ·exact .inl ⟨rfl,h⟩
 ·exact .inr ⟨_,rfl,h⟩
theorem qql{cfg:Cfg}{t:TypeId}{x key:AV}{ok:Bool}{k:KV α}(h:qnn cfg t x key ok H k=some r):∃v,qaB cfg t x key ok H=some v∧k v=some r:=by
 unfold qnn at h;split at h
 case h_2=>cases h
 rename_i kt et ht;split at h
 case h_2=>cases h
 rename_i d hd;obtain⟨df,es,h1,h⟩:=qsf h;obtain⟨h2,h⟩:=qq h;obtain⟨q,h3,h⟩:=qz h;rcases qj9 h with⟨rfl,h⟩|⟨p,rfl,h⟩
 ·obtain⟨z,hz,h⟩:=qz h;exact⟨_,by simp only[qaB,ht,hd,h1,h2,if_true,h3,hz];cases ok<;>rfl,h⟩
 ·have h:=qdY (k:=λv=>k (cond ok (.tup [v,.bool true]) v)) h;exact⟨_,by simp only[qaB,ht,hd,h1,h2,if_true,h3];cases ok<;>rfl,h⟩
theorem qhM{cfg:Cfg}{t:TypeId}{m key v:AV}{k:AH->Option α}(h:qnm cfg t m key v H k=some r):∃H',qba cfg t m key v H=some H'∧k H'=some r:=by
 unfold qnm at h;split at h
 case h_2=>cases h
 rename_i kt et ht;split at h
 case h_2=>cases h
 rename_i id;split at h
 case h_2=>cases h
 rename_i d hd;obtain⟨b,h1,h⟩:=qz h;obtain⟨d0,es,rfl,h⟩:=qn9 h;obtain⟨h2,h⟩:=qq h;obtain⟨q,h3,h⟩:=qz h;rcases qj9 h with⟨rfl,h⟩|⟨p,rfl,h⟩
 ·exact⟨_,by simp only[qba,ht,hd,h1,h2,if_true,h3],h⟩
 ·exact⟨_,by simp only[qba,ht,hd,h1,h2,if_true,h3],h⟩
theorem qqf{cfg:Cfg}{nid:Option Nat}{o:Op}{ty:TypeId}{x:Operand->AV}{k:KH α}(h:kOp cfg nid o ty x H k=some r):∃v H',evOp cfg nid o ty x H=some (v,H')∧k v H'=some r:=by
 cases o with
 |move a=>exact⟨_,_,rfl,h⟩
 |assign a=>exact⟨_,_,rfl,h⟩
 |pick c a b=>
  simp only[kOp]at h;obtain⟨t,h1,h⟩:=qcN h;have:=quB (k:=λv=>k v H) h;exact⟨_,_,by simp only[evOp,h1],this⟩
 |alloc t=>
  simp only[kOp]at h;split at h
  ·rename_i ti hti;obtain⟨h1,h⟩:=qq h;obtain⟨i,H',h2,hz⟩:=yc h;exact⟨_,_,by simp only[evOp,hti,h1,if_true,h2],hz⟩
  ·cases h
 |box t a=>
  simp only[kOp]at h;obtain⟨cs,h1,h⟩:=qaO h;obtain⟨i,H',h2,hz⟩:=yc h;exact⟨_,_,by simp only[evOp,h1,h2],hz⟩
 |build t parts=>
  simp only[kOp]at h;split at h
  case h_2=>cases h
  rename_i ti hti;obtain⟨h1,h⟩:=qq h;split at h
  ·rename_i fs hfs;split at h
   case h_2=>cases h
   rename_i ps hps;obtain⟨qs,h2,h3⟩:=qlD hps;obtain⟨cs,h4,hz⟩:=qfI (place':=λi=>qs[i]?) (λi off n g hi=>h3 i off n g hi) h;exact⟨_,_,by simp only[evOp,hti,h1,if_true,hfs,h2,h4,qGc],hz⟩
  ·rename_i m e hfs;split at h
   case h_2=>cases h
   rename_i n hn;obtain⟨cs,h4,hz⟩:=qfI (place':=λi=>some (i*n,n)) (λi off m g hi=>by cases hi;rfl) h;exact⟨_,_,by simp only[evOp,hti,h1,if_true,hfs,hn,h4,qGc],hz⟩
  ·cases h
 |buildSlice t len parts=>
  simp only[kOp]at h;split at h
  case h_2=>cases h
  rename_i e ht;split at h
  case h_2=>cases h
  rename_i ei hei;obtain⟨h1,h⟩:=qq h;obtain⟨rows,h2,h⟩:=qlU h;obtain⟨i,H',h3,hz⟩:=yc h;exact⟨_,_,by simp only[evOp,ht,hei,h1,if_true,h2,h3],hz⟩
 |load t a=>
  simp only[kOp]at h;split at h
  case h_2=>cases h
  rename_i ti hti;split at h
  ·rename_i cs off hx;obtain⟨v,h1,h⟩:=zc h;have h2:=vN (k:=λv=>cond ti.d.agg (k v.lendA H) (k v.lend H)) h;rcases yk h2 with⟨ha,h2⟩|⟨ha,h2⟩
   ·rw[ha]at h1;simp only[if_true]at h1;split at h1
    ·rename_i hb;cases h1;refine⟨_,_,?_,h2⟩;simp only[evOp,hti,hx,qaC,ha,if_true,hb,qGc,AV.lendA]
    ·cases h1
   ·rw[ha]at h1;simp only[qF5,if_false]at h1;refine⟨_,_,?_,h2⟩;simp only[evOp,hti,hx,qaC,ha,qF5,if_false,h1,qGc]
  ·rename_i id cs off hx;obtain⟨b,hb0,h⟩:=qz h;split at h
   ·obtain⟨v,h1,h⟩:=zc h;have h2:=vN (k:=λv=>cond ti.d.agg (k (v.regA id) H) (k (v.regn id) H)) h;rcases yk h2 with⟨ha,h2⟩|⟨ha,h2⟩
    ·rw[ha]at h1;simp only[if_true]at h1;split at h1
     ·rename_i hb;cases h1;refine⟨_,_,?_,h2⟩;simp only[evOp,hti,hx,qaC,hb0,ha,if_true,hb,qGc,AV.regA]
     ·cases h1
    ·rw[ha]at h1;simp only[qF5,if_false]at h1;refine⟨_,_,?_,h2⟩;simp only[evOp,hti,hx,qaC,hb0,ha,qF5,if_false,h1,qGc]
   ·obtain⟨v,h1,h⟩:=qfF h;exact⟨_,_,by simp only[evOp,hti,hx,h1,qGc],h⟩
  ·obtain⟨v,h1,h⟩:=qfF h;exact⟨_,_,by simp only[evOp,hti,h1,qGc],vN (k:=λv=>k v H) h⟩
 |store t a v=>
  simp only[kOp]at h;split at h
  case h_2=>cases h
  rename_i ti hti;obtain⟨H',h1,hz⟩:=qsc h;exact⟨_,_,by simp only[evOp,(qz6 hti).1,h1,qGc],hz⟩
 |nilCheck a=>
  obtain⟨h1,h2⟩:=qnl (cfg:=cfg) (nid:=nid) (ty:=ty) (H:=H) (x:=x) (a:=a) (k:=λv=>k v H) rfl h;exact⟨_,_,h1,h2⟩
 |binOp op t a b yt=>
  simp only[kOp]at h;obtain⟨v,h1,h⟩:=qz h;exact⟨_,_,by simp only[evOp,h1,qGc],vN (k:=λv=>k v H) h⟩
 |unOp op t a=>
  simp only[kOp]at h;obtain⟨v,h1,h⟩:=qz h;exact⟨_,_,by simp only[evOp,h1,qGc],vN (k:=λv=>k v H) h⟩
 |convert s d a=>exact qoF h
 |makeFunc f first caps=>exact⟨_,_,rfl,h⟩
 |makeSlice t l c=>exact qsg h
 |makeMap t r=>
  simp only[kOp]at h;unfold qqj at h;split at h
  case h_2=>cases h
  rename_i kt et ht;cases r with
  |none=>
   simp only[Option.map_none]at h;obtain⟨i,H',h1,hz⟩:=yc h;exact⟨_,_,by simp only[evOp,ht,h1],hz⟩
  |some a=>
   simp only[qGc]at h;split at h
   ·rename_i hxa;obtain⟨i,H',h1,hz⟩:=yc h;exact⟨_,_,by simp only[evOp,ht,hxa,h1],hz⟩
   ·cases h
 |lookup t a key ok=>
  simp only[kOp]at h;obtain⟨v,h1,hz⟩:=qql h;exact⟨_,_,by simp only[evOp,h1,qGc],hz⟩
 |mapUpdate t m key v=>
  simp only[kOp]at h;obtain⟨H',h1,hz⟩:=qhM h;exact⟨_,_,by simp only[evOp,h1,qGc],hz⟩
 |insert t m key v=>
  simp only[kOp]at h;obtain⟨H',h1,hz⟩:=qhM h;exact⟨_,_,by simp only[evOp,h1,qGc],hz⟩
 |slice t a lo hi mx=>
  simp only[kOp]at h;obtain⟨v,h1,hz⟩:=qsd h;exact⟨_,_,by simp only[evOp,h1,qGc],hz⟩
 |fieldAddr t a f=>
  simp only[kOp]at h;obtain⟨v,h1,hz⟩:=ql2 h;exact⟨_,_,by simp only[evOp,h1,qGc],hz⟩
 |field t a f=>
  simp only[kOp]at h;obtain⟨v,h1,h⟩:=qsi h;exact⟨_,_,by simp only[evOp,h1,qGc],vN (k:=λv=>k v H) h⟩
 |indexAddr t a i=>
  simp only[kOp]at h;obtain⟨v,h1,hz⟩:=qlY h;exact⟨_,_,by simp only[evOp,h1,qGc],hz⟩
 |index t a i=>
  simp only[kOp]at h;obtain⟨v,h1,h⟩:=qsh h;exact⟨_,_,by simp only[evOp,h1,qGc],vN (k:=λv=>k v H) h⟩
 |extract t i=>
  simp only[kOp]at h;split at h
  ·rename_i vs hvs;obtain⟨v,h1,h⟩:=qz h;exact⟨_,_,by simp only[evOp,hvs,h1,qGc],vN (k:=λv=>k v H) h⟩
  ·cases h
 |call c=>
  simp only[kOp]at h;obtain⟨callee,args,argTypes⟩:=c;simp only at h;simp only[evOp];split at h
  case h_2=>cases h
  generalize args.toList=al at *;generalize argTypes.toList=tl at *;split at h
  ·obtain⟨v,h1,hz⟩:=qwL h;exact⟨_,_,by simp only[h1,qGc],hz⟩
  ·obtain⟨v,h1,hz⟩:=qwM h;exact⟨_,_,by simp only[h1,qGc],hz⟩
  ·exact qqp h
  ·rename_i d s t xt;obtain⟨v,H',h1,hz⟩:=quG h;exact⟨_,_,h1,hz⟩
  ·obtain⟨v,h1,hz⟩:=qsk h;exact⟨_,_,by simp only[h1,qGc],hz⟩
  ·obtain⟨v,h1,h⟩:=qz h;exact⟨_,_,by simp only[h1,qGc],vN (k:=λv=>k v H) h⟩
  ·obtain⟨v,h1,h⟩:=qz h;exact⟨_,_,by simp only[h1,qGc],vN (k:=λv=>k v H) h⟩
  ·cases h
 |_=>simp only[kOp]at h;cases h
def KfOk(cf:Orac)(kf:KF α):Prop:=∀t a H k r,kf t a H k=some r->∃q,cf t a H=some q∧k q=some r
theorem qfL{cf:Orac}{f:Nat}:∀{l:List AV} {k:Option α},ql6 cf f l k=some r->zY cf f l=some ()∧k=some r
 |[],_,h=>⟨rfl,h⟩
 |a::l,k,h=>by
  rw[ql6]at h;obtain⟨u,h1,h⟩:=qz h;obtain⟨h2,hz⟩:=qfL h;refine⟨?_,hz⟩;unfold EVz at h1;obtain⟨q,h3,h4⟩:=qFL.1 h1;rw[zY,h3];simp only[qGa,h4,h2]
theorem qoa{ids:List Nat}{v:AV}{k:KV α}(hi:∀id∈v.msIds,id∈ids)(h:qiZ H v k=some r):k (v.frz ids H)=some r:=by
 unfold qiZ at h;split at h
 ·rename_i cs;have:=qck (ids:=ids) (λv hv id off len e=>hi id (qdT hv e)) h
  simpa [AV.frz,Function.comp_def]using this
 ·rename_i cs;have:=qck (k:=λcs=>k (.tup cs)) (ids:=ids) (λv hv id off len e=>hi id (qdT hv e)) h
  simpa [AV.frz,Function.comp_def]using this
 ·rename_i h1 h2;have h4:=(qbm h).1 ids (λid off len e=>hi id (by subst e;simp[AV.msIds,AV.msId])) rfl;have e1:v.frz ids H=v.frz1 ids H:=by
   cases v<;>first|rfl|exact absurd rfl (h1 _)|exact absurd rfl (h2 _)
  rw[e1];exact h4
theorem qb3{cfg:Cfg}{cf:Orac}{kf:KF α}(hkf:KfOk cf kf){nid:Option Nat}{ty:TypeId}{t:Tgt}{args:List AV}{k:KH α}(h:qbp cfg cf kf nid ty t args H k=some r):∃v H',vA cfg cf nid t args H=some (v,H')∧k v H'=some r:=by
 cases t with
 |y id=>
  simp only[qbp]at h;obtain⟨q,h1,h⟩:=hkf _ _ _ _ _ h;obtain⟨p,h2,h⟩:=qz h;exact⟨_,_,by simp only[vA,h1,qGa];exact h2,vN (k:=λv=>k v p.2) h⟩
 |f f=>
  simp only[qbp]at h;cases hm:cfg.mode f with
  |scal=>
   simp only[hm]at h;obtain⟨h1,h⟩:=qq (ql5 h);split at h
   ·obtain⟨q,h5,h⟩:=hkf _ _ _ _ _ h;have h3:=vN (k:=λv=>cond v.scalar (k v H) none) h;obtain⟨h4,hz⟩:=qq h3;exact⟨q.1,H,by simp only[vA,hm,h1,if_true,h5,qGa,h4],hz⟩
   obtain⟨v,h2,h⟩:=qz h;have h3:=vN (k:=λv=>cond v.scalar (k v H) none) h;obtain⟨h4,hz⟩:=qq h3;unfold EVs at h2;obtain⟨q,h5,h6⟩:=qFM.1 h2;exact⟨v,H,by simp only[vA,hm,h1,if_true,h5,qGa,h6,h4],hz⟩
  |pfrz=>
   simp only[hm]at h;obtain⟨h1,h⟩:=qq h;split at h
   ·obtain⟨q,h5,h⟩:=hkf _ _ _ _ _ h;have h2:=qcl (k:=λv=>kTy qd5 cfg ty v λv=>cond (v.refsLt 0) (k v H) none) h;have h3:=vN (k:=λv=>cond (v.refsLt 0) (k v H) none) h2;obtain⟨h4,hz⟩:=qq h3;exact⟨_,H,by simp only[vA,hm,h1,if_true,h5,qGa,h4],hz⟩
   obtain⟨v,h2,h⟩:=qz h;have h3:=vN (k:=λv=>cond (v.refsLt 0) (k v H) none) h;obtain⟨h4,hz⟩:=qq h3;unfold EVf at h2;obtain⟨q,h5,h6⟩:=qFM.1 h2;exact⟨v,H,by simp only[vA,hm,h1,if_true,h5,qGa,h6,h4],hz⟩
  |pown=>
   simp only[hm]at h;split at h
   ·rename_i t1 t2 _;obtain⟨h1,h⟩:=qq h;obtain⟨q,h2,h⟩:=qz h;obtain⟨p,h5,h6⟩:=qFL.1 h2;unfold qoU at h6;split at h6
    case h_2=>cases h6
    rename_i a sc hp;obtain⟨h7,h6⟩:=qq h6;split at h6
    case h_2=>cases h6
    rename_i o ho;cases h6;have h:=qdY (k:=λs=>kOwn o (k (.tup [.nilS,s]) H) λsz rs off len=>kNew nid H (.rows true sz rs) λi H'=>k (.tup [.ms i off len,s]) H') h;unfold ovOf at ho;split at ho
    ·rename_i hq;cases ho;refine⟨.tup [.nilS,(sc.frz sc.msIds p.2).fg],H,?_,h⟩;have hq:a= .nilS:=hq;simp only[vA,hm,h1,if_true,h5,qGa,qdi,hp,h7,hq,za,AV.refsLt,qGc]
    ·rename_i id off len hq;split at ho
     case h_2=>cases ho
     rename_i sz rs hid;split at ho
     case isFalse=>cases ho
     rename_i hr;cases ho;simp only[kOwn]at h;obtain⟨i,H',h8,hz⟩:=yc h;have hq:a= .ms id off len:=hq;refine⟨_,_,?_,hz⟩;simp only[vA,hm,h1,if_true,h5,qGa,qdi,hp,h7,hq,za,hid,hr,h8,qGc]
    ·cases ho
   ·obtain⟨h1,h⟩:=qq h;have key:∃q o,cf (.f f) args []=some q∧ovOf q=some o∧(kOwn o (k .nilS H) λsz rs off len=>kNew nid H (.rows true sz rs) λi H'=>k (.ms i off len) H')=some r:=by
     split at h
     ·obtain⟨q,h5,h⟩:=hkf _ _ _ _ _ h;obtain⟨o,h6,h⟩:=qz h;exact⟨q,o,h5,h6,h⟩
     ·obtain⟨o,h2,h⟩:=qz h;unfold EVo at h2;obtain⟨q,h5,h6⟩:=qFL.1 h2;exact⟨q,o,h5,h6,h⟩
    obtain⟨q,o,h5,h6,h⟩:=key;unfold ovOf at h6;split at h6
    ·rename_i hq;cases h6;exact⟨.nilS,H,by simp only[vA,hm,h1,if_true,h5,qGa,qdi,za,hq,AV.refsLt],h⟩
    ·rename_i id off len hq;split at h6
     case h_2=>cases h6
     rename_i sz rs hid;split at h6
     case isFalse=>cases h6
     rename_i hr;cases h6;simp only[kOwn]at h;obtain⟨i,H',h7,hz⟩:=yc h;exact⟨_,_,by simp only[vA,hm,h1,if_true,h5,qGa,qdi,za,hq,hid,hr,h7],hz⟩
    ·cases h6
  |inpl=>
   simp only[hm]at h;have res:∀(kd:Nat) (ik:IntKind) (id:Nat) (v:MV) (k:KV α),qoZ kd ik id v k=some r->k (v.av id)=some r:=by
    intro kd ik id v k h;unfold qoZ at h;split at h
    ·cases v<;>first|exact h|exact absurd h (by simp[q6])
    ·cases v<;>first|exact h|exact absurd h (by simp[kMSl])
    ·cases v with
     |int q n=>
      obtain⟨h1,h2⟩:=qq h;rw[←qhD h1]at h2;exact h2
     |_=>exact absurd h (by simp[qo0])
    ·cases v<;>first|exact h|exact absurd h (by simp[qqk])
   split at h
   case h_2=>
    rename_i hids;obtain⟨h1,h⟩:=qq h;obtain⟨v1,h2,h⟩:=qz h;unfold EVu at h2;obtain⟨r1,h5,h6⟩:=qFL.1 h2;split at h6
    case isFalse=>cases h6
    rename_i hrf;have hav:r1.1=v1.av 0:=by
     unfold mvOf at h6;split at h6
     ·rename_i e;cases h6;rw[e];rfl
     ·rename_i e;cases h6;rw[e];rfl
     ·rename_i i off len e;rw[e]at hrf;simp[AV.refsLt,Nat.blt_eq]at hrf
     ·rename_i e;cases h6;rw[e];rfl
     ·rename_i e;cases h6;rw[e];rfl
     ·cases h6
    refine⟨v1.av 0,H,?_,res _ _ _ _ (λv=>k v H) h⟩;simp only[vA,hm,hids,h1,if_true,h5,qGa,hrf];rw[hav]
   rename_i id l hids;obtain⟨h1,h⟩:=qq h;obtain⟨b,h2,h⟩:=qz h;split at h
   case h_2=>cases h
   rename_i d sz rs;obtain⟨h3,h⟩:=qq h;obtain⟨q,h4,h⟩:=qz h;unfold EVm at h4;obtain⟨r1,h5,h6⟩:=qFL.1 h4;obtain⟨q1,h7,h8⟩:=qFL.1 h6;obtain⟨v1,h9,h10⟩:=qFM.1 h8;cases h10;have hav:q1.1.ren (λ_=>id)=v1.av id:=by
    unfold mvOf at h9;split at h9
    ·rename_i e;cases h9;rw[e];simp[AV.ren,renL,MV.av]
    ·rename_i e;cases h9;rw[e];simp[AV.ren,MV.av]
    ·rename_i i off len e;split at h9
     ·cases h9;rw[e];simp[AV.ren,MV.av]
     ·cases h9
    ·rename_i e;cases h9;rw[e];simp[AV.ren,MV.av]
    ·rename_i e;cases h9;rw[e];simp[AV.ren,MV.av]
    ·cases h9
   have hk:k (v1.av id) (H.set id (.rows true sz q1.2))=some r:=res _ _ _ _ (λv=>k v (H.set id (.rows true sz q1.2))) h;refine⟨v1.av id,_,?_,hk⟩;simp only[vA,hm,hids,h1,if_true,h2,h3,h5,qGa,h7,qGc,hav]
  |inpf=>
   simp only[hm]at h;split at h
   case h_2=>cases h
   rename_i id l hids;obtain⟨h1,h⟩:=qq h;obtain⟨b,h2,h⟩:=qz h;split at h
   case h_2=>cases h
   rename_i d sz rs;obtain⟨h3,h⟩:=qq h;obtain⟨q,h4,h⟩:=qz h;unfold EVd at h4;obtain⟨r1,h5,h6⟩:=qFL.1 h4;have hk:=vN (k:=λv=>k v (H.set id (.rows true sz q.2))) h;refine⟨q.1,_,?_,hk⟩;simp only[vA,hm,hids,h1,if_true,h2,h3,h5,qGa,h6,qGc]
  |slf=>
   simp only[hm]at h;split at h
   case h_2=>cases h
   rename_i id l hids;obtain⟨h1,h⟩:=qq h;obtain⟨b,h2,h⟩:=qz h;split at h
   case h_2=>cases h
   rename_i d sz rs;obtain⟨h3,h⟩:=qq h;obtain⟨q,h4,h⟩:=qz h;have h4:=qzP h4;unfold EVx at h4;obtain⟨r1,h5,h6⟩:=qFL.1 h4;have hk:=vN (k:=λv=>k v (H.set id (.rows false sz (renR (λ_=>id) (renR (λ_=>0) rs))))) h;refine⟨q,_,?_,hk⟩;simp only[vA,hm,hids,h1,if_true,h2,h3,h5,qGa,h6,qGc]
  |nfrz=>
   simp only[hm]at h;obtain⟨h1,h⟩:=qq h;obtain⟨V,h2,h⟩:=qz h;have h3:=vN (k:=λV=>k V.lendT H) h;unfold EVn at h2;obtain⟨q,h5,h6⟩:=qFL.1 h2;exact⟨_,_,by simp only[vA,hm,h1,if_true,h5,qGa,h6,qGc],h3⟩
  |rgn=>
   simp only[hm]at h;obtain⟨h1,h⟩:=qq h;obtain⟨V,h2,h⟩:=qz h;have h3:=vN (k:=λV=>kNew nid H .reg λi H'=>k (rgIn i V) H') h;obtain⟨i,H',h4,hz⟩:=yc h3;unfold EVg at h2;obtain⟨q,h5,h6⟩:=qFL.1 h2;exact⟨_,_,by simp only[vA,hm,h1,if_true,h5,qGa,h6,h4,qGc],hz⟩
  |over=>
   simp only[hm]at h;split at h
   case h_2=>cases h
   rename_i a;split at h
   case h_2=>cases h
   rename_i id l hids;obtain⟨h1,h⟩:=qq h;obtain⟨b,h2,h⟩:=qz h;split at h
   ·obtain⟨h3,hz⟩:=qfL h;exact⟨_,_,by simp only[vA,hm,hids,h1,if_true,h2,h3,qGc],hz⟩
   ·obtain⟨h3,hz⟩:=qfL h;exact⟨_,_,by simp only[vA,hm,hids,h1,if_true,h2,h3,qGc],hz⟩
   ·cases h
  |imp=>
   simp only[hm]at h;obtain⟨q,h1,h⟩:=hkf _ _ _ _ _ h;obtain⟨p,h2,h⟩:=qz h;exact⟨_,_,by simp only[vA,hm,h1,qGa];exact h2,vN (k:=λv=>k v p.2) h⟩
  |ifrz=>
   simp only[hm]at h;obtain⟨q,h1,h⟩:=hkf _ _ _ _ _ h;have h:=qoa (k:=λx=>kOpt (yY nid H.length x (qV q.1.msIds q.2)) λr=>kTy noTy cfg ty r.1 λv=>k v r.2) (ids:=q.1.msIds) (λid hi=>hi) h;obtain⟨p,h2,h⟩:=qz h;exact⟨_,_,by simp only[vA,hm,h1,qGa];exact h2,vN (k:=λv=>k v p.2) h⟩
theorem quK{cfg:Cfg}{cf:Orac}{kf:KF α}(hkf:KfOk cf kf){nid:Option Nat}{ty:TypeId}{t:Tgt}{args:List AV}{k:KH α}(h:ql4 cfg cf kf nid ty t args H k=some r):∃v H',yA cfg cf nid t args H=some (v,H')∧k v H'=some r:=by
 unfold ql4 at h;unfold yA;cases hn:qaE cfg t args with
 |none=>rw[hn]at h;exact qb3 hkf h
 |some n=>
  rw[hn]at h;simp only at h;cases n with
  |zero=>
   have h:(qbp cfg cf kf nid ty t [.nilS] H λv H1=>qbp cfg cf kf nid ty t [.em] H λv2 H2=>kEqR (v,H1) (v2,H2) (k v H1))=some r:=h;obtain⟨v,H1,h1,h⟩:=qb3 hkf h;obtain⟨v2,H2,h2,h⟩:=qb3 hkf h;unfold kEqR at h;split at h
   case isFalse=>cases h
   rename_i he;exact⟨v,H1,by simp only[h1,h2,he,qqL,if_true],h⟩
  |succ n=>exact qb3 hkf h
theorem qwI{f:AV}{args:List AV}{k:Tgt->List AV->Option α}(h:kTgt f args k=some r):∃t,zy f args=some t∧k t.1 t.2=some r:=by
 unfold kTgt at h;unfold zy;split at h
 ·exact⟨_,rfl,h⟩
 ·exact⟨_,rfl,h⟩
 ·cases h
theorem qfH{ids:List Nat}:∀{l:List AV} {k:List AV->Option α},(∀v∈l,∀id∈v.msIds,id∈ids)->qhN H l k=some r->k (l.map λv=>v.frz ids H)=some r
 |[],k,_,h=>h
 |a::l,k,hi,h=>by
  rw[qhN]at h;have h1:=qoa (ids:=ids) (hi a (by simp)) h;exact qfH (k:=λl=>k (a.frz ids H::l)) (λv hv=>hi v (by simp[hv])) h1
theorem qAK{a b:Operand}(h:opEq a b=true):a=b:=by
 cases a<;>cases b<;>simp_all [opEq]
theorem qs5{y:Operand->AV}(a:Operand):∀l:List Operand,frzX l (l.map y) y a=y a
 |[]=>rfl
 |b::l=>by
  rw[List.map_cons,frzX];cases hb:opEq b a with
  |true=>rw[cond_true,qAK hb]
  |false=>rw[cond_false];exact qs5 a l
theorem qlZ{cfg:Cfg}{nid:Option Nat}{o:Oper}{x:Operand->AV}{k:KH α}(h:qo1 cfg nid o x H k=some r):
  kOp cfg nid o.op o.type (λa=>(x a).frz (o.op.operands.toList.flatMap λa=>(x a).msIds) H) (qV (o.op.operands.toList.flatMap λa=>(x a).msIds) H) k=some r:=by
 unfold qo1 at h;have h1:=qfH (ids:=o.op.operands.toList.flatMap λa=>(x a).msIds) (λv hv id hid=>by
  obtain⟨a,ha,rfl⟩:=List.mem_map.1 hv;exact List.mem_flatMap.2 ⟨a,ha,hid⟩) h
 rw[List.map_map]at h1;have e:frzX o.op.operands.toList (o.op.operands.toList.map ((λv=>v.frz (o.op.operands.toList.flatMap λa=>(x a).msIds) H)∘x)) (λa=>(x a).frz (o.op.operands.toList.flatMap λa=>(x a).msIds) H)=λa=>(x a).frz (o.op.operands.toList.flatMap λa=>(x a).msIds) H:=funext λa=>qs5 a _
 rw[e]at h1;exact h1
theorem qfE{cfg:Cfg}{cf:Orac}{kf:KF α}(hkf:KfOk cf kf){frz:Bool}{nid:Option Nat}{o:Oper}{x:Operand->AV}{k:KH α}(h:qlV cfg cf kf frz nid o x H k=some r):∃v H',vZ cfg cf frz nid o x H=some (v,H')∧k v H'=some r:=by
 have core:∀{x:Operand->AV} {H:AH},(match o.op with
   | .call c=>
    match c.callee with
    | .value f=>kTgt (x f) (c.args.toList.map x) λt al=>ql4 cfg cf kf nid o.type t al H k
    |_=>kOp cfg nid o.op o.type x H k
   |_=>kOp cfg nid o.op o.type x H k)=some r->∃v H',(match o.op with
    | .call c=>
     match c.callee with
     | .value f=>(zy (x f) (c.args.toList.map x)).bind λt=>yA cfg cf nid t.1 t.2 H
     |_=>evOp cfg nid o.op o.type x H
    |_=>evOp cfg nid o.op o.type x H)=some (v,H')∧k v H'=some r:=by
  intro x H h;cases ho:o.op with
  |call c=>
   simp only[ho]at h⊢;cases hc:c.callee with
   |value f=>
    simp only[hc]at h⊢;obtain⟨t,h1,h⟩:=qwI h;obtain⟨v,H',h2,hz⟩:=quK hkf h;exact⟨v,H',by rw[h1];exact h2,hz⟩
   |_=>simp only[hc]at h⊢;exact qqf h
  |_=>simp only[ho]at h⊢;exact qqf h
 unfold qlV at h;unfold vZ;cases frz with
 |true=>
  simp only[cond_true]at h;simp only[if_true];refine core (x:=λa=>(x a).frz (o.op.operands.toList.flatMap λa=>(x a).msIds) H) (H:=qV (o.op.operands.toList.flatMap λa=>(x a).msIds) H) ?_;cases ho:o.op with
  |call c=>
   simp only[ho]at h⊢;cases hc:c.callee with
   |value f=>
    simp only[hc]at h⊢;have h1:=qfH (ids:=(Op.call c).operands.toList.flatMap λa=>(x a).msIds) (λv hv id hid=>by
     obtain⟨a,ha,rfl⟩:=List.mem_map.1 hv;refine List.mem_flatMap.2 ⟨a,?_,hid⟩;simp[Op.operands,Call.operands,hc,Array.mem_toList_iff.1 ha]) h
    rw[List.map_map]at h1;exact h1
   |_=>simp only[hc]at h⊢;have h:=qlZ h;rw[ho]at h;exact h
  |_=>simp only[ho]at h⊢;have h:=qlZ h;rw[ho]at h;exact h
 |false=>simp only[cond_false]at h;simp only[qF5,if_false];exact core h
theorem qko{fr:List AV}{d:Nat}{v:AV}(h:fr[d]? =some v):fr.set d v=fr:=by
 obtain⟨hl,e⟩:=qFF.1 h;rw[←e];exact List.set_getElem_self hl
theorem qdp{ops:Array Oper}{fr:List AV}{o:Oper}{k:Bool->List AV->Option α}(h:qeX ops fr o k=some r):∃b,y7 ops fr o=some b∧k b fr=some r:=by
 unfold qeX at h;unfold y7;split at h
 ·rename_i hg;rw[hg];exact⟨true,rfl,h⟩
 ·rename_i j want hg;rw[hg];simp only;split at h
  ·rename_i d hd;rw[hd];simp only;obtain⟨v,h1,h⟩:=qz h;rw[h1];split at h
   ·split at h
    ·exact⟨false,rfl,h⟩
    ·cases h
   ·obtain⟨b,rfl,h⟩:=qcN h;simp only;refine⟨_,rfl,?_⟩;rcases yk h with⟨rfl,h⟩|⟨rfl,h⟩
    ·rw[qko h1]at h;cases want<;>exact h
    ·rw[qko h1]at h;cases want<;>exact h
  ·cases h
theorem qhG{cfg:Cfg}{cf:Orac}{kf:KF α}(hkf:KfOk cf kf){f rid:Nat}{ops:Array Oper}:∀{l:List Oper} {n:Nat} {fr:List AV} {H:AH} {k:List AV->AH->Option α},kOps cfg cf kf f rid ops n l fr H k=some r->∃q,qb8 cfg cf f rid ops n l fr H=some q∧k q.1 q.2=some r
 |[],n,fr,H,k,h=>⟨(fr,H),rfl,h⟩
 |o::l,n,fr,H,k,h=>by
  rw[kOps]at h;obtain⟨b,h1,h⟩:=qdp h;rw[qb8,h1];simp only[qGa];rcases yk h with⟨rfl,h⟩|⟨rfl,h⟩
  ·obtain⟨v,H',h2,h⟩:=qfE hkf h;simp only[if_true,h2,qGa];exact qhG hkf h
  ·simp only[qF5,if_false];exact qhG hkf h
theorem qfK{cfg:Cfg}{cf:Orac}{kf:KF α}(hkf:KfOk cf kf){f rid:Nat}{ops:Array Oper}:∀{l:List Oper} {n at_:Nat} {fr:List AV} {H:AH} {k:List DR->List AV->AH->Option α},ql3 cfg cf kf f rid ops n at_ l fr H k=some r ->
  ∃q,zO cfg cf f rid ops n at_ l fr H=some q∧k q.1 q.2.1 q.2.2=some r
 |[],n,at_,fr,H,k,h=>⟨([],fr,H),rfl,h⟩
 |o::l,n,at_,fr,H,k,h=>by
  rw[ql3]at h;obtain⟨b,h1,h⟩:=qdp h;rw[zO,h1];simp only[qGa];rcases yk h with⟨rfl,h9⟩|⟨rfl,h9⟩
  ·obtain⟨v,H',h2,h8⟩:=qfE hkf h9;simp only[if_true,h2,qGa];obtain⟨q,h3,hz⟩:=qfK hkf h8;exact⟨_,by rw[h3];rfl,hz⟩
  ·simp only[qF5,if_false];obtain⟨q,h3,hz⟩:=qfK hkf h9;exact⟨_,by rw[h3];rfl,hz⟩
theorem qlR{fr:List AV}{c:Operand}{b:Bool}(h:opd fr c= .bool b):known fr c b=fr:=by
 cases c with
 |tmp d=>
  simp only[known];have hg:fr[d]? =some (.bool b):=by
   have h':fr.getD d .junk= .bool b:=h;rw[List.getD_eq_getElem?_getD]at h';cases hd:fr[d]? with
   |none=>rw[hd]at h';cases h'
   |some v=>rw[hd]at h';simp at h';rw[h']
  exact qko hg
 |_=>rfl
theorem qhF{cfg:Cfg}{cf:Orac}{kf:KF α}(hkf:KfOk cf kf){f rid:Nat}{ops:Array Oper}:∀{l:List (Nat×Oper)} {fr:List AV} {H:AH} {k:List AV->AH->Option α},kOrd cfg cf kf f rid ops l fr H k=some r->∃q,qb7 cfg cf f rid ops l fr H=some q∧k q.1 q.2=some r
 |[],fr,H,k,h=>⟨(fr,H),rfl,h⟩
 |p::l,fr,H,k,h=>by
  rw[kOrd]at h;obtain⟨b,h1,h⟩:=qdp h;rw[qb7,qcn,h1];simp only[qGa];rcases yk h with⟨rfl,h⟩|⟨rfl,h⟩
  ·obtain⟨v,H',h2,h⟩:=qfE hkf h;simp only[if_true,h2,qGc,qGa];exact qhF hkf h
  ·simp only[qF5,if_false,qGa];exact qhF hkf h
theorem qlT{β:Type}{F:β->KE α->Option α}{E:β->Option (List AV×AH)}{G:List AV->AH->Option (Ex×List AV×AH)}(hF:∀o (k:KE α),F o k=some r->∃p q,E o=some p∧G p.1 p.2=some q∧k q.1 q.2.1 q.2.2=some r){g:Ex->List AV->AH->Ex×List AV×AH}{z:Ex×List AV×AH}{x:Option α}:∀{l:List β},quA F g z l x=some r->∃L,l.map E=L.map some∧qaI (λfr H=>(G fr H).map λq=>g q.1 q.2.1 q.2.2) z L=true∧x=some r
 |[],h=>⟨[],rfl,rfl,h⟩
 |o::l,h=>by
  obtain⟨p,q,h0,h1,h2⟩:=hF _ _ h;unfold kEqR at h2;split at h2
  case isFalse=>cases h2
  rename_i he;obtain⟨L,h3,h4,h5⟩:=qlT hF h2;refine⟨p::L,by rw[List.map_cons,List.map_cons,h0,h3],?_,h5⟩;simp only[qaI,h1,qGc,←he,qqL,Bool.or_true,h4,qF7]
theorem quI{β:Type}{F:β->KE α->Option α}{E:β->Option (List AV×AH)}{G:List AV->AH->Option (Ex×List AV×AH)}(hF:∀o (k:KE α),F o k=some r->∃p q,E o=some p∧G p.1 p.2=some q∧k q.1 q.2.1 q.2.2=some r){g:Ex->List AV->AH->Ex×List AV×AH}{k:KE α}{O:List β}(h:qAl F g k O=some r):
  ∃L q,O.map E=L.map some∧qcX (λfr H=>(G fr H).map λq=>g q.1 q.2.1 q.2.2) L=some q∧k q.1 q.2.1 q.2.2=some r:=by
 cases O with
 |nil=>cases h
 |cons o l=>
  obtain⟨p,q,h0,h1,h2⟩:=hF _ _ h;obtain⟨L,h3,h4,h5⟩:=qlT hF h2;refine⟨p::L,g q.1 q.2.1 q.2.2,by rw[List.map_cons,List.map_cons,h0,h3],?_,h5⟩;simp only[qcX,h1,qGc,qGa,h4,if_true]
theorem qof{cfg:Cfg}{cf:Orac}{f rid:Nat}{ops:Array Oper}{fr:List AV}{H:AH}:∀{O:List (List (Nat×Oper))} {L:List (List AV×AH)},O.map (λo=>qb7 cfg cf f rid ops o fr H)=L.map some->y3 cfg cf f rid ops O fr H=some L
 |[],[],_=>rfl
 |[],_::_,h=>by cases h
 |_::_,[],h=>by cases h
 |o::O,q::L,h=>by
  rw[List.map_cons,List.map_cons,List.cons.injEq]at h;simp only[y3,h.1,qGa,qof h.2,qGc]
theorem qcM{cfg:Cfg}{cf:Orac}{kf:KF α}(hkf:KfOk cf kf){f:Nat}{rd:Option Nat}{bs:Nat}:∀(c:Code) {fr:List AV} {H:AH} {k:KE α},qR cfg cf kf f rd bs c fr H k=some r->∃q,evC cfg cf f rd bs c fr H=some q∧k q.1 q.2.1 q.2.2=some r:=by
 intro c
 induction c with
 |skip=>intro fr H k h;exact⟨(.normal,fr,H),by simp only[evC],by simpa only[qR]using h⟩
 |label l=>intro fr H k h;exact⟨(.normal,fr,H),by simp only[evC],by simpa only[qR]using h⟩
 |exit id=>intro fr H k h;exact⟨(.exit id,fr,H),by simp only[evC],by simpa only[qR]using h⟩
 |ret=>intro fr H k h;exact⟨(.ret,fr,H),by simp only[evC],by simpa only[qR]using h⟩
 |goto l=>intro fr H k h;simp only[qR]at h;cases h
 |refuse s=>intro fr H k h;simp only[qR]at h;cases h
 |region id ops draw=>
  intro fr H k h;simp only[qR]at h;simp only[evC];cases draw with
  |true=>
   simp only[cond_true]at h;simp only[if_true];obtain⟨h1,h⟩:=qq h;obtain⟨q,h2,h⟩:=qfK hkf h;obtain⟨h3,hz⟩:=qq h;exact⟨(.normal,q.2),by simp only[h1,if_true,h2,qGa,h3],hz⟩
  |false=>
   simp only[cond_false]at h;simp only[qF5,if_false];obtain⟨q,h2,hz⟩:=qhG hkf h;exact⟨(.normal,q),by simp only[h2,qGc],hz⟩
 |seq x y ihx ihy=>
  intro fr H k h;simp only[qR]at h;simp only[evC];cases hco:qhZ x with
  |some p=>
   rw[hco]at h;simp only at h⊢;split at h
   case h_2=>cases h
   rename_i O hO;obtain⟨L,q,h0,hq1,hq2⟩:=quI (E:=λo=>qb7 cfg cf f p.1 p.2 o fr H) (G:=λfr H=>evC cfg cf f rd bs y (xk (cfg.cut f (qm y)) fr) H) (λo k h=>by
    obtain⟨p',g1,g2⟩:=qhF hkf h;obtain⟨q',g3,g4⟩:=ihy g2;exact⟨p',q',g1,g3,g4⟩) h
   exact⟨q,by rw[qmn _ _ hO (qof h0)];exact hq1,hq2⟩
  |none=>?_
  rw[hco]at h;simp only at h⊢;obtain⟨q,h1,h⟩:=ihx h;rw[h1];simp only[qGa];unfold kSeq at h;cases hq:q.1 with
  |normal=>simp only[hq]at h⊢;exact ihy (qsj h)
  |exit id=>simp only[hq]at h⊢;exact⟨_,rfl,h⟩
  |goto l=>simp only[hq]at h⊢;exact⟨_,rfl,h⟩
  |ret=>simp only[hq]at h⊢;exact⟨_,rfl,h⟩
 |cond cnd x y ihx ihy=>
  intro fr H k h;simp only[qR]at h;simp only[evC];obtain⟨b,h1,h⟩:=qcN h;rw[h1];simp only;rcases yk h with⟨rfl,h⟩|⟨rfl,h⟩
  ·rw[qlR h1]at h;simp only[if_true];exact ihx h
  ·rw[qlR h1]at h;simp only[qF5,if_false];exact ihy h
 |block id x ih=>
  intro fr H k h;simp only[qR]at h;simp only[evC];obtain⟨q,h1,h⟩:=ih h;rw[h1];simp only[qGa];unfold vm at h;cases hq:q.1 with
  |normal=>simp only[hq]at h⊢;exact⟨_,rfl,by rw[hq];exact h⟩
  |exit id'=>
   simp only[hq]at h⊢;rcases yk h with⟨h2,hz⟩|⟨h2,hz⟩
   ·exact⟨_,by simp only[h2,if_true];rfl,hz⟩
   ·exact⟨q,by simp only[h2,qF5,if_false],by rw[hq];exact hz⟩
  |goto l=>simp only[hq]at h⊢;exact⟨_,rfl,by rw[hq];exact h⟩
  |ret=>simp only[hq]at h⊢;exact⟨_,rfl,by rw[hq];exact h⟩
 |loop x ih=>
  intro fr H k h;simp only[qR]at h;simp only[evC];obtain⟨q,h1,hz⟩:=qz h;exact⟨(q.1,xk (cfg.keepOut f (qm x)) q.2.1,q.2.2),by rw[h1];rfl,hz⟩
 |scope x ih=>
  intro fr H k h;simp only[qR]at h;simp only[evC];obtain⟨q,h1,h⟩:=ih h;rw[h1];simp only[qGa];unfold qdq at h;cases hq:q.1 with
  |goto l=>simp only[hq]at h;cases h
  |normal=>simp only[hq]at h⊢;exact⟨_,rfl,by rw[hq];exact h⟩
  |exit id=>simp only[hq]at h⊢;exact⟨_,rfl,by rw[hq];exact h⟩
  |ret=>simp only[hq]at h⊢;exact⟨_,rfl,by rw[hq];exact h⟩
 |rangeFunc g ps assign body=>
  intro fr H k h;simp only[qR]at h;simp only[evC];generalize (xf (cfg.lift f (qm body)) fr H).1=fr at h⊢;generalize (xf (cfg.lift f (qm body)) _ H).2=H at h⊢;unfold qwJ at h;obtain⟨h1,h⟩:=qq h;split at h
  case h_2=>cases h
  rename_i g' first caps hg;obtain⟨h2,h⟩:=qq h;obtain⟨q,h3,h⟩:=hkf _ _ _ _ _ h;unfold yN at h;obtain⟨b,h4,h⟩:=qz h;unfold qAi at h;split at h
  case h_2=>cases h
  rename_i pend st;have hx:¬(cfg.ext g').isSome=true:=by
   cases he:cfg.ext g' with
   |none=>simp
   |some s=>rw[he]at h2;cases h2
  have hst:st≠.busy:=by
   intro e;subst e;simp at h
  have hpk:qqe pend k (gc bs (xk (cfg.keepOut f (qm body)) fr) (q.2.set H.length .dead)).1 (gc bs (xk (cfg.keepOut f (qm body)) fr) (q.2.set H.length .dead)).2=some r:=by
   cases st with
   |busy=>exact absurd rfl hst
   |_=>exact h
  unfold qe2;rw[qGq h1,hg];simp only[hx,h3,qGa,h4];unfold qqe at hpk;cases st with
  |busy=>exact absurd rfl hst
  |_=>
   cases pend with
   |none=>exact⟨_,rfl,hpk⟩
   |some c=>
    cases c<;>first|exact⟨_,rfl,hpk⟩|cases hpk
theorem qdZ{cfg:Cfg}{fr:List AV}:∀{rs:List ResultVar} {k:List AV->Option α},kRes cfg fr H rs k=some r->∃vs,yR rs cfg.ty fr H=some vs∧k vs=some r
 |[],k,h=>⟨[],rfl,h⟩
 | .tmp t::l,k,h=>by
  rw[kRes]at h;obtain⟨vs,h1,hz⟩:=qdZ h;exact⟨_,by simp only[yR,h1,qGc],hz⟩
 | .cell a t::l,k,h=>by
  rw[kRes]at h;split at h
  ·rename_i ti hti;obtain⟨v,h1,h⟩:=qfF h;have h2:=vN (k:=λv=>kRes cfg fr H l λvs=>k (v::vs)) h;obtain⟨vs,h3,hz⟩:=qdZ h2;exact⟨_,by simp only[yR,hti,h1,qGa,h3,qGc],hz⟩
  ·cases h
variable {α : Type}
def fxGo(i:Nat)(l:List (Nat×AV)):Nat->List AV
 |0=>[]
 |n+1=>match l with
  |[]=>.junk::fxGo (i+1) [] n
  |p::l'=>if qFY p.1 i then p.2::fxGo (i+1) l' n else .junk::fxGo (i+1) (p::l') n
def fx(n:Nat)(l:List (Nat×AV)):List AV:=fxGo 0 l n
def qc(fn:Func):Code:=match fn.body with|some c=>c|none=>.skip
def sub:Code->List Nat->Code
 |c,[]=>c
 | .seq a b,i::l=>match i with|0=>sub a l|_=>sub b l
 | .cond _ a b,i::l=>match i with|0=>sub a l|_=>sub b l
 | .block _ a,_::l=>sub a l
 | .loop a,_::l=>sub a l
 | .scope a,_::l=>sub a l
 | .rangeFunc _ _ a b,i::l=>match i with|0=>sub a l|_=>sub b l
 |c,_=>c
def rngB(fn:Func)(f:Nat)(p:List Nat)(fr:List AV)(pend:Option Code)(st:LoopState):ABlk:=
 match sub (qc fn) p with
 | .rangeFunc _ ps a b=>.loop f fr ps.toList a b pend st
 |_=>.dead
def qdR:Code->Array Oper
 | .region _ o _=>o
 |_=> #[]
def kLp(k:Nat)(ts:Option (List Tmp))(ls:List (Tmp×Nat))(L:Den)(A:Ex×List AV×AH->Option α):KE α:=λe fr H=>
 match e with
 | .normal=>kOpt (LOOP k ts ls L (qbr k ts ls fr H)) A
 |e=>A (e,fr,H)
theorem qun{cfg:Cfg}{kf:KF α}(hkf:KfOk (EV cfg) kf){f:Nat}{rd:Option Nat}{bs:Nat}{c:Code}{k:Nat}{ts:Option (List Tmp)}{ls:List (Tmp×Nat)}{A:Ex×List AV×AH->Option α}{fr:List AV}{H:AH}{r:α}(h:qR cfg (EV cfg) kf f rd bs c fr H (kLp k ts ls (evC cfg (EV cfg) f rd bs c) A)=some r):kOpt (LOOP k ts ls (evC cfg (EV cfg) f rd bs c) (fr,H)) A=some r:=by
 obtain⟨⟨e,fr1,H1⟩,h1,h2⟩:=qcM hkf c h;cases e with
 |normal=>
  simp only[kLp]at h2;cases hl:LOOP k ts ls (evC cfg (EV cfg) f rd bs c) (qbr k ts ls fr1 H1)with
  |none=>rw[hl]at h2;cases h2
  |some q=>
   rw[hl]at h2;rw[qxG (p:=(fr,H)) h1 hl];exact h2
 |exit id=>rw[qia (p:=(fr,H)) h1 (λx=>by intro h;cases h)];exact h2
 |goto l=>rw[qia (p:=(fr,H)) h1 (λx=>by intro h;cases h)];exact h2
 |ret=>rw[qia (p:=(fr,H)) h1 (λx=>by intro h;cases h)];exact h2
def xI(cfg:Cfg)(ls:List (Tmp×Nat))(g:AV->AH->Option α)(rs:List ResultVar):KE α:=λe fr H=>
 match e with
 | .normal=>kRes cfg (xf ls fr H).1 (xf ls fr H).2 rs λvs=>g (qap vs) (xf ls fr H).2
 | .ret=>kRes cfg (xf ls fr H).1 (xf ls fr H).2 rs λvs=>g (qap vs) (xf ls fr H).2
 |_=>none
def vM(cfg:Cfg)(ls:List (Tmp×Nat))(rs:List ResultVar):KE AV:=xI cfg ls (λv _=>some v) rs
def vX(cfg:Cfg)(ls:List (Tmp×Nat))(rs:List ResultVar):KE AV:=xI cfg ls (λv H=>qb2 false H v some) rs
def qAk(cfg:Cfg)(ls:List (Tmp×Nat))(rs:List ResultVar):KE OV:=xI cfg ls (λv H=>ovOf (v,H)) rs
def kOv2(v:AV)(H:AH):Option (OV×AV):=
 match v with
 | .tup [a,s]=>qb2 false H s λs'=>cond (s'.refsLt 0) (match ovOf (a,qV s.msIds H)with|some o=>some (o,s')|none=>none) none
 |_=>none
theorem qwK{v:AV}{H:AH}{r:OV×AV}(h:kOv2 v H=some r):qoU (v,H)=some r:=by
 unfold kOv2 at h;unfold qoU;split at h
 ·rename_i a s;exact qcl (k:=λs'=>cond (s'.refsLt 0) (match ovOf (a,qV s.msIds H)with|some o=>some (o,s')|none=>none) none) h
 ·cases h
def qi0(cfg:Cfg)(ls:List (Tmp×Nat))(rs:List ResultVar):KE (OV×AV):=xI cfg ls kOv2 rs
def xp(cfg:Cfg)(sz:Nat)(ls:List (Tmp×Nat))(rs:List ResultVar):KE (MV×List (List AV)):=xI cfg ls (λv H=>(qlJ sz (v,H)).bind λq=>(mvOf q.1).map λv=>(v,q.2)) rs
def qFv(cfg:Cfg)(ls:List (Tmp×Nat))(rs:List ResultVar):KE (AV×AH):=xI cfg ls (λv H=>some (v,H)) rs
def zZ(cfg:Cfg)(cf:Orac)(kf:KF α)(f:Nat)(fn:Func)(c:Code)(args:List AV)(H:AH)(fin:KE α):Option α:=
 qR cfg cf kf f none H.length c (args++qGd (fn.ntmps - args.length) .junk) H fin
theorem qkb{cfg:Cfg}{kf:KF α}(hkf:KfOk (EV cfg) kf){g:AV->AH->Option α}{f:Nat}{fn:Func}{args:List AV}{H:AH}{r:α}(hx:cfg.ext f=none)(hk:cfg.known f=true)(hf:cfg.P.funcs[f]? =some fn)(hb:fn.body=some (qc fn))(h:zZ cfg (EV cfg) kf f fn (qc fn) args H (xI cfg (cfg.lift f 0) g fn.results.toList)=some r):∃v H',EV cfg (.f f) args H=some (v,H')∧g v H'=some r:=by
 unfold zZ at h;obtain⟨q,h1,h⟩:=qcM hkf _ h;have key:∀(vs:List AV),yR fn.results.toList cfg.ty (xf (cfg.lift f 0) q.2.1 q.2.2).1 (xf (cfg.lift f 0) q.2.1 q.2.2).2=some vs->(q.1= .normal∨q.1= .ret)->EV cfg (.f f) args H=some (qap vs,(xf (cfg.lift f 0) q.2.1 q.2.2).2):=by
  intro vs h2 hq;refine qcS ?_;unfold vR;simp only[hx,hk,if_true,hf,hb,h1,qGa];unfold qeZ;rcases hq with hq|hq<;>simp only[hq,h2,qGc]
 unfold xI at h;split at h
 ·rename_i hq;obtain⟨vs,h2,h⟩:=qdZ h;exact⟨_,_,key vs h2 (.inl hq),h⟩
 ·rename_i hq;obtain⟨vs,h2,h⟩:=qdZ h;exact⟨_,_,key vs h2 (.inr hq),h⟩
 ·cases h
def kY2(id:Nat)(K:AV×AH->Option α):KE α:=λe _ H=>
 kOpt H[id]? λb=>match b with
  | .loop f fr ps a b _ _=>(match e with
   | .normal=>K (.bool true,H.set id (.loop f fr ps a b none .ready))
   | .ret=>K (.bool false,H.set id (.loop f fr ps a b (some .ret) .done))
   | .exit x=>K (.bool false,H.set id (.loop f fr ps a b (some (.exit x)) .done))
   | .goto _=>none)
  |_=>none
def kY1(cfg:Cfg)(cf:Orac)(kf:KF α)(bs f id:Nat)(body:Code)(K:AV×AH->Option α):KE α:=λe fr H=>
 match e with
 | .normal=>kOpt H[id]? λb=>match b with
  | .loop f' fr' ps' a' b' p' st=>(match st with
   | .ready=>qR cfg cf kf f (some id) bs body fr (H.set id (.loop f' fr' ps' a' b' p' .busy)) (kY2 id K)
   |_=>none)
  |_=>none
 |_=>none
def kY(cfg:Cfg)(cf:Orac)(kf:KF α)(id:Nat)(args:List AV)(H:AH)(K:AV×AH->Option α):Option α:=
 kOpt H[id]? λb=>match b with
  | .loop f fr ps assign body _ st=>(match st with
   | .ready=>cond (qFY args.length ps.length) (qR cfg cf kf f (some id) H.length assign (zu fr ps args) H (kY1 cfg cf kf H.length f id body K)) none
   |_=>none)
  |_=>none
theorem qyH{cfg:Cfg}{kf:KF α}(hkf:KfOk (EV cfg) kf){id:Nat}{args:List AV}{H:AH}{K:AV×AH->Option α}{r:α}(h:kY cfg (EV cfg) kf id args H K=some r):∃q,EV cfg (.y id) args H=some q∧K q=some r:=by
 unfold kY at h;obtain⟨b,h1,h⟩:=qz h;cases b with
 |loop f fr ps assign body pend st=>
  simp only at h;cases st with
  |ready=>
   simp only at h;obtain⟨h2,h⟩:=qq h;obtain⟨q,h3,h⟩:=qcM hkf _ h;unfold kY1 at h;cases hq:q.1 with
   |normal=>
    rw[hq]at h;simp only at h;obtain⟨b,h4,h⟩:=qz h;cases b with
    |loop f' fr' ps' a' b' p' st'=>
     simp only at h;cases st' with
     |ready=>
      simp only at h;obtain⟨q2,h5,h⟩:=qcM hkf _ h;unfold kY2 at h;obtain⟨b,h6,h⟩:=qz h;cases b with
      |loop f2 fr2 ps2 a2 b2 p2 st2=>
       have key:∀q',vR cfg (EV cfg) (.y id) args H=some q'->K q'=some r->∃q,EV cfg (.y id) args H=some q∧K q=some r:=λq' h8 h9=>⟨q',qcS h8,h9⟩
       cases hq2:q2.1 with
       |normal=>
        rw[hq2]at h;refine key _ ?_ h;unfold vR;simp only[h1,qGq (qFO h2),h3,qGa,hq,h4,h5,h6,hq2]
       |ret=>
        rw[hq2]at h;refine key _ ?_ h;unfold vR;simp only[h1,qGq (qFO h2),h3,qGa,hq,h4,h5,h6,hq2]
       |exit x=>
        rw[hq2]at h;refine key _ ?_ h;unfold vR;simp only[h1,qGq (qFO h2),h3,qGa,hq,h4,h5,h6,hq2]
       |goto x=>rw[hq2]at h;cases h
      |_=>cases h
     |_=>cases h
    |_=>cases h
   |_=>rw[hq]at h;cases h
  |_=>cases h
 |_=>cases h
class InlOk (cfg:Cfg):Prop where
 ok:∀f fn,cfg.inl f=some fn->cfg.ext f=none∧cfg.known f=true∧cfg.P.funcs[f]? =some fn∧fn.body=some (qc fn)
def yw(f:Nat):List (Nat×Func)->Option Func
 |[]=>none
 |p::l=>if qFY p.1 f then some p.2 else yw f l
def qxH(cfg:Cfg):List (Nat×Func)->Prop
 |[]=>True
 |p::l=>(cfg.ext p.1=none∧cfg.known p.1=true∧cfg.P.funcs[p.1]? =some p.2∧p.2.body=some (qc p.2))∧qxH cfg l
theorem InlOk.of{cfg:Cfg}(tab:List (Nat×Func))(h:∀f,cfg.inl f=yw f tab)(ha:qxH cfg tab):InlOk cfg where
 ok:=by
  intro f fn hf;rw[h]at hf;clear h
  induction tab with
  |nil=>cases hf
  |cons p l ih=>
   rw[yw]at hf;split at hf
   ·rename_i e;have e:=qFO e;cases hf;rw[←e];exact ha.1
   ·exact ih ha.2 hf
def kfN(cfg:Cfg):Nat->KF α
 |0=>λt a H k=>kOpt (EV cfg t a H) k
 |n+1=>λt a H k=>match t with
  | .f f=>(match cfg.inl f with
   |some fn=>zZ cfg (EV cfg) (kfN cfg n) f fn (qc fn) a H (xI cfg (cfg.lift f 0) (λv H=>k (v,H)) fn.results.toList)
   |none=>kOpt (EV cfg (.f f) a H) k)
  | .y id=>kY cfg (EV cfg) (kfN cfg n) id a H k
theorem qlS{cfg:Cfg}[InlOk cfg]:∀n,KfOk (α:=α) (EV cfg) (kfN cfg n)
 |0=>λt a H k r h=>qz h
 |n+1=>λt a H k r h=>by
  unfold kfN at h;cases t with
  |f f=>
   simp only at h;split at h
   ·rename_i fn hf;obtain⟨o1,o2,o3,o4⟩:=InlOk.ok f fn hf;obtain⟨v,H',h1,h2⟩:=qkb (qlS n) o1 o2 o3 o4 h;exact⟨_,h1,h2⟩
   ·exact qz h
  |y id=>exact qyH (qlS n) h
theorem qg{cfg:Cfg}[InlOk cfg]{f:Nat}{rd:Option Nat}{bs:Nat}{c:Code}{k:Nat}{ts:Option (List Tmp)}{ls:List (Tmp×Nat)}{A:Ex×List AV×AH->Option α}{fr:List AV}{H:AH}{r:α}(h:qR cfg (EV cfg) (kfN cfg 6) f rd bs c fr H (kLp k ts ls (evC cfg (EV cfg) f rd bs c) A)=some r):kOpt (LOOP k ts ls (evC cfg (EV cfg) f rd bs c) (fr,H)) A=some r:=qun (qlS 6) h
theorem yn{cfg:Cfg}[InlOk cfg]{g:AV->AH->Option α}{f:Nat}{fn:Func}{args:List AV}{H:AH}{r:α}(hx:cfg.ext f=none)(hk:cfg.known f=true)(hf:cfg.P.funcs[f]? =some fn)(hb:fn.body=some (qc fn))(h:zZ cfg (EV cfg) (kfN cfg 6) f fn (qc fn) args H (xI cfg (cfg.lift f 0) g fn.results.toList)=some r):∃v H',EV cfg (.f f) args H=some (v,H')∧g v H'=some r:=qkb (qlS 6) hx hk hf hb h
def Gets{β:Type}(o:Option β)(P:β->Prop):Prop:=∃r,o=some r∧P r
theorem Gets.ev{β:Type}{o o':Option β}{P:β->Prop}(h:∀r,o=some r->o'=some r)(hy:Gets o P):Gets o' P:=by
 obtain⟨r,h1,h2⟩:=hy;exact⟨r,h r h1,h2⟩
theorem Gets.eq{β:Type}{o o':Option β}{P:β->Prop}(h:o'=o)(hy:Gets o P):Gets o' P:=h▸hy
theorem gE{β:Type}{o o' x:Option β}{P:β->Prop}(f:∀r,o=some r->o'=some r)(e:o=x)(h:Gets x P):Gets o' P:=Gets.ev f (Gets.eq e h)
theorem Gets.mono{β:Type}{o:Option β}{P Q:β->Prop}(h:Gets o P)(hq:∀b,P b->Q b):Gets o Q:=by
 obtain⟨r,h1,h2⟩:=h;exact⟨r,h1,hq r h2⟩
theorem Gets.bind{β γ:Type}{o:Option β}{k:β->Option γ}{Q:β->Prop}{P:γ->Prop}(h:Gets o Q)(hk:∀b,Q b->Gets (k b) P):Gets (kOpt o k) P:=by
 obtain⟨r,h1,h2⟩:=h;subst h1;exact hk r h2
@[simp] theorem gets_some{β:Type}{a:β}{P:β->Prop}:Gets (some a) P↔P a:=⟨fun⟨r,h1,h2⟩=>by cases h1;exact h2,λh=>⟨a,rfl,h⟩⟩
theorem Gets.get{β:Type}{o:Option β}{a:β}(h:Gets o (·=a)):o=some a:=by
 obtain⟨r,h1,h2⟩:=h;rw[h1,h2]
theorem qxI{cfg:Cfg}{f:Nat}{args:List AV}{v:AV}{H:AH}(h:EV cfg (.f f) args []=some (v,H)):EVs (EV cfg) f args=some v:=by unfold EVs;rw[h];rfl
theorem qEJ{cfg:Cfg}{f:Nat}{args:List AV}{v v':AV}{H:AH}(h:EV cfg (.f f) args []=some (v',H))(e:(v'.frz v'.msIds H).fg=v):EVf (EV cfg) f args=some v:=by unfold EVf;rw[h];exact congrArg some e
theorem qEI{cfg:Cfg}{f:Nat}{args:List AV}{v:OV}{r:AV×AH}(h:EV cfg (.f f) args []=some r)(e:ovOf r=some v):EVo (EV cfg) f args=some v:=by unfold EVo;rw[h];exact e
theorem funS{cfg:Cfg}[InlOk cfg]{f:Nat}{fn:Func}{args:List AV}{r:AV}(hx:cfg.ext f=none)(hk:cfg.known f=true)(hf:cfg.P.funcs[f]? =some fn)(hb:fn.body=some (qc fn))(h:zZ cfg (EV cfg) (kfN cfg 6) f fn (qc fn) args [] (vM cfg (cfg.lift f 0) fn.results.toList)=some r):EVs (EV cfg) f args=some r:=by
 obtain⟨v,H',h1,h2⟩:=yn hx hk hf hb h;cases h2;exact qxI h1
theorem funF{cfg:Cfg}[InlOk cfg]{f:Nat}{fn:Func}{args:List AV}{r:AV}(hx:cfg.ext f=none)(hk:cfg.known f=true)(hf:cfg.P.funcs[f]? =some fn)(hb:fn.body=some (qc fn))(h:zZ cfg (EV cfg) (kfN cfg 6) f fn (qc fn) args [] (vX cfg (cfg.lift f 0) fn.results.toList)=some r):EVf (EV cfg) f args=some r:=by
 obtain⟨v,H',h1,h2⟩:=yn hx hk hf hb h;exact qEJ h1 (Option.some.inj (qcl h2))
theorem funO{cfg:Cfg}[InlOk cfg]{f:Nat}{fn:Func}{args:List AV}{r:OV}(hx:cfg.ext f=none)(hk:cfg.known f=true)(hf:cfg.P.funcs[f]? =some fn)(hb:fn.body=some (qc fn))(h:zZ cfg (EV cfg) (kfN cfg 6) f fn (qc fn) args [] (qAk cfg (cfg.lift f 0) fn.results.toList)=some r):EVo (EV cfg) f args=some r:=by
 obtain⟨v,H',h1,h2⟩:=yn hx hk hf hb h;exact qEI h1 h2
theorem funQ{cfg:Cfg}[InlOk cfg]{f:Nat}{fn:Func}{args:List AV}{r:OV×AV}(hx:cfg.ext f=none)(hk:cfg.known f=true)(hf:cfg.P.funcs[f]? =some fn)(hb:fn.body=some (qc fn))(h:zZ cfg (EV cfg) (kfN cfg 6) f fn (qc fn) args [] (qi0 cfg (cfg.lift f 0) fn.results.toList)=some r):EVq (EV cfg) f args=some r:=by
 obtain⟨v,H',h1,h2⟩:=yn hx hk hf hb h;unfold EVq;rw[h1];exact qwK h2
theorem funM{cfg:Cfg}[InlOk cfg]{f sz:Nat}{fn:Func}{args:List AV}{rows:List (List AV)}{r:MV×List (List AV)}(hx:cfg.ext f=none)(hk:cfg.known f=true)(hf:cfg.P.funcs[f]? =some fn)(hb:fn.body=some (qc fn))(h:zZ cfg (EV cfg) (kfN cfg 6) f fn (qc fn) args [.rows true sz rows] (xp cfg sz (cfg.lift f 0) fn.results.toList)=some r):EVm (EV cfg) f args sz rows=some r:=by
 obtain⟨v,H',h1,h2⟩:=yn hx hk hf hb h;unfold EVm;rw[h1];exact h2
def qcL(cfg:Cfg)(sz:Nat)(ls:List (Tmp×Nat))(rs:List ResultVar):KE (AV×List (List AV)):=xI cfg ls (λv H=>qd0 H 0 λd sz' rows=>
 cond (d&&qFY sz' sz&&qbL v.msIds) (qb2 false H v λv'=>cond (v'.refsLt 0) (some (v',rows)) none) none) rs
theorem funD{cfg:Cfg}[InlOk cfg]{f sz:Nat}{fn:Func}{args:List AV}{rows:List (List AV)}{r:AV×List (List AV)}(hx:cfg.ext f=none)(hk:cfg.known f=true)(hf:cfg.P.funcs[f]? =some fn)(hb:fn.body=some (qc fn))(h:zZ cfg (EV cfg) (kfN cfg 6) f fn (qc fn) args [.rows true sz rows] (qcL cfg sz (cfg.lift f 0) fn.results.toList)=some r):EVd (EV cfg) f args sz rows=some r:=by
 obtain⟨v,H',h1,h2⟩:=yn hx hk hf hb h;unfold EVd;rw[h1];obtain⟨d,sz',rs',h3,h4⟩:=qaw h2;obtain⟨h5,h6⟩:=qq h4;have h7:=qcl (k:=λv'=>cond (v'.refsLt 0) (some (v',rs')) none) h6;obtain⟨h8,h9⟩:=qq h7;simp only[qFJ]at h5;obtain⟨⟨hd,hs⟩,hn⟩:=h5;subst hd;cases H' with
 |nil=>simp at h3
 |cons b l=>
  simp only[List.getElem?_cons_zero,Option.some.injEq]at h3;subst h3;simp only[qGa,qmd,hs,hn,h8,qF7,if_true];exact h9
def quE(cfg:Cfg)(sz:Nat)(ls:List (Tmp×Nat))(rs:List ResultVar):KE (AV×List (List AV)):=xI cfg ls (λv H=>qd0 H 0 λd sz' rows=>
 cond (!d&&qFY sz' sz&&qbL v.msIds&&ye [0] (yZ 0 rows)) (qb2 false H v λv'=>cond (v'.refsLt 0) (some (v',rows)) none) none) rs
theorem funX{cfg:Cfg}[InlOk cfg]{f sz:Nat}{fn:Func}{args:List AV}{rows:List (List AV)}{r:AV×List (List AV)}(hx:cfg.ext f=none)(hk:cfg.known f=true)(hf:cfg.P.funcs[f]? =some fn)(hb:fn.body=some (qc fn))(h:zZ cfg (EV cfg) (kfN cfg 6) f fn (qc fn) args [.rows false sz rows] (quE cfg sz (cfg.lift f 0) fn.results.toList)=some r):EVx (EV cfg) f args sz rows=some r:=by
 obtain⟨v,H',h1,h2⟩:=yn hx hk hf hb h;unfold EVx;rw[h1];obtain⟨d,sz',rs',h3,h4⟩:=qaw h2;obtain⟨h5,h6⟩:=qq h4;have h7:=qcl (k:=λv'=>cond (v'.refsLt 0) (some (v',rs')) none) h6;obtain⟨h8,h9⟩:=qq h7;simp only[qFJ,Bool.not_eq_true']at h5;obtain⟨⟨⟨hd,hs⟩,hn⟩,ha⟩:=h5;subst hd;cases H' with
 |nil=>simp at h3
 |cons b l=>
  simp only[List.getElem?_cons_zero,Option.some.injEq]at h3;subst h3;simp only[qGa,qli,hs,hn,h8,ha,qF7,if_true];exact h9
def qiY{α:Type}(G:AH)(a:AV)(k:AV->Option α):Option α:=
 match a with
 | .ms id off len=>kOpt G[id]? λb=>match b with
  | .rows _ _ rs=>cond (qFR (off+len) rs.length) (kOpt (unlR ((rs.drop off).take len)) λrows=>k (.sl rows)) none
  |_=>none
 | .sl rows=>cond rows.isEmpty (k (.sl [])) none
 | .lsl rows=>k (.sl rows)
 | .nilS=>k (.sl [])
 | .em=>k (.sl [])
 | .int x n=>k (.int x n)
 | .bool b=>k (.bool b)
 | .str s=>k (.str s)
 |_=>none
def kNwL{α:Type}(g:AV->(AV->Option α)->Option α):List AV->(List AV->Option α)->Option α
 |[],k=>k []
 |a::l,k=>g a λa=>kNwL g l λl=>k (a::l)
def qiX{α:Type}(G:AH)(a:AV)(k:AV->Option α):Option α:=
 match a with
 | .agg cs=>kNwL (qiY G) cs λcs=>k (.agg cs)
 |a=>qiY G a k
def qqg{α:Type}(G:AH)(a:AV)(k:AV->Option α):Option α:=
 match a with
 | .tup cs=>kNwL (qiX G) cs λcs=>k (.tup cs)
 |a=>qiX G a k
theorem qhJ{α:Type}{G:AH}{a:AV}{k:AV->Option α}{r:α}(h:qiY G a k=some r):∃V,z9 G a=some V∧k V=some r:=by
 unfold qiY at h;split at h
 ·obtain⟨b,h1,h⟩:=qz h;split at h
  ·obtain⟨h2,h⟩:=qq h;obtain⟨rows,h3,h⟩:=qz h;exact⟨_,by simp only[z9,h1,h2,if_true,h3,qGc],h⟩
  ·cases h
 ·rename_i rows;obtain⟨h1,h⟩:=qq h;cases rows with
  |nil=>exact⟨_,rfl,h⟩
  |cons=>cases h1
 all_goals first|exact⟨_,rfl,h⟩|cases h
theorem qhI{α:Type}{g:AV->(AV->Option α)->Option α}{g':AV->Option AV}(hg:∀(a:AV) (k:AV->Option α) (r:α),g a k=some r->∃V,g' a=some V∧k V=some r):∀{l:List AV} {k:List AV->Option α} {r:α},kNwL g l k=some r->∃q,datL g' l=some q∧k q=some r
 |[],_,_,h=>⟨[],rfl,h⟩
 |a::l,k,r,h=>by
  rw[kNwL]at h;obtain⟨V,h1,h⟩:=hg _ _ _ h;obtain⟨q,h2,h⟩:=qhI hg h;exact⟨V::q,by rw[datL,h1,h2],h⟩
theorem qhH{α:Type}{G:AH}{a:AV}{k:AV->Option α}{r:α}(h:qiX G a k=some r):∃V,qbj G a=some V∧k V=some r:=by
 unfold qiX at h;split at h
 ·obtain⟨q,h1,h2⟩:=qhI (λ_ _ _ h=>qhJ h) h;exact⟨_,by simp only[qbj,h1,qGc],h2⟩
 ·rename_i hn;obtain⟨V,h1,h2⟩:=qhJ h;refine⟨V,?_,h2⟩;rw[←h1];cases a<;>first|rfl|exact absurd rfl (hn _)
theorem qse{α:Type}{G:AH}{a:AV}{k:AV->Option α}{r:α}(h:qqg G a k=some r):∃V,qfw G a=some V∧k V=some r:=by
 unfold qqg at h;split at h
 ·obtain⟨q,h1,h2⟩:=qhI (λ_ _ _ h=>qhH h) h;exact⟨_,by simp only[qfw,h1,qGc],h2⟩
 ·rename_i hn;obtain⟨V,h1,h2⟩:=qhH h;refine⟨V,?_,h2⟩;rw[←h1];cases a<;>first|rfl|exact absurd rfl (hn _)
def quF(cfg:Cfg)(ls:List (Tmp×Nat))(rs:List ResultVar):KE AV:=xI cfg ls (λv H=>qqg H v some) rs
theorem funN{cfg:Cfg}[InlOk cfg]{f:Nat}{fn:Func}{args:List AV}{r:AV}(hx:cfg.ext f=none)(hk:cfg.known f=true)(hf:cfg.P.funcs[f]? =some fn)(hb:fn.body=some (qc fn))(h:zZ cfg (EV cfg) (kfN cfg 6) f fn (qc fn) args [] (quF cfg (cfg.lift f 0) fn.results.toList)=some r):EVn (EV cfg) f args=some r:=by
 obtain⟨v,H',h1,h2⟩:=yn hx hk hf hb h;obtain⟨V,h3,h4⟩:=qse h2;cases h4;unfold EVn;rw[h1];exact h3
def qAj(cfg:Cfg)(ls:List (Tmp×Nat))(rs:List ResultVar):KE Unit:=xI cfg ls (λv H=>qiT (v,H)) rs
theorem funZ{cfg:Cfg}[InlOk cfg]{f:Nat}{fn:Func}{a:AV}{r:Unit}(hx:cfg.ext f=none)(hk:cfg.known f=true)(hf:cfg.P.funcs[f]? =some fn)(hb:fn.body=some (qc fn))(h:zZ cfg (EV cfg) (kfN cfg 6) f fn (qc fn) [a] [.spl] (qAj cfg (cfg.lift f 0) fn.results.toList)=some r):EVz (EV cfg) f a=some r:=by
 obtain⟨v,H',h1,h2⟩:=yn hx hk hf hb h;unfold EVz;rw[h1];exact h2
theorem funA{cfg:Cfg}[InlOk cfg]{f:Nat}{fn:Func}{args:List AV}{H:AH}{r:AV×AH}(hx:cfg.ext f=none)(hk:cfg.known f=true)(hf:cfg.P.funcs[f]? =some fn)(hb:fn.body=some (qc fn))(h:zZ cfg (EV cfg) (kfN cfg 6) f fn (qc fn) args H (qFv cfg (cfg.lift f 0) fn.results.toList)=some r):EV cfg (.f f) args H=some r:=by
 obtain⟨v,H',h1,h2⟩:=yn hx hk hf hb h;cases h2;exact h1
@[simp] theorem nble(a b:Nat):qFR a b=decide (a<=b):=by
 rcases h:qFR a b with _|_
 ·rw[eq_comm,decide_eq_false_iff_not];intro h';rw[Nat.ble_eq_true_of_le h']at h;cases h
 ·rw[eq_comm,decide_eq_true_eq];exact Nat.le_of_ble_eq_true h
@[simp] theorem nbeq(a b:Nat):qFY a b=decide (a=b):=by
 rcases h:qFY a b with _|_
 ·rw[eq_comm,decide_eq_false_iff_not];intro h';rw[h',qF3]at h;cases h
 ·rw[eq_comm,decide_eq_true_eq];exact qFO h
@[simp] theorem leInt_eq(a b:Int):qj a b=decide (a<=b):=rfl
@[simp] theorem ltInt_eq(a b:Int):qA a b=decide (a<b):=rfl
theorem beqD{β:Type}[BEq β][LawfulBEq β][DecidableEq β](a b:β):(a==b)=decide (a=b):=by
 by_cases h:a=b
 ·subst h;simp
 ·simp[h]
theorem bneD{β:Type}[BEq β][LawfulBEq β][DecidableEq β](a b:β):(a != b)= !decide (a=b):=by rw[bne,beqD]
def AV.IsInt(v:AV):Prop:=∃n,v= .int .i64 n
def AV.IsBool(v:AV):Prop:=∃b,v= .bool b
@[simp] theorem isInt_int(n:Int):(AV.int .i64 n).IsInt:=⟨n,rfl⟩
@[simp] theorem isBool_bool(b:Bool):(AV.bool b).IsBool:=⟨b,rfl⟩
@[simp] theorem qd{β:Type}(b:β)(k:β->Option α):kOpt (some b) k=k b:=rfl
@[simp] theorem kOptNone{β:Type}(k:β->Option α):kOpt none k=none:=rfl
@[simp] theorem kMInt_int(kd:IntKind)(n:Int)(k:Int->Option α):qo0 kd (.int kd n) k=k n:=by simp[qo0,qab]
@[simp] theorem qe(kd:IntKind)(n:Int)(k:Int->Option α):kInt kd (.int kd n) k=k n:=by simp[kInt,qab]
@[simp] theorem qp(b:Bool)(k:Bool->Option α):qt (.bool b) k=k b:=rfl
@[simp] theorem qaY(s:List UInt8)(k:List UInt8->Option α):kStr (.str s) k=k s:=rfl
@[simp] theorem qqq(cs:List AV)(k:List AV->Option α):kAgg (.agg cs) k=k cs:=rfl
@[simp] theorem qT(c:AV)(cs:List AV)(k:AV->List AV->Option α):ql (c::cs) k=k c cs:=rfl
@[simp] theorem kConsH_cons(c:ABlk)(cs:AH)(k:ABlk->AH->Option α):qDF (c::cs) k=k c cs:=rfl
@[simp] theorem kNilH_nil(x:Option α):qFt [] x=x:=rfl
@[simp] theorem kConsR_cons(c:List AV)(cs:List (List AV))(k:List AV->List (List AV)->Option α):qDE (c::cs) k=k c cs:=rfl
@[simp] theorem kNilR_nil(x:Option α):qFs [] x=x:=rfl
@[simp] theorem kRowsB_rows(d:Bool)(n:Nat)(rs:List (List AV))(k:Bool->Nat->List (List AV)->Option α):qDD (.rows d n rs) k=k d n rs:=rfl
@[simp] theorem kMpB_mp(d:Bool)(es:List (AV×AV))(k:Bool->List (AV×AV)->Option α):kMpB (.mp d es) k=k d es:=rfl
@[simp] theorem kMsE_ms(a b c:Nat)(k:Nat->Nat->Nat->Option α):kMsE (.ms a b c) k=k a b c:=rfl
@[simp] theorem kMpE_mp(a:Nat)(k:Nat->Option α):kMpE (.mp a) k=k a:=rfl
@[simp] theorem kPtrE_ptr(a b c:Nat)(k:Nat->Nat->Nat->Option α):qFr (.ptr a b c) k=k a b c:=rfl
@[simp] theorem kFound_none(x:Option α)(y:Nat->AV->Option α):qeY none x y=x:=rfl
@[simp] theorem kFound_some'(p:Nat×AV)(x:Option α)(y:Nat->AV->Option α):qeY (some p) x y=y p.1 p.2:=rfl
@[simp] theorem yX(cs:List AV)(k:List AV->Option α):kTup (.tup cs) k=k cs:=rfl
@[simp] theorem beqB_ff:beqB false false=true:=rfl
@[simp] theorem beqB_tt:beqB true true=true:=rfl
@[simp] theorem nbeq_self(n:Nat):qFY n n=true:=qF3 n
@[simp] theorem q9(x:Option α):kNil [] x=x:=rfl
@[simp] theorem kMSl_nil(x:Option α)(k:Nat->Nat->Option α):kMSl .nil x k=x:=rfl
@[simp] theorem qAS(off len:Nat)(x:Option α)(k:Nat->Nat->Option α):kMSl (.sl off len) x k=k off len:=rfl
@[simp] theorem vq(x:Option α):q6 .unit x=x:=rfl
@[simp] theorem kMBool_bool(b:Bool)(k:Bool->Option α):qqk (.bool b) k=k b:=rfl
@[simp] theorem kOwn_nil(x:Option α)(k:Nat->List (List AV)->Nat->Nat->Option α):kOwn .nil x k=x:=rfl
@[simp] theorem qkE(sz:Nat)(rs:List (List AV))(off len:Nat)(x:Option α)(k:Nat->List (List AV)->Nat->Nat->Option α):kOwn (.own sz rs off len) x k=k sz rs off len:=rfl
@[simp] theorem q5(rs:List (List AV))(k:List (List AV)->Option α):kSl (.sl rs) k=k rs:=rfl
@[simp] theorem qu{β:Type}(l:List β)(i:Nat):qFG l i=l[i]? :=rfl
noncomputable section
variable {α β : Type}
structure Fact where
 frz:Bool
 f:Nat
 args:List AV
 v:AV
end
def qdv:List AV->AH->Option (AV×AH)
 |[.str a,.str b],H=>some (.int .i64 (if a==b then 0 else if Op.bytesLess a b then -1 else 1),H)
 |_,_=>none
def isEm(r:AV×AH):Bool:=
 match(r.1.frz r.1.msIds r.2).fg with
 | .sl []=>true
 |_=>false
def qbs(g:List AV->AH->Option (AV×AH))(args:List AV)(H:AH):Option (AV×AH):=
 match args with
 |[.sl []]=>(match g [.nilS] [],g [.em] []with
  |some a,some b=>bif isEm a&&isEm b then some (.sl [],H)else none
  |_,_=>none)
 |args=>g args H
end Go.Av
end
noncomputable section
namespace Go.Proofs.YtgleolmhpmljhaaGreat.K
open Go.Av
def zro0:List AV:=[.int .u64 0,.int .u64 0,.int .u32 0,.int .u8 0,.int .u8 0,.int .u8 0,.int .u8 0,.nilF,.nilP,.int .i32 0,.int .i32 0]
def qfl:BT TI:=.node 60 ⟨.struct [(0,4),(1,4),(2,4),(3,24),(7,36)],9,96,[.bool false,.bool false,.bool false,.int .i64 0,.int .i64 0,.str [],.nilS,.int .i64 0,.nilS],false⟩ (.node 23 ⟨.struct [(0,3),(1,3),(2,9),(3,22)],4,56,[.int .i64 0,.int .i64 0,.str [],.nilS],false⟩ (.node 12 ⟨.int .u64,1,8,[.int .u64 0],false⟩ (.node 5 ⟨.int .u8,1,1,[.int .u8 0],false⟩ (.node 3 ⟨.int .i64,1,8,[.int .i64 0],false⟩ (.node 2 ⟨.int .i64,1,8,[.int .i64 0],false⟩ (.node 1 ⟨.func,1,8,[.nilF],false⟩ .leaf .leaf) .leaf) (.node 4 ⟨.bool,1,1,[.bool false],false⟩ .leaf .leaf)) (.node 7 ⟨.struct [(0,2),(1,3),(2,4),(3,6)],4,24,[.int .i64 0,.int .i64 0,.bool false,.int .u8 0],true⟩ (.node 6 ⟨.int .u8,1,1,[.int .u8 0],false⟩ .leaf .leaf) (.node 9 ⟨.str,1,16,[.str []],false⟩ .leaf .leaf))) (.node 19 ⟨.struct [(0,17)],1,8,[.nilP],false⟩ (.node 17 ⟨.ptr 203,1,8,[.nilP],false⟩ (.node 16 ⟨.ptr 194,1,8,[.nilP],false⟩ (.node 13 ⟨.struct [(0,9),(1,12)],2,24,[.str [],.int .u64 0],false⟩ .leaf .leaf) .leaf) (.node 18 ⟨.struct [(0,17)],1,8,[.nilP],false⟩ .leaf .leaf)) (.node 21 ⟨.int .i32,1,4,[.int .i32 0],false⟩ (.node 20 ⟨.iface,1,16,[.nilI],false⟩ .leaf .leaf) (.node 22 ⟨.slice 24,1,24,[.nilS],false⟩ .leaf .leaf)))) (.node 36 ⟨.struct [(0,3),(1,22)],2,32,[.int .i64 0,.nilS],false⟩ (.node 28 ⟨.struct [(0,4),(1,22),(2,27)],3,56,[.bool false,.nilS,.nilS],false⟩ (.node 26 ⟨.func,1,8,[.nilF],false⟩ (.node 25 ⟨.func,1,8,[.nilF],false⟩ (.node 24 ⟨.struct [(0,3),(1,3),(2,9),(3,22)],4,56,[.int .i64 0,.int .i64 0,.str [],.nilS],false⟩ .leaf .leaf) .leaf) (.node 27 ⟨.slice 36,1,24,[.nilS],false⟩ .leaf .leaf)) (.node 30 ⟨.int .i64,1,8,[.int .i64 0],false⟩ (.node 29 ⟨.struct [(0,4),(1,22),(2,27)],3,56,[.bool false,.nilS,.nilS],false⟩ .leaf .leaf) (.node 35 ⟨.struct [(0,3),(1,22)],2,32,[.int .i64 0,.nilS],false⟩ .leaf .leaf))) (.node 49 ⟨.struct [(0,24),(4,22),(5,22)],6,104,[.int .i64 0,.int .i64 0,.str [],.nilS,.nilS,.nilS],false⟩ (.node 45 ⟨.slice 49,1,24,[.nilS],false⟩ (.node 38 ⟨.func,1,8,[.nilF],false⟩ (.node 37 ⟨.func,1,8,[.nilF],false⟩ .leaf .leaf) .leaf) (.node 48 ⟨.struct [(0,24),(4,22),(5,22)],6,104,[.int .i64 0,.int .i64 0,.str [],.nilS,.nilS,.nilS],false⟩ .leaf .leaf)) (.node 56 ⟨.func,1,8,[.nilF],false⟩ (.node 50 ⟨.func,1,8,[.nilF],false⟩ .leaf .leaf) (.node 58 ⟨.func,1,8,[.nilF],false⟩ .leaf .leaf))))) (.node 146 ⟨.func,1,8,[.nilF],false⟩ (.node 97 ⟨.slice 5,1,24,[.nilS],false⟩ (.node 86 ⟨.int .u64,1,8,[.int .u64 0],false⟩ (.node 76 ⟨.func,1,8,[.nilF],false⟩ (.node 75 ⟨.func,1,8,[.nilF],false⟩ (.node 61 ⟨.struct [(0,4),(1,4),(2,4),(3,24),(7,36)],9,96,[.bool false,.bool false,.bool false,.int .i64 0,.int .i64 0,.str [],.nilS,.int .i64 0,.nilS],false⟩ .leaf .leaf) .leaf) (.node 81 ⟨.func,1,8,[.nilF],false⟩ .leaf .leaf)) (.node 92 ⟨.struct [(0,24),(4,24)],8,112,[.int .i64 0,.int .i64 0,.str [],.nilS,.int .i64 0,.int .i64 0,.str [],.nilS],false⟩ (.node 91 ⟨.struct [(0,24),(4,24)],8,112,[.int .i64 0,.int .i64 0,.str [],.nilS,.int .i64 0,.int .i64 0,.str [],.nilS],false⟩ .leaf .leaf) (.node 93 ⟨.slice 92,1,24,[.nilS],false⟩ .leaf .leaf))) (.node 118 ⟨.slice 3,1,24,[.nilS],false⟩ (.node 114 ⟨.int .u32,1,4,[.int .u32 0],false⟩ (.node 107 ⟨.int .i64,1,8,[.int .i64 0],false⟩ (.node 101 ⟨.ptr 4,1,8,[.nilP],false⟩ .leaf .leaf) .leaf) (.node 116 ⟨.int .u64,1,8,[.int .u64 0],false⟩ .leaf .leaf)) (.node 136 ⟨.int .u64,1,8,[.int .u64 0],false⟩ (.node 132 ⟨.array 2 22,2,48,[.nilS,.nilS],false⟩ .leaf .leaf) (.node 140 ⟨.ptr 3,1,8,[.nilP],false⟩ .leaf .leaf)))) (.node 196 ⟨.int .u8,1,1,[.int .u8 0],false⟩ (.node 162 ⟨.func,1,8,[.nilF],false⟩ (.node 156 ⟨.struct [(0,116),(1,116)],2,16,[.int .u64 0,.int .u64 0],true⟩ (.node 155 ⟨.struct [(0,116),(1,116)],2,16,[.int .u64 0,.int .u64 0],true⟩ (.node 147 ⟨.func,1,8,[.nilF],false⟩ .leaf .leaf) .leaf) (.node 159 ⟨.ptr 136,1,8,[.nilP],false⟩ .leaf .leaf)) (.node 192 ⟨.array 0 16,0,0,[],false⟩ (.node 171 ⟨.ptr 156,1,8,[.nilP],false⟩ .leaf .leaf) (.node 193 ⟨.struct [(0,192)],0,0,[],false⟩ .leaf .leaf))) (.node 200 ⟨.int .i32,1,4,[.int .i32 0],false⟩ (.node 198 ⟨.func,1,8,[.nilF],false⟩ (.node 197 ⟨.int .u8,1,1,[.int .u8 0],false⟩ .leaf .leaf) (.node 199 ⟨.ptr 5,1,8,[.nilP],false⟩ .leaf .leaf)) (.node 202 ⟨.struct [(0,12),(1,12),(2,114),(3,196),(4,5),(5,5),(6,197),(7,198),(8,199),(9,200),(10,201)],11,48,zro0,false⟩ (.node 201 ⟨.int .i32,1,4,[.int .i32 0],false⟩ .leaf .leaf) (.node 203 ⟨.struct [(0,12),(1,12),(2,114),(3,196),(4,5),(5,5),(6,197),(7,198),(8,199),(9,200),(10,201)],11,48,zro0,false⟩ .leaf .leaf)))))
def qne:BT CMode:=.node 127 (.scal) (.node 21 (.pown) .leaf .leaf) .leaf
def qqB:BT (BT (List Nat)):=.leaf
def qcH{α:Type}(a b:Nat)(t:BT (BT α)):Option α:=match t.look a with|some u=>u.look b|none=>none
def qnr(f r k:Nat):Bool:=match qcH f r qqB with|some l=>yd k l|none=>false
def qng:BT (BT (List Tmp×List Tmp)):=.leaf
def qqP:BT (BT (List Tmp)):=.leaf
def qni:BT (BT (List (Tmp×Nat))):=.node 21 (.node 0 ([(2,4)]) .leaf .leaf) .leaf .leaf
def yx(f:Nat):List (Nat×(List AV->AH->Option (AV×AH)))->Option (List AV->AH->Option (AV×AH))
 |[]=>none
 |p::l=>if qFY p.1 f then some p.2 else yx f l
def qq2:BT TypeId:=.leaf
def qkw:BT (List (Nat×Nat×Nat)):=.leaf
def qkx:BT Nat:=.leaf
def qpA:BT (List BSh):=.leaf
def qp4:BT Unit:=.leaf
def qe0:List (Nat×(List AV->AH->Option (AV×AH))):=[]
def qdu:List (Nat×(List AV->AH->Option (AV×AH))):=(127,qdv)::qe0
theorem qfQ:qe0=[]:=rfl
def qkD:BT Unit:=.node 21 (()) .leaf .leaf
def qqN:BT Unit:=.node 45 (()) (.node 27 (()) (.node 24 (()) (.node 22 (()) .leaf .leaf) .leaf) (.node 36 (()) (.node 29 (()) .leaf .leaf) .leaf)) (.node 127 (()) (.node 123 (()) (.node 49 (()) .leaf .leaf) .leaf) (.node 167 (()) (.node 154 (()) .leaf .leaf) .leaf))
def qq5:BT Unit:=.node 127 (()) (.node 29 (()) .leaf .leaf) .leaf
def qo4:BT Unit:=.node 118 (()) .leaf .leaf
def qqM:BT Unit:=.node 22 (()) .leaf .leaf
def qpp:BT (List Nat):=.node 102 ([49,4]) (.node 67 ([24,4]) (.node 40 ([24,4,30]) (.node 31 ([29,30]) .leaf .leaf) (.node 46 ([45,30]) .leaf .leaf)) (.node 78 ([3,4]) (.node 71 ([3,24,30]) .leaf .leaf) (.node 95 ([45,4]) .leaf .leaf))) (.node 129 ([24,30]) (.node 119 ([22,4]) (.node 108 ([3,107]) .leaf .leaf) (.node 124 ([123,4]) .leaf .leaf)) (.node 160 ([3,3]) (.node 150 ([118,4]) .leaf .leaf) (.node 187 ([116,116]) .leaf .leaf)))
def qad:List (Nat×Func):=[]
def cfg:Cfg:={ P:=Tryz.prog,ty:=λt=>qfl.look t,mode:=λf=>match qne.look f with|some m=>m|none=>.imp,frz:=λf r k=>qnr f r k,mask:=λf r=>qcH f r qng,cut:=λf r=>qcH f r qqP,tup:=λt=>qpp.look t,ext:=λf=>yx f qdu,known:=λf=>(qkD.look f).isSome,dat:=λt=>(qqN.look t).isSome,inl:=λf=>yw f qad,lift:=λf r=>match qcH f r qni with|some l=>l|none=>[],ems:=λt=>(qqM.look t).isSome,ali:=λt=>(qq5.look t).isSome,wrt:=λt=>(qo4.look t).isSome,bld:=λt=>qq2.look t,olift:=λf=>match qkw.look f with|some l=>l|none=>[],shp:=λf=>match qpA.look f with|some l=>l|none=>[],okeep:=λf=>match qkx.look f with|some n=>n|none=>0,nsp:=λf=>(qp4.look f).isSome }
instance inl_ok:InlOk cfg:=InlOk.of qad (λ_=>rfl) trivial
end Go.Proofs.YtgleolmhpmljhaaGreat.K
end
noncomputable section
namespace Go.Proofs.YtgleolmhpmljhaaGreat
open Go.Av
def qfl:BT TI:=K.qfl
def qne:BT CMode:=.node 83 (.pfrz) (.node 43 (.pfrz) (.node 26 (.scal) (.node 16 (.pown) (.node 9 (.scal) (.node 6 (.pfrz) (.node 5 (.scal) (.node 3 (.scal) .leaf .leaf) .leaf) (.node 7 (.pfrz) .leaf .leaf)) (.node 12 (.scal) (.node 11 (.scal) .leaf .leaf) (.node 15 (.scal) .leaf .leaf))) (.node 21 (.pfrz) (.node 19 (.scal) (.node 18 (.scal) (.node 17 (.pfrz) .leaf .leaf) .leaf) (.node 20 (.scal) .leaf .leaf)) (.node 24 (.scal) (.node 22 (.ifrz) .leaf .leaf) (.node 25 (.scal) .leaf .leaf)))) (.node 35 (.pfrz) (.node 31 (.scal) (.node 29 (.scal) (.node 28 (.inpl) (.node 27 (.scal) .leaf .leaf) .leaf) (.node 30 (.inpl) .leaf .leaf)) (.node 33 (.pfrz) (.node 32 (.pfrz) .leaf .leaf) (.node 34 (.pfrz) .leaf .leaf))) (.node 39 (.pfrz) (.node 37 (.pfrz) (.node 36 (.scal) .leaf .leaf) (.node 38 (.pfrz) .leaf .leaf)) (.node 41 (.pfrz) (.node 40 (.pfrz) .leaf .leaf) (.node 42 (.scal) .leaf .leaf))))) (.node 64 (.scal) (.node 56 (.inpl) (.node 51 (.pfrz) (.node 49 (.scal) (.node 46 (.scal) (.node 45 (.scal) .leaf .leaf) .leaf) (.node 50 (.pown) .leaf .leaf)) (.node 53 (.scal) (.node 52 (.pfrz) .leaf .leaf) (.node 55 (.scal) .leaf .leaf))) (.node 60 (.scal) (.node 58 (.scal) (.node 57 (.scal) .leaf .leaf) (.node 59 (.scal) .leaf .leaf)) (.node 62 (.scal) (.node 61 (.inpl) .leaf .leaf) (.node 63 (.scal) .leaf .leaf)))) (.node 73 (.scal) (.node 69 (.pfrz) (.node 67 (.scal) (.node 66 (.scal) (.node 65 (.scal) .leaf .leaf) .leaf) (.node 68 (.pown) .leaf .leaf)) (.node 71 (.scal) (.node 70 (.pfrz) .leaf .leaf) (.node 72 (.scal) .leaf .leaf))) (.node 77 (.pfrz) (.node 75 (.scal) (.node 74 (.scal) .leaf .leaf) (.node 76 (.scal) .leaf .leaf)) (.node 79 (.scal) (.node 78 (.scal) .leaf .leaf) (.node 81 (.scal) .leaf .leaf)))))) (.node 124 (.inpf) (.node 102 (.pfrz) (.node 93 (.inpf) (.node 89 (.inpl) (.node 87 (.scal) (.node 86 (.inpl) (.node 84 (.slf) .leaf .leaf) .leaf) (.node 88 (.inpl) .leaf .leaf)) (.node 91 (.scal) (.node 90 (.inpl) .leaf .leaf) (.node 92 (.inpl) .leaf .leaf))) (.node 98 (.scal) (.node 96 (.scal) (.node 95 (.inpf) (.node 94 (.inpf) .leaf .leaf) .leaf) (.node 97 (.scal) .leaf .leaf)) (.node 100 (.scal) (.node 99 (.scal) .leaf .leaf) (.node 101 (.pfrz) .leaf .leaf)))) (.node 116 (.scal) (.node 107 (.scal) (.node 105 (.scal) (.node 104 (.scal) (.node 103 (.pfrz) .leaf .leaf) .leaf) (.node 106 (.scal) .leaf .leaf)) (.node 110 (.scal) (.node 108 (.scal) .leaf .leaf) (.node 111 (.scal) .leaf .leaf))) (.node 120 (.inpl) (.node 118 (.pfrz) (.node 117 (.pfrz) .leaf .leaf) (.node 119 (.scal) .leaf .leaf)) (.node 122 (.inpl) (.node 121 (.inpl) .leaf .leaf) (.node 123 (.scal) .leaf .leaf))))) (.node 146 (.inpl) (.node 133 (.scal) (.node 129 (.scal) (.node 127 (.scal) (.node 126 (.inpf) (.node 125 (.inpf) .leaf .leaf) .leaf) (.node 128 (.scal) .leaf .leaf)) (.node 131 (.pfrz) (.node 130 (.scal) .leaf .leaf) (.node 132 (.scal) .leaf .leaf))) (.node 142 (.scal) (.node 135 (.pfrz) (.node 134 (.pfrz) .leaf .leaf) (.node 141 (.scal) .leaf .leaf)) (.node 144 (.scal) (.node 143 (.inpl) .leaf .leaf) (.node 145 (.scal) .leaf .leaf)))) (.node 166 (.scal) (.node 162 (.scal) (.node 149 (.scal) (.node 148 (.scal) (.node 147 (.inpf) .leaf .leaf) .leaf) (.node 150 (.scal) .leaf .leaf)) (.node 164 (.pfrz) (.node 163 (.scal) .leaf .leaf) (.node 165 (.inpl) .leaf .leaf))) (.node 174 (.scal) (.node 172 (.scal) (.node 167 (.scal) .leaf .leaf) (.node 173 (.scal) .leaf .leaf)) (.node 176 (.scal) (.node 175 (.scal) .leaf .leaf) (.node 182 (.pfrz) .leaf .leaf))))))
def qqB:BT (BT (List Nat)):=.node 12 (.node 4 ([3,6,8]) (.node 2 ([3,5]) .leaf .leaf) (.node 5 ([46]) .leaf .leaf)) (.node 8 (.node 19 ([2,4]) (.node 18 ([1]) .leaf .leaf) .leaf) (.node 7 (.node 25 ([3]) .leaf .leaf) .leaf .leaf) .leaf) (.node 77 (.node 5 ([6]) .leaf .leaf) (.node 38 (.node 6 ([1]) (.node 5 ([8,10]) .leaf .leaf) .leaf) .leaf .leaf) .leaf)
def qcH{α:Type}(a b:Nat)(t:BT (BT α)):Option α:=match t.look a with|some u=>u.look b|none=>none
def qnr(f r k:Nat):Bool:=match qcH f r qqB with|some l=>yd k l|none=>false
def qng:BT (BT (List Tmp×List Tmp)):=.node 83 (.node 14 ([2,4,5,73,74,77,78,79],[2,3,4,5,73,74]) (.node 11 ([2,4,5,73,74],[2,3,4]) .leaf .leaf) .leaf) (.node 35 (.node 7 ([0,1,5,6,7,8],[0,1,5,6,7]) (.node 3 ([0,1,5,6],[5]) .leaf .leaf) (.node 11 ([0,1,5,6,7,9],[0,1,5,6,7,9]) .leaf .leaf)) (.node 19 (.node 2 ([0,1,7,8],[4]) .leaf .leaf) (.node 9 (.node 4 ([2,3,5],[4]) .leaf .leaf) (.node 7 (.node 9 ([1,4,8,9,32,33,34],[4,5,8,9]) .leaf .leaf) (.node 5 (.node 2 ([0,3],[2]) .leaf .leaf) (.node 3 (.node 13 ([2,5,6,11],[2,5]) (.node 9 ([2,5,6,10],[2,5,6]) .leaf .leaf) (.node 16 ([2,5,6,11,12],[2,5,6,11]) .leaf .leaf)) .leaf .leaf) .leaf) (.node 8 (.node 9 ([1,4,6,8,9,10],[4,5,8,9]) .leaf .leaf) .leaf .leaf)) (.node 17 (.node 5 ([4,16,17,18],[4]) .leaf .leaf) (.node 16 (.node 3 ([0,3,4],[3]) .leaf .leaf) (.node 10 (.node 2 ([1,2],[]) .leaf .leaf) .leaf .leaf) .leaf) (.node 18 (.node 5 ([2],[2]) .leaf .leaf) .leaf .leaf))) (.node 31 (.node 9 ([5,6,70,71],[5]) (.node 2 ([5],[4]) .leaf .leaf) .leaf) (.node 29 (.node 1 ([2,3],[4]) .leaf .leaf) (.node 23 (.node 5 ([0,1,5,6],[0,5]) .leaf .leaf) (.node 22 (.node 7 ([3,5,10,11,12,16,17,18],[3,5,10,11,12]) (.node 4 ([3,10,11,12],[3]) .leaf .leaf) .leaf) .leaf .leaf) .leaf) (.node 30 (.node 9 ([0,1,5,6,7],[0,5]) (.node 4 ([0,1,5],[0,4]) .leaf .leaf) .leaf) .leaf .leaf)) (.node 33 (.node 12 ([4,5,6,7],[4,6]) .leaf .leaf) (.node 32 (.node 6 ([5,7],[5]) .leaf .leaf) .leaf .leaf) (.node 34 (.node 7 ([0,3,4,5,6],[0,3,4,5]) (.node 3 ([0,3,4],[3]) .leaf .leaf) (.node 14 ([0,3,4,8],[0,3,4,8]) .leaf .leaf)) .leaf .leaf)))) (.node 65 (.node 3 ([3,6,7,8],[2,3]) .leaf .leaf) (.node 52 (.node 3 ([3,6,7,8],[3]) .leaf .leaf) (.node 49 (.node 5 ([1,2,5,6],[5]) .leaf .leaf) (.node 38 (.node 3 ([0,2,3,4],[2,3]) .leaf .leaf) (.node 36 (.node 4 ([0,1,5],[4]) .leaf .leaf) .leaf .leaf) .leaf) (.node 50 (.node 7 ([2,3,4],[2,3,4,5]) .leaf .leaf) .leaf .leaf)) (.node 59 (.node 2 ([0,1,7,8],[4]) .leaf .leaf) (.node 55 (.node 5 ([4,32,33,34],[2,3,4]) .leaf .leaf) .leaf .leaf) (.node 61 (.node 2 ([0,1,2,3,4,10,11],[]) .leaf .leaf) .leaf .leaf))) (.node 76 (.node 4 ([2,3,5],[4]) .leaf .leaf) (.node 70 (.node 3 ([0,3,4],[3]) .leaf .leaf) (.node 69 (.node 3 ([1,2,3,4],[1,2,3]) .leaf .leaf) (.node 68 (.node 6 ([4,6,7],[2,3,6]) .leaf .leaf) .leaf .leaf) .leaf) (.node 73 (.node 6 ([2,3,5],[4]) .leaf .leaf) .leaf .leaf)) (.node 78 (.node 2 ([0,1,2,11,12,13],[0,1,6]) .leaf .leaf) (.node 77 (.node 3 ([0,2,3,4],[2,3]) .leaf .leaf) .leaf .leaf) (.node 79 (.node 4 ([2,3],[2,3]) .leaf .leaf) .leaf .leaf))))) (.node 117 (.node 11 ([3,7,29],[7]) (.node 6 ([3],[3]) .leaf .leaf) .leaf) (.node 93 (.node 14 ([0,1,2,3,9,10,11],[0,1,2,3,9,10]) (.node 5 ([0,1,2,3,9,10],[0,1,2,3,9,10]) (.node 3 ([0,1,2,3,9,10],[8]) .leaf .leaf) .leaf) (.node 20 ([0,1,2,3,9,10,12],[0,1,2,3,9,10]) .leaf .leaf)) (.node 88 (.node 4 ([0,1,2,3,8,9],[0,1,2,3,8]) (.node 1 ([0,1,2,3,8],[]) .leaf .leaf) .leaf) (.node 86 (.node 7 ([0,1,2,6],[]) (.node 2 ([0,1,2,6,7,8],[0,1,2,6,7]) .leaf .leaf) (.node 9 ([0,1,2,6,7,8],[0,1,2,6,7]) .leaf .leaf)) (.node 85 (.node 1 ([0,3],[]) .leaf .leaf) (.node 84 (.node 6 ([1,2,3,4,18,19,20],[2,3,4]) .leaf .leaf) .leaf .leaf) .leaf) (.node 87 (.node 4 ([1,2,15,16,17],[6]) .leaf .leaf) .leaf .leaf)) (.node 90 (.node 5 ([0,1,8,9,10,11],[]) .leaf .leaf) (.node 89 (.node 8 ([0,3,8,9,12],[]) (.node 4 ([0,3,8,9,10,11],[0,3,8,9,10]) .leaf .leaf) .leaf) .leaf .leaf) (.node 92 (.node 2 ([0,8,9],[]) .leaf .leaf) .leaf .leaf))) (.node 104 (.node 5 ([3,4],[2]) .leaf .leaf) (.node 101 (.node 2 ([1,4],[1,4]) .leaf .leaf) (.node 95 (.node 13 ([0,1,4,12,13],[0,1,4,12,13]) (.node 5 ([0,1,4,12,13],[0,1,4,12,13]) (.node 3 ([0,1,4,12,13],[0,1,4,12,13]) .leaf .leaf) .leaf) (.node 15 ([0,1,4,12,13],[0,1,4,12,13]) .leaf .leaf)) (.node 94 (.node 5 ([0,1,4,11,12],[0,1,4,11,12]) (.node 3 ([0,1,4,11,12],[0,1,4,11,12]) .leaf .leaf) .leaf) .leaf .leaf) .leaf) (.node 103 (.node 6 ([1,7,8],[1]) .leaf .leaf) .leaf .leaf)) (.node 108 (.node 3 ([0,1,5,6],[5]) .leaf .leaf) (.node 105 (.node 4 ([0,1,5],[4]) .leaf .leaf) .leaf .leaf) (.node 115 (.node 0 ([0,1,2],[1,2]) .leaf .leaf) .leaf .leaf)))) (.node 134 (.node 2 ([0,1,5],[0,1,5]) .leaf .leaf) (.node 128 (.node 4 ([1,3],[2]) .leaf .leaf) (.node 121 (.node 15 ([0,2,4,14,15],[0,2,14]) (.node 9 ([0,10,13],[]) (.node 3 ([0,1,4,10,11],[0,1,10]) .leaf .leaf) .leaf) (.node 33 ([0,1,2,3,4,18,19,20,21,22],[0,1,2,3,4,18,19,20]) (.node 21 ([0,14,17],[]) .leaf .leaf) .leaf)) (.node 120 (.node 4 ([0,1,2,3,8,9],[0,1,2,3,8]) (.node 1 ([0,1,2,3,8],[]) .leaf .leaf) .leaf) (.node 118 (.node 5 ([4],[4,5]) .leaf .leaf) .leaf .leaf) .leaf) (.node 122 (.node 1 ([0,2,3,4,10],[]) .leaf .leaf) .leaf .leaf)) (.node 132 (.node 2 ([0,1,5],[4]) .leaf .leaf) (.node 129 (.node 6 ([1,3,4],[3]) .leaf .leaf) .leaf .leaf) (.node 133 (.node 5 ([1,4,5],[2,3,4]) .leaf .leaf) .leaf .leaf))) (.node 172 (.node 2 ([0,1,7,8],[4]) .leaf .leaf) (.node 151 (.node 1 ([0,1,3],[]) .leaf .leaf) (.node 146 (.node 2 ([0,2,4,10,11],[0,2,4,10]) .leaf .leaf) (.node 136 (.node 7 ([3],[0,3]) (.node 1 ([0,3],[]) .leaf .leaf) .leaf) .leaf .leaf) .leaf) (.node 165 (.node 1 ([0,1,2,3,10],[]) .leaf .leaf) .leaf .leaf)) (.node 175 (.node 2 ([0,1,5],[4]) .leaf .leaf) (.node 174 (.node 2 ([0,1,5],[4]) .leaf .leaf) .leaf .leaf) (.node 176 (.node 3 ([1,5,6],[4]) .leaf .leaf) .leaf .leaf)))))
def qqP:BT (BT (List Tmp)):=.node 134 (.node 6 ([0,1,5]) (.node 4 ([0,1,5]) .leaf .leaf) .leaf) .leaf .leaf
def qni:BT (BT (List (Tmp×Nat))):=.node 52 (.node 3 ([(3,4)]) .leaf .leaf) (.node 31 (.node 9 ([(5,8)]) (.node 2 ([(5,8)]) .leaf .leaf) .leaf) (.node 16 (.node 3 ([(3,4)]) (.node 0 ([(2,4)]) .leaf .leaf) .leaf) (.node 8 (.node 9 ([(8,4),(9,2)]) .leaf .leaf) (.node 7 (.node 9 ([(8,4),(9,2)]) .leaf .leaf) .leaf .leaf) .leaf) (.node 22 (.node 7 ([(3,2),(16,2)]) (.node 4 ([(3,2)]) .leaf .leaf) .leaf) .leaf .leaf)) (.node 38 (.node 3 ([(3,4)]) .leaf .leaf) (.node 35 (.node 7 ([(5,4)]) (.node 3 ([(5,4)]) .leaf .leaf) (.node 11 ([(5,4)]) .leaf .leaf)) (.node 34 (.node 7 ([(3,2)]) (.node 3 ([(3,2)]) .leaf .leaf) (.node 14 ([(3,2)]) .leaf .leaf)) .leaf .leaf) .leaf) (.node 50 (.node 7 ([(2,6),(4,6)]) (.node 0 ([(2,6)]) .leaf .leaf) .leaf) .leaf .leaf))) (.node 101 (.node 2 ([(4,4)]) .leaf .leaf) (.node 70 (.node 3 ([(3,4)]) .leaf .leaf) (.node 69 (.node 3 ([(3,4)]) .leaf .leaf) (.node 68 (.node 6 ([(6,6)]) (.node 0 ([(2,6)]) .leaf .leaf) .leaf) .leaf .leaf) .leaf) (.node 85 (.node 1 ([(3,4)]) .leaf .leaf) .leaf .leaf)) (.node 118 (.node 5 ([(4,4)]) .leaf .leaf) (.node 117 (.node 11 ([(7,1)]) .leaf .leaf) .leaf .leaf) (.node 136 (.node 7 ([(3,4)]) (.node 1 ([(3,4)]) .leaf .leaf) .leaf) .leaf .leaf)))
def yx(f:Nat):List (Nat×(List AV->AH->Option (AV×AH)))->Option (List AV->AH->Option (AV×AH))
 |[]=>none
 |p::l=>if qFY p.1 f then some p.2 else yx f l
def qq2:BT TypeId:=.leaf
def qkw:BT (List (Nat×Nat×Nat)):=.leaf
def qkx:BT Nat:=.leaf
def qpA:BT (List BSh):=.leaf
def qp4:BT Unit:=.leaf
def qe0:List (Nat×(List AV->AH->Option (AV×AH))):=[(21,qbs (EV K.cfg (.f 21)))]
def qdu:List (Nat×(List AV->AH->Option (AV×AH))):=(127,qdv)::qe0
theorem qfQ:qe0=[(21,qbs (EV K.cfg (.f 21)))]:=rfl
def qkD:BT Unit:=.node 84 (()) (.node 43 (()) (.node 25 (()) (.node 15 (()) (.node 8 (()) (.node 6 (()) (.node 5 (()) (.node 3 (()) .leaf .leaf) .leaf) (.node 7 (()) .leaf .leaf)) (.node 11 (()) (.node 10 (()) (.node 9 (()) .leaf .leaf) .leaf) (.node 12 (()) .leaf .leaf))) (.node 20 (()) (.node 18 (()) (.node 17 (()) (.node 16 (()) .leaf .leaf) .leaf) (.node 19 (()) .leaf .leaf)) (.node 23 (()) (.node 22 (()) .leaf .leaf) (.node 24 (()) .leaf .leaf)))) (.node 34 (()) (.node 30 (()) (.node 28 (()) (.node 27 (()) (.node 26 (()) .leaf .leaf) .leaf) (.node 29 (()) .leaf .leaf)) (.node 32 (()) (.node 31 (()) .leaf .leaf) (.node 33 (()) .leaf .leaf))) (.node 39 (()) (.node 37 (()) (.node 36 (()) (.node 35 (()) .leaf .leaf) .leaf) (.node 38 (()) .leaf .leaf)) (.node 41 (()) (.node 40 (()) .leaf .leaf) (.node 42 (()) .leaf .leaf))))) (.node 65 (()) (.node 56 (()) (.node 51 (()) (.node 49 (()) (.node 46 (()) (.node 45 (()) .leaf .leaf) .leaf) (.node 50 (()) .leaf .leaf)) (.node 54 (()) (.node 53 (()) (.node 52 (()) .leaf .leaf) .leaf) (.node 55 (()) .leaf .leaf))) (.node 61 (()) (.node 59 (()) (.node 58 (()) (.node 57 (()) .leaf .leaf) .leaf) (.node 60 (()) .leaf .leaf)) (.node 63 (()) (.node 62 (()) .leaf .leaf) (.node 64 (()) .leaf .leaf)))) (.node 74 (()) (.node 70 (()) (.node 68 (()) (.node 67 (()) (.node 66 (()) .leaf .leaf) .leaf) (.node 69 (()) .leaf .leaf)) (.node 72 (()) (.node 71 (()) .leaf .leaf) (.node 73 (()) .leaf .leaf))) (.node 79 (()) (.node 77 (()) (.node 76 (()) (.node 75 (()) .leaf .leaf) .leaf) (.node 78 (()) .leaf .leaf)) (.node 82 (()) (.node 81 (()) .leaf .leaf) (.node 83 (()) .leaf .leaf)))))) (.node 124 (()) (.node 103 (()) (.node 94 (()) (.node 89 (()) (.node 87 (()) (.node 86 (()) (.node 85 (()) .leaf .leaf) .leaf) (.node 88 (()) .leaf .leaf)) (.node 92 (()) (.node 91 (()) (.node 90 (()) .leaf .leaf) .leaf) (.node 93 (()) .leaf .leaf))) (.node 99 (()) (.node 97 (()) (.node 96 (()) (.node 95 (()) .leaf .leaf) .leaf) (.node 98 (()) .leaf .leaf)) (.node 101 (()) (.node 100 (()) .leaf .leaf) (.node 102 (()) .leaf .leaf)))) (.node 115 (()) (.node 108 (()) (.node 106 (()) (.node 105 (()) (.node 104 (()) .leaf .leaf) .leaf) (.node 107 (()) .leaf .leaf)) (.node 110 (()) (.node 109 (()) .leaf .leaf) (.node 111 (()) .leaf .leaf))) (.node 120 (()) (.node 118 (()) (.node 117 (()) (.node 116 (()) .leaf .leaf) .leaf) (.node 119 (()) .leaf .leaf)) (.node 122 (()) (.node 121 (()) .leaf .leaf) (.node 123 (()) .leaf .leaf))))) (.node 146 (()) (.node 134 (()) (.node 130 (()) (.node 128 (()) (.node 126 (()) (.node 125 (()) .leaf .leaf) .leaf) (.node 129 (()) .leaf .leaf)) (.node 132 (()) (.node 131 (()) .leaf .leaf) (.node 133 (()) .leaf .leaf))) (.node 142 (()) (.node 137 (()) (.node 136 (()) (.node 135 (()) .leaf .leaf) .leaf) (.node 141 (()) .leaf .leaf)) (.node 144 (()) (.node 143 (()) .leaf .leaf) (.node 145 (()) .leaf .leaf)))) (.node 165 (()) (.node 151 (()) (.node 149 (()) (.node 148 (()) (.node 147 (()) .leaf .leaf) .leaf) (.node 150 (()) .leaf .leaf)) (.node 163 (()) (.node 162 (()) .leaf .leaf) (.node 164 (()) .leaf .leaf))) (.node 174 (()) (.node 172 (()) (.node 167 (()) (.node 166 (()) .leaf .leaf) .leaf) (.node 173 (()) .leaf .leaf)) (.node 176 (()) (.node 175 (()) .leaf .leaf) (.node 182 (()) .leaf .leaf))))))
def qqN:BT Unit:=.node 45 (()) (.node 27 (()) (.node 24 (()) (.node 22 (()) .leaf .leaf) .leaf) (.node 36 (()) (.node 29 (()) .leaf .leaf) .leaf)) (.node 127 (()) (.node 123 (()) (.node 49 (()) .leaf .leaf) .leaf) (.node 167 (()) (.node 154 (()) .leaf .leaf) .leaf))
def qq5:BT Unit:=.node 127 (()) (.node 36 (()) .leaf .leaf) .leaf
def qo4:BT Unit:=.node 118 (()) .leaf .leaf
def qqM:BT Unit:=.leaf
def qpp:BT (List Nat):=.node 102 ([49,4]) (.node 67 ([24,4]) (.node 40 ([24,4,30]) (.node 31 ([29,30]) .leaf .leaf) (.node 46 ([45,30]) .leaf .leaf)) (.node 78 ([3,4]) (.node 71 ([3,24,30]) .leaf .leaf) (.node 95 ([45,4]) .leaf .leaf))) (.node 129 ([24,30]) (.node 119 ([22,4]) (.node 108 ([3,107]) .leaf .leaf) (.node 124 ([123,4]) .leaf .leaf)) (.node 160 ([3,3]) (.node 150 ([118,4]) .leaf .leaf) (.node 187 ([116,116]) .leaf .leaf)))
def qad:List (Nat×Func):=[(22,Tryz.f22),(23,Tryz.f23),(54,Tryz.f54),(82,Tryz.f82),(85,Tryz.f85),(109,Tryz.f109),(115,Tryz.f115),(136,Tryz.f136),(137,Tryz.f137),(151,Tryz.f151)]
def cfg:Cfg:={ P:=Tryz.prog,ty:=λt=>qfl.look t,mode:=λf=>match qne.look f with|some m=>m|none=>.imp,frz:=λf r k=>qnr f r k,mask:=λf r=>qcH f r qng,cut:=λf r=>qcH f r qqP,tup:=λt=>qpp.look t,ext:=λf=>yx f qdu,known:=λf=>(qkD.look f).isSome,dat:=λt=>(qqN.look t).isSome,inl:=λf=>yw f qad,lift:=λf r=>match qcH f r qni with|some l=>l|none=>[],ems:=λt=>(qqM.look t).isSome,ali:=λt=>(qq5.look t).isSome,wrt:=λt=>(qo4.look t).isSome,bld:=λt=>qq2.look t,olift:=λf=>match qkw.look f with|some l=>l|none=>[],shp:=λf=>match qpA.look f with|some l=>l|none=>[],okeep:=λf=>match qkx.look f with|some n=>n|none=>0,nsp:=λf=>(qp4.look f).isSome }
instance inl_ok:InlOk cfg:=InlOk.of qad (λ_=>rfl) ⟨⟨rfl,rfl,Tryz.func22,rfl⟩,⟨⟨rfl,rfl,Tryz.func23,rfl⟩,⟨⟨rfl,rfl,Tryz.func54,rfl⟩,⟨⟨rfl,rfl,Tryz.func82,rfl⟩,⟨⟨rfl,rfl,Tryz.func85,rfl⟩,⟨⟨rfl,rfl,Tryz.func109,rfl⟩,⟨⟨rfl,rfl,Tryz.func115,rfl⟩,⟨⟨rfl,rfl,Tryz.func136,rfl⟩,⟨⟨rfl,rfl,Tryz.func137,rfl⟩,⟨⟨rfl,rfl,Tryz.func151,rfl⟩,trivial⟩⟩⟩⟩⟩⟩⟩⟩⟩⟩
end Go.Proofs.YtgleolmhpmljhaaGreat
end
noncomputable section
namespace Go.Av
def cmpS(a b:List UInt8):Int:=if a==b then 0 else if Op.bytesLess a b then -1 else 1
theorem qd4:∀a b:List UInt8,Lib.compareBytes a b=cmpS a b
 |[],[]=>rfl
 |[],_::_=>by simp[Lib.compareBytes,cmpS,Op.bytesLess]
 |_::_,[]=>by simp[Lib.compareBytes,cmpS,Op.bytesLess]
 |a::l,b::m=>by
  rw[Lib.compareBytes,qd4 l m];unfold cmpS
  by_cases h:a=b
  ·subst h;have:¬a<a:=by simp
   by_cases h2:l=m
   ·subst h2;simp
   ·simp[Op.bytesLess,h2]
  ·have h':(a::l==b::m)=false:=by simp[h]
   rw[h'];simp only[qF5,if_false,Op.bytesLess]
   by_cases hlt:a<b
   ·simp[hlt]
   ·have:b<a:=by
     have h1:¬a.toNat<b.toNat:=hlt;have h2:a.toNat≠b.toNat:=λe=>h (UInt8.toNat.inj e)
     show b.toNat<a.toNat;omega
    simp[hlt,this,h]
theorem qqF [Lent] {P:Program} {f:FuncId} {fn:Func} (hf:P.funcs[f]? =some fn) (hn:(fn.name== "runtime.NumGoroutine")=false) (hb:fn.body.isNone=true) (hx:Extern.findNext fn=none)
  (he:Extern.find fn=some Extern.BytealgCompare.compare) {args:List AV} {H H':AH} {r:AV} (hr:qdv args H=some (r,H')) {C:qk} {μ:MMap} {w:World} {vs:Array Value} (ha:qy C μ args vs) (hw:Wld C μ H w):
  vB P (callFunc f vs) w (vY C μ H w r H'):=by
 unfold qdv at hr;split at hr
 ·rename_i H0 a b;cases hr;obtain⟨hl,hv⟩:=ha;obtain⟨x,y,rfl⟩:∃x y,vs= #[x,y]:=by
   obtain⟨l⟩:=vs
   match l,hl with
   |[x,y],_=>exact⟨x,y,rfl⟩
  have h0:=hv 0 _ _ rfl rfl;have h1:=hv 1 _ _ rfl rfl;cases h0;cases h1;have hrun:(callFunc f #[.string ⟨a.toArray⟩,.string ⟨b.toArray⟩]).run P w= .ok (.value (.int .i64 (cmpS a b))) w:=by
   unfold callFunc;simp only[Sem.run_bind,run_program,Result.andThen_ok,hf,hn,hb,qF5,if_false,if_true,run_mark,hx,he,Lib.run_compareString,Sem.run_pure];rw[qd4]
  unfold vB;rw[hrun];exact⟨C,μ,.int _ _,hw,Ext.refl (qFH _)⟩
 ·cases hr
end Go.Av
namespace Go.Proofs.YtgleolmhpmljhaaGreat
open Go.Av
theorem qha:qfl.All λt ti=>tiOf Tryz.prog t=some ti:=by
 unfold qfl
 repeat (first|exact trivial|refine BT.all_node (by show tiOf Tryz.prog _=_;kernel_rfl) ?_ ?_)
theorem qyy:Tryz.prog.funcs.toList.all (λfn=> !(fn.name== "runtime.NumGoroutine"))=true:=by kernel_rfl
theorem qdo:Tryz.prog.follows .mixedOrders=true:=by kernel_rfl
end Go.Proofs.YtgleolmhpmljhaaGreat
end
noncomputable section
namespace Go.Av
abbrev Rz:=List (List AV)
abbrev Bz:=List UInt8
inductive Tm where
 |mk (k n:Int) (s:List UInt8) (l:List Tm)
 deriving Inhabited
namespace Tm
def kind:Tm->Int|mk k _ _ _=>k
def num:Tm->Int|mk _ n _ _=>n
def str:Tm->List UInt8|mk _ _ s _=>s
def subs:Tm->List Tm|mk _ _ _ l=>l
end Tm
mutual
def Tm.cells:Tm->List AV
 | .mk k n s l=>[.int .i64 k,.int .i64 n,.str s,.sl (qa l)]
def qa:List Tm->List (List AV)
 |[]=>[]
 |t::l=>t.cells::qa l
end
def Tm.av(t:Tm):AV:=.agg t.cells
theorem Tm.cells_mk(k n:Int)(s:List UInt8)(l:List Tm):(Tm.mk k n s l).cells=[.int .i64 k,.int .i64 n,.str s,.sl (qa l)]:=by rw[Tm.cells]
theorem Tm.av_mk(k n:Int)(s:List UInt8)(l:List Tm):(Tm.mk k n s l).av= .agg [.int .i64 k,.int .i64 n,.str s,.sl (qa l)]:=by rw[Tm.av,Tm.cells_mk]
theorem z6:∀l:List Tm,qa l=l.map Tm.cells
 |[]=>by rw[qa];rfl
 |t::l=>by rw[qa,z6 l];rfl
@[simp] theorem qb(l:List Tm):(qa l).length=l.length:=by rw[z6];simp
@[simp] theorem qO:qa []=[]:=by rw[qa]
theorem qF(t:Tm)(l:List Tm):qa (t::l)=t.cells::qa l:=by rw[qa]
theorem qW(a b:List Tm):qa (a++b)=qa a++qa b:=by simp[z6]
theorem zC(n:Nat)(a:List Tm):(qa a).take n=qa (a.take n):=by simp[z6,List.map_take]
theorem qln(n:Nat)(a:List Tm):(qa a).drop n=qa (a.drop n):=by simp[z6,List.map_drop]
theorem xy(l:List Tm)(i:Nat):(qa l)[i]? =(l[i]?).map Tm.cells:=by rw[z6];simp
theorem qfr{l:List Tm}{i:Nat}{k n:Int}{s:List UInt8}{l':List Tm}(h:l[i]? =some (.mk k n s l')):(qa l)[i]? =some [.int .i64 k,.int .i64 n,.str s,.sl (qa l')]:=by rw[xy,h,←Tm.cells_mk];rfl
theorem qhk(l:List Tm)(i:Nat)(t:Tm):(qa l).set i t.cells=qa (l.set i t):=by simp[z6,List.map_set]
theorem qvj(t:Tm):qK 0 t.cells=true:=by
 obtain⟨k,n,s,l⟩:=t;rw[Tm.cells_mk];rfl
theorem qlm(l:List Tm):qQ 0 (qa l)=true:=by
 induction l with
 |nil=>rw[qa];rfl
 |cons t l ih=>rw[qa,qQ,ih,qvj];rfl
mutual
/-- no list is longer than is counted here, no text -/
def Tm.Ok:Tm->Prop
 | .mk _ _ s l=>s.length<1099511627776∧l.length<1099511627776∧OkL l
def OkL:List Tm->Prop
 |[]=>True
 |t::l=>t.Ok∧OkL l
end
theorem qe7{l:List Tm}:OkL l↔∀t∈l,t.Ok:=by
 induction l with
 |nil=>simp[OkL]
 |cons t l ih=>simp[OkL,ih]
theorem Tm.Ok.len{k n:Int}{s:List UInt8}{l:List Tm}(h:(Tm.mk k n s l).Ok):l.length<1099511627776:=by rw[Tm.Ok]at h;exact h.2.1
theorem Tm.Ok.sub{k n:Int}{s:List UInt8}{l:List Tm}(h:(Tm.mk k n s l).Ok){t:Tm}(ht:t∈l):t.Ok:=by rw[Tm.Ok]at h;exact qe7.1 h.2.2 t ht
theorem OkL.get{l:List Tm}(h:OkL l){t:Tm}(ht:t∈l):t.Ok:=qe7.1 h t ht
theorem Tm.ind{P:Tm->Prop}(h:∀k n s l,(∀t∈l,P t)->P (.mk k n s l)):∀t,P t
 | .mk k n s l=>h k n s l (λt _=>Tm.ind h t)
theorem qo{x:Int}(h1: -9223372036854775808<=x)(h2:x<9223372036854775808):qFD .i64 x=x:=by
 simp[qFD,IntKind.bits,IntKind.signed];omega
theorem qN{i n:Nat}(h:i<n)(hn:n<1099511627776):qFD .i64 ((i:Int)+1)=((i+1:Nat):Int):=by
 rw[qo (by omega) (by omega)];rfl
theorem qv(i:Nat):qj 0 (i:Int)=true:=by simp[qj]
theorem qD(i n:Nat):qA (i:Int) (n:Int)=decide (i<n):=by simp[qA]
def kTmC{α:Type}(l:List AV)(k:Int->Int->List UInt8->List (List AV)->Option α):Option α:=
 ql l λc cs=>kInt .i64 c λn=>ql cs λc cs=>kInt .i64 c λm=>ql cs λc cs=>kStr c λs=>ql cs λc cs=>kSl c λA=>kNil cs (k n m s A)
def kTmV{α:Type}(v:AV)(k:Int->Int->List UInt8->List (List AV)->Option α):Option α:=kAgg v λcs=>kTmC cs k
theorem qY{α:Type}{l:List Tm}{i:Nat}{t:Tm}(h:l[i]? =some t)(k:List AV->Option α):kOpt (qFG (qa l) (qFQ (i:Int))) k=k t.cells:=by
 rw[qu,qFT,xy,h];rfl
variable {α : Type}
def ck4(m nn:Nat)(h:List (List AV))(i:Int)(K:List AV->Option α):Option α:=bif qj (0:Int) i&&qA i (↑nn:Int)then kOpt (qFG h (0+qFQ i)) fun(row:List AV)=>bif qFR m (qFI row)then K row else none else none
def rd4(nn:Nat)(h:List (List AV))(i:Int)(K:Int->Int->List UInt8->List (List AV)->Option α):Option α:=bif qj (0:Int) i&&qA i (↑nn:Int)then kOpt (qFG h (0+qFQ i)) fun(row:List AV)=>bif qFR 4 (qFI row)then kTmC (qFN 4 row) K else none else none
def rs4(R:List (List AV))(i:Int)(K:Int->Int->List UInt8->List (List AV)->Option α):Option α:=bif qj (0:Int) i&&qA i (↑(qFI R):Int)then kOpt (qFG R (qFQ i)) fun(row:List AV)=>bif qFY (qFI row) 4 then bif qFR 4 (qFI row)then kTmC (qFN 4 row) K else none else none else none
def rd2(nn:Nat)(h:List (List AV))(i:Int)(K:Int->List (List AV)->Option α):Option α:=bif qj (0:Int) i&&qA i (↑nn:Int)then kOpt (qFG h (0+qFQ i)) fun(row:List AV)=>bif qFR 2 (qFI row)then ql (qFN 2 row) fun(c:AV) (cs:List AV)=>kInt .i64 c fun(n:Int)=>ql cs fun(c:AV) (cs:List AV)=>kSl c fun(rows:List (List AV))=>kNil cs (K n rows)else none else none
def rs2(R:List (List AV))(i:Int)(K:Int->List (List AV)->Option α):Option α:=bif qj (0:Int) i&&qA i (↑(qFI R):Int)then kOpt (qFG R (qFQ i)) fun(row:List AV)=>bif qFY (qFI row) 2 then bif qFR 2 (qFI row)then ql (qFN 2 row) fun(c:AV) (cs:List AV)=>kInt .i64 c fun(n:Int)=>ql cs fun(c:AV) (cs:List AV)=>kSl c fun(rows:List (List AV))=>kNil cs (K n rows)else none else none else none
def st4(h:List (List AV))(i n m:Int)(s:List UInt8)(rs:List (List AV))(row:List AV):List (List AV):=List.set h (0+qFQ i) (.int .i64 n:: .int .i64 m:: .str s:: .sl rs::qGb 4 row)
mutual
def Tm.w:Tm->Nat
 | .mk _ _ s l=>1+s.length+wL l
def wL:List Tm->Nat
 |[]=>0
 |t::l=>t.w+wL l
end
theorem Tm.w_mk(k n:Int)(s:List UInt8)(l:List Tm):(Tm.mk k n s l).w=1+s.length+wL l:=by rw[Tm.w]
theorem Tm.w_eq(t:Tm):t.w=1+t.str.length+wL t.subs:=by cases t;rw[Tm.w_mk];rfl
@[simp] theorem xO:wL []=0:=by rw[wL]
@[simp] theorem vC(t:Tm)(l:List Tm):wL (t::l)=t.w+wL l:=by rw[wL]
@[simp] theorem ya(a b:List Tm):wL (a++b)=wL a+wL b:=by
 induction a with
 |nil=>simp
 |cons t l ih=>simp[ih];omega
theorem xW(t:Tm):1<=t.w:=by rw[Tm.w_eq];omega
theorem xF{t:Tm}{l:List Tm}(h:t∈l):t.w<=wL l:=by
 induction l with
 |nil=>cases h
 |cons x l ih=>
  rw[vC];rcases qF6.1 h with rfl|h
  ·omega
  ·have:=ih h;omega
theorem yf(l:List Tm):l.length<=wL l:=by
 induction l with
 |nil=>simp
 |cons x l ih=>have:=xW x;simp;omega
theorem x8(t:Tm):t.w<1099511627776->t.Ok:=by
 induction t using Tm.ind with
 |_ k n s l ih=>
  intro h;rw[Tm.w_mk]at h;rw[Tm.Ok];have:=yf l;exact⟨by omega,by omega,qe7.2 λt ht=>ih t ht (by have:=xF ht;omega)⟩
theorem qvA(l:List Tm):wL l.reverse=wL l:=by
 induction l with
 |nil=>rfl
 |cons x l ih=>simp[ih];omega
end Go.Av
end
noncomputable section
namespace Go.Proofs.YtgleolmhpmljhaaGreat
open Go.Av
def C0(W:World):qk:=λb o=>W.cell? ⟨b,o,none⟩
def M0:MMap:=λ_=>none
theorem wld0(W:World):Wld (C0 W) M0 [] W where
 cl:=λ_ _ _ h=>h
 dom:=λid m h=>by cases h
 res:=λid h=>by simp at h
 live:=λid b h=>by simp at h
 froz:=λid d sz rs h=>by simp at h
 inj:=λi i' b b' m m' h=>by simp at h
 free:=yL.nil
 lnt:=⟨λ_ _ _ h=>(by cases h),λh=>h.elim,λ_ _=>trivial⟩
structure TermTys (P:Program) (tT tL tI tS:TypeId):Prop where
 uT:∃f0 f1 f2 f3:Field,P.underlying tT=some (.struct #[f0,f1,f2,f3])∧f0.type=tI∧f0.offset=0∧f1.type=tI∧f1.offset=1∧f2.type=tS∧f2.offset=2∧f3.type=tL∧f3.offset=3
 uL:P.underlying tL=some (.slice tT)
 uI:P.underlying tI=some (.int .i64)
 uS:P.underlying tS=some .string
 cT:P.cellsOf tT=4
 cL:P.cellsOf tL=1
 cI:P.cellsOf tI=1
 cS:P.cellsOf tS=1
noncomputable section
variable {H : Type} {enc : TypeId × Value → H} {P : Program} {W : World} {tT tL tI tS : TypeId}
def qkR(W:World)(cs:List Value)(t:Tm):Prop:=cs.length=4∧∀(j:Nat) a v,t.cells[j]? =some a->cs[j]? =some v->a.isCell=true∧Rep (C0 W) M0 a v
theorem qet{base:Nat}{a:Addr}{n:Nat}{cs:List Value}(h:W.cells? base a n=some cs)(hn:0<n):a.spot=none∧cs.length=n∧∀(j:Nat) v,cs[j]? =some v->W.cell? ⟨a.block,a.off+j,none⟩=some v:=by
 unfold World.cells? at h;split at h
 ·have hl:cs.length=n:=by simpa using mapM_some_length h
  have hg:∀(j:Nat),j<n->W.cell? (a.add j)=cs[j]? :=λj hj=>mapM_some_get h j j (by simp[hj])
  have hsp:a.spot=none:=by
   have h0:=hg 0 hn;rw[qFE (by omega)]at h0;cases hs:a.spot with
   |none=>rfl
   |some s=>
    simp only[World.cell?,Addr.add,qGq,hs]at h0;split at h0
    ·simp at h0
    ·cases h0
  refine⟨hsp,hl,λj v hv=>?_⟩;have hj:j<n:=by rw[←hl];exact(qFF.1 hv).1
  have:=hg j hj;rw[hv]at this;rw[zf _ _ hsp]at this;exact this
 ·cases h
theorem qxd{H:Type}{d:DataW H}{l:List (DataW H)}(h:d∈l):Rows.uptoBulk d<=Rows.uptoBulkAll l:=by
 induction l with
 |nil=>cases h
 |cons x r ih=>
  simp only[Rows.uptoBulkAll];cases qF6.1 h with
  |inl e=>subst e;omega
  |inr e=>have:=ih e;omega
theorem qmC{H:Type}:∀(l:List Tm) (ds:List (DataW H)),l.length=ds.length->(∀(i:Nat) t d,l[i]? =some t->ds[i]? =some d->t.w<=Rows.uptoBulk d)->wL l<=Rows.uptoBulkAll ds
 |[],[],_,_=>by simp[Rows.uptoBulkAll]
 |t::l,d::ds,hl,h=>by
  have h0:=h 0 t d rfl rfl;have:=qmC l ds (by simpa using hl) (λi t d ht hd=>h (i+1) t d (by simpa using ht) (by simpa using hd));simp only[vC,Rows.uptoBulkAll];omega
theorem qwn(T:TermTys P tT tL tI tS):∀(n:Nat),
  (∀cs x,DataW.trod enc P W 0 (λ_=>true) true n tT cs=some x->∃t:Tm,qkR W cs t∧t.w<=Rows.uptoBulk x.1 ∧
   ∀(W':World) (sp:Nat->Bool),(∀p∈x.2,W.sameAt W' p)->(∀p∈x.2,sp p.block=true)->DataW.trod enc P W' 0 sp true n tT cs=some x) ∧
  (∀cs x,DataW.trod enc P W 0 (λ_=>true) true n tL cs=some x->∃(l:List Tm) (v:Value),cs=[v]∧Rep (C0 W) M0 (.sl (qa l)) v∧wL l<=Rows.uptoBulk x.1 ∧
   ∀(W':World) (sp:Nat->Bool),(∀p∈x.2,W.sameAt W' p)->(∀p∈x.2,sp p.block=true)->DataW.trod enc P W' 0 sp true n tL cs=some x):=by
 intro n
 induction n with
 |zero=>exact⟨λcs x h=>by simp[DataW.trod]at h,λcs x h=>by simp[DataW.trod]at h⟩
 |succ n ih=>
  obtain⟨ihT,ihL⟩:=ih;refine⟨λcs x h=>?_,λcs x h=>?_⟩
  ·obtain⟨f0,f1,f2,f3,hu,t0,o0,t1,o1,t2,o2,t3,o3⟩:=T.uT;obtain⟨xs,n',e,rfl,hl,hxl,hx⟩:=DataW.trod_struct hu h;obtain rfl:n'=n:=by omega
   rw[T.cT]at hl;obtain⟨c0,c1,c2,c3,rfl⟩:∃c0 c1 c2 c3,cs=[c0,c1,c2,c3]:=by
    match cs,hl with
    |[a,b,c,d],_=>exact⟨a,b,c,d,rfl⟩
   obtain⟨x0,x1,x2,x3,rfl⟩:∃c0 c1 c2 c3,xs=[c0,c1,c2,c3]:=by
    match xs,hxl with
    |[a,b,c,d],_=>exact⟨a,b,c,d,rfl⟩
   have h0:=hx 0 f0 rfl;have h1:=hx 1 f1 rfl;have h2:=hx 2 f2 rfl;have h3:=hx 3 f3 rfl;rw[t0,o0,T.cI]at h0;rw[t1,o1,T.cI]at h1;rw[t2,o2,T.cS]at h2;rw[t3,o3,T.cL]at h3;simp at h0 h1 h2 h3;obtain⟨k,e0,rfl,w0⟩:=DataW.trod_int T.uI h0;obtain⟨m,e1,rfl,w1⟩:=DataW.trod_int T.uI h1;obtain⟨s,e2,rfl,w2⟩:=DataW.trod_string T.uS h2;obtain⟨l,v,e3,hr,hb,hback⟩:=ihL _ _ h3;simp at e0 e1 e2 e3;subst e0 e1 e2 e3;refine⟨.mk k m s.data.toList l,⟨rfl,λj a u ha hu=>?_⟩,?_,λW' sp hs hp=>?_⟩
   ·rw[Tm.cells_mk]at ha
    match j,ha,hu with
    |0,ha,hu=>simp at ha hu;subst ha hu;exact⟨rfl,.int _ _⟩
    |1,ha,hu=>simp at ha hu;subst ha hu;exact⟨rfl,.int _ _⟩
    |2,ha,hu=>
     simp at ha hu;subst ha hu;refine⟨rfl,?_⟩;have:=Rep.str (C:=C0 W) (μ:=M0) s.data.toList
     simpa using this
    |3,ha,hu=>simp at ha hu;subst ha hu;exact⟨rfl,hr⟩
    |(j+4),ha,hu=>simp at ha
   ·simp only[List.map_cons,List.map_nil,Rows.uptoBulk,Rows.uptoBulkAll];rw[Tm.w_mk];omega
   ·have hs3:∀p∈x3.2,W.sameAt W' p:=λp hp=>hs p (by simp[hp])
    have hp3:∀p∈x3.2,sp p.block=true:=λp hpp=>hp p (by simp[hpp])
    have b3:=hback W' sp hs3 hp3;have b0:DataW.trod enc P W' 0 sp true n' tI [Value.int .i64 k]=some (.lit (.int .i64 k),[]):=by
     cases n' with
     |zero=>simp[DataW.trod]at h0
     |succ q=>simp[DataW.trod,T.uI,w0]
    have b1:DataW.trod enc P W' 0 sp true n' tI [Value.int .i64 m]=some (.lit (.int .i64 m),[]):=by
     cases n' with
     |zero=>simp[DataW.trod]at h0
     |succ q=>simp[DataW.trod,T.uI,w1]
    have b2:DataW.trod enc P W' 0 sp true n' tS [Value.string s]=some (.lit (.string s.data.toList),[]):=by
     cases n' with
     |zero=>simp[DataW.trod]at h0
     |succ q=>simp[DataW.trod,T.uS,w2]
    unfold DataW.trod;rw[hu];simp[T.cT,t0,o0,t1,o1,t2,o2,t3,o3,T.cI,T.cS,T.cL,b0,b1,b2,b3]
  ·rcases DataW.trod_slice T.uL h with⟨rfl,rfl⟩|⟨a,len,cap,elems,rest,n',e,rfl,rfl,hb,hlc,hmx,hel,hg,hsp,_⟩
   ·refine⟨[],_,rfl,by rw[qO];exact .slNil,by simp,λW' sp _ _=>?_⟩;simp[DataW.trod,T.uL]
   ·obtain rfl:n'=n:=by omega
    obtain⟨hrl,hrg⟩:=hsp rfl;have one:∀(i:Nat) (y:DataW H×List MemPlace),(W.cells? 0 (a.add (i*P.cellsOf tT)) (P.cellsOf tT)).bind (DataW.trod enc P W 0 (λ_=>true) true n' tT)=some y ->
      ∃cs',W.cells? 0 (a.add (i*4)) 4=some cs'∧DataW.trod enc P W 0 (λ_=>true) true n' tT cs'=some y:=by
     intro i y hy;rw[T.cT]at hy;exact qFL.1 hy
    -- the terms
    have tms:∃f:Nat->Tm,∀(i:Nat) y,elems[i]? =some y->∃cs',W.cells? 0 (a.add (i*4)) 4=some cs'∧qkR W cs' (f i)∧(f i).w<=Rows.uptoBulk y.1:=by
     have:∀i:Nat,∃t:Tm,∀y,elems[i]? =some y->∃cs',W.cells? 0 (a.add (i*4)) 4=some cs'∧qkR W cs' t∧t.w<=Rows.uptoBulk y.1:=by
      intro i;cases hy:elems[i]? with
      |none=>exact⟨default,λy h=>by cases h⟩
      |some y=>
       have hi:i<len:=by rw[←hel];exact(qFF.1 hy).1
       obtain⟨cs',h1,h2⟩:=one i y ((hg i hi).trans hy);obtain⟨t,h3,h4,_⟩:=ihT _ _ h2;exact⟨t,λy' hy'=>by cases hy';exact⟨cs',h1,h3,h4⟩⟩
     exact⟨λi=>Classical.choose (this i),λi=>Classical.choose_spec (this i)⟩
    obtain⟨f,hf⟩:=tms;have hget:∀(i:Nat) (row:List AV),(qa ((qGn len).map f))[i]? =some row->i<len∧row=(f i).cells:=by
     intro i row hi;have hil:i<len:=by have:=(qFF.1 hi).1;simpa using this
     refine⟨hil,?_⟩;rw[xy,List.getElem?_map,List.getElem?_range hil]at hi
     simpa using hi.symm
    have hcell:∀(i j:Nat) (row:List AV) x,(qa ((qGn len).map f))[i]? =some row->row[j]? =some x->a.spot=none∧x.isCell=true∧∃v,W.cell? ⟨a.block,a.off+i*4+j,none⟩=some v∧Rep (C0 W) M0 x v:=by
     intro i j row x hi hj;obtain⟨hil,rfl⟩:=hget i row hi;obtain⟨cs',h1,h2,_⟩:=hf i _ (qFE (by omega));obtain⟨s1,s2,s3⟩:=qet h1 (by omega);have hspot:a.spot=none:=by
      obtain⟨cs0,q1,_⟩:=hf 0 _ (qFE (by omega));have:=(qet q1 (by omega)).1
      simpa [Addr.add]using this
     have hjl:j<cs'.length:=by
      rw[h2.1];have:=(qFF.1 hj).1;cases hfi:f i with
      |mk k n s l=>rw[hfi,Tm.cells_mk]at this;simpa using this
     have h4:=h2.2 j x _ hj (qFE hjl);refine⟨hspot,h4.1,_,?_,h4.2⟩;have:=s3 j _ (qFE hjl);rw[zf _ _ hspot]at this;exact this
    refine⟨(qGn len).map f,_,rfl,?_,?_,λW' sp hs hp=>?_⟩
    ·have:=Rep.sl (C:=C0 W) (μ:=M0) (qa ((qGn len).map f)) a cap 4 (λi j=>(W.cell? ⟨a.block,a.off+i*4+j,none⟩).getD undef) (λhne=>?_) (λi row hi=>?_) (λi j row x hi hj=>?_) (λi j row x hi hj=>?_) (λi j row x hi hj=>?_) (by simpa using hlc) (qlm _)
     ·simpa using this
     ·have hl0:0<len:=by
       rcases Nat.eq_zero_or_pos len with h0|h0
       ·subst h0;exact absurd (by simp) hne
       ·exact h0
      obtain⟨cs0,q1,_⟩:=hf 0 _ (qFE (by omega));have:=(qet q1 (by omega)).1
      simpa [Addr.add]using this
     ·obtain⟨_,rfl⟩:=hget i row hi;cases hfi:f i with
      |mk k n s l=>rw[Tm.cells_mk];rfl
     ·obtain⟨_,_,v,h1,_⟩:=hcell i j row x hi hj;show W.cell? _=_;rw[h1];rfl
     ·obtain⟨_,_,v,h1,h2⟩:=hcell i j row x hi hj;rw[h1];exact h2
     ·exact(hcell i j row x hi hj).2.1
    ·simp only[Rows.uptoBulk];have:=qmC ((qGn len).map f) (elems.map (·.1)) (by simp[hel]) (λi t d ht hd=>by
      rw[List.getElem?_map]at ht hd;obtain⟨j,hj,rfl⟩:=qFM.1 ht;obtain⟨y,hy,rfl⟩:=qFM.1 hd;have hil:i<len:=by have:=(qFF.1 hj).1;simpa using this
      rw[List.getElem?_range hil]at hj;cases hj;obtain⟨_,_,_,h4⟩:=hf i y hy;exact h4)
     omega
    ·have hrow:0<(elems.length+rest.length)->sp a.block=true:=λhpos=>hp (.cell a.block (a.off+0)) (by
      rw[qF8];exact .inl (MemPlace.mem_row.2 ⟨0,Nat.mul_pos hpos (by rw[T.cT];omega),rfl⟩))
     unfold DataW.trod at h⊢;rw[T.uL]at h⊢;simp only[if_true]at h⊢;rw[qGq ⟨hb,hlc,hmx⟩]at h⊢;simp only[qFM,qFL]at h⊢;obtain⟨elems',he,rest',hr,hx⟩:=h;have hlen:elems'.length=len:=by simpa using mapM_some_length he
     have hrl':rest'.length=cap - len:=by simpa using mapM_some_length hr
     simp only[Prod.mk.injEq,DataW.slice.injEq]at hx;have one':∀(i:Nat) (y:DataW H×List MemPlace),i<elems'.length+rest'.length->y∈elems'++rest' ->
       (W.cells? 0 (a.add (i*P.cellsOf tT)) (P.cellsOf tT)).bind (DataW.trod enc P W 0 (λ_=>true) true n' tT)=some y->(W'.cells? 0 (a.add (i*P.cellsOf tT)) (P.cellsOf tT)).bind (DataW.trod enc P W' 0 sp true n' tT)=some y:=by
      intro i y hi hy hv;simp only[qFL]at hv⊢;obtain⟨cs',hc',hy'⟩:=hv;obtain⟨_,_,_,hbk⟩:=ihT _ _ hy';refine⟨cs',World.cells?_carry hc' (λp hpp=>hs p ?_),hbk W' sp (λp hpp=>hs p ?_) (λp hpp=>hp p ?_)⟩
      ·rw[←hx.2];obtain⟨j,hj,rfl⟩:=MemPlace.mem_row.1 hpp;simp only[qF8]
       left
       refine MemPlace.mem_row.2 ⟨i*P.cellsOf tT+j,?_,?_⟩
       ·calc i*P.cellsOf tT+j<i*P.cellsOf tT+P.cellsOf tT:=by omega
         _=(i+1)*P.cellsOf tT:=by rw[Nat.add_mul,Nat.one_mul]
         _<=(elems'.length+rest'.length)*P.cellsOf tT:=qGe _ hi
       ·unfold Addr.add;split
        ·rename_i h0;simp[h0]
        ·simp[Nat.add_assoc]
      ·rw[←hx.2];simp only[qF8,List.mem_flatMap]
       right
       exact⟨y,by simpa using hy,hpp⟩
      ·rw[←hx.2];simp only[qF8,List.mem_flatMap]
       right
       exact⟨y,by simpa using hy,hpp⟩
     refine⟨elems',mapM_carry he (λi y hi hy=>one' i y (by have:i<len:=(by simpa using hi);omega) (by simp[hy])),rest',?_,by simp only[Prod.mk.injEq,DataW.slice.injEq];exact hx⟩
     by_cases h0:0<elems.length+rest.length
     ·rw[qGq (hrow h0)];exact mapM_carry hr (λj y hj hy=>one' (len+j) y (by have:j<cap - len:=(by simpa using hj);omega) (by simp[hy]))
     ·have hc0:cap - len=0:=by omega
      rw[hc0]at hr⊢;simp at hr;subst hr;split<;>rfl
end
end Go.Proofs.YtgleolmhpmljhaaGreat
end
noncomputable section
namespace Go.Proofs.YtgleolmhpmljhaaGreat
open Go.Av Go.ChangeShapes Go.WideShapes Go.ChangeAt Go.RowKit
theorem qyo:ownKnob Tryz.prog.godebug=none:=by kernel_rfl
noncomputable section
variable {H : Type} {enc : TypeId × Value → H} {P : Program} {W W' : World}
theorem qwd{f:Func}{s:ChangeSpec}{apart fresh handsOn again:Bool}{args:Array Value}{v:Value}{ds gs:List (DataW H)}{before pa pv:List MemPlace}(hW:DataW.Whole enc P f.params.toList s.vars apart W args.toList ds gs before)(hres:∀(b:Nat) (sp:Nat->Bool) (hd:Bool),DataW.TrodAll enc P W' b sp hd f.resultTypes.toList (v.resultList f.resultTypes.size) (s.fn H (ds++gs)).results [])(hargs:∀sp:Nat->Bool,(∀p∈before,sp p.block=true)->DataW.TrodAll enc P W' 0 sp true f.params.toList args.toList (s.fn H (ds++gs)).args pa)(hvars:∀sp:Nat->Bool,(∀p∈before,sp p.block=true)->DataW.TrodVars enc P W' sp s.vars (s.fn H (ds++gs)).vars pv)(hps:before=pa++pv)(hk:W.keptBut W' (·∈before))(hfz:∀b o,b<W.heap.size->W'.frozen? ⟨b,o,none⟩=W.frozen? ⟨b,o,none⟩)(hok:∀(j:Nat) (t:TypeId) (r:Value),f.resultTypes[j]? =some t->(v.resultList f.resultTypes.size)[j]? =some r->Value.okWide P W' .any 0 t r):
  s.post enc P f apart fresh handsOn again W args v W':=by
 have hlt:=hW.lt;have hold:∀p∈before,(λb=>decide (b<W.heap.size)) p.block=true:=λp hp=>by simpa using hlt p hp
 refine⟨ds,gs,before,[],pa,pv,hW,hres _ _ _,hargs _ hold,hvars _ hold,World.keptBut_mono (λp hp=>⟨hp,?_⟩) hk,λ_=>?_⟩
 ·rw[hps,qF8]at hp;exact Or.inr hp
 ·obtain⟨_,_,_,_,_,hz,hn⟩:=hW;refine⟨hok,_,_,([]++pa)++pv,⟨[]++pa,pv,trodAll_append (hargs _ (λ_ _=>rfl)) (hres _ _ _),hvars _ (λ_ _=>rfl),rfl,?_,?_⟩,?_⟩
  ·intro b off hp;have hp':MemPlace.cell b off∈before:=by rw[hps];simpa using hp
   rw[hfz b off (hlt _ hp')];exact hz b off hp'
  ·intro ha;have:=hn ha;rw[hps]at this
   simpa using this
  ·intro p hp _;rw[hps]
   simpa using hp
theorem qqa(h:∀b,b<W.heap.size->W'.heap[b]? =W.heap[b]?)(ho:W'.os=W.os)(hu:W'.output=W.output)(may:MemPlace->Prop):W.keptBut W' may:=by
 refine⟨ho,hu,λi hi=>?_⟩;rw[h i hi];cases W.heap[i]? with
 |none=>rfl
 |some o=>cases o<;>simp
theorem qhf(h:∀b,b<W.heap.size->W'.heap[b]? =W.heap[b]?){p:MemPlace}(hp:p.block<W.heap.size):W.sameAt W' p:=by
 cases p with
 |cell b o=>simp only[World.sameAt,World.cell?];rw[h b hp]
 |map b=>exact h b hp
theorem qns(h:∀b,b<W.heap.size->W'.heap[b]? =W.heap[b]?)(b o:Nat)(hb:b<W.heap.size):W'.frozen? ⟨b,o,none⟩=W.frozen? ⟨b,o,none⟩:=by
 simp only[World.frozen?];rw[h b hb]
structure Opened (enc:TypeId×Value->H) (P:Program) (W:World) (t:TypeId) (v:Value) (d:DataW H) (ps:List MemPlace) (a:AV):Prop where
 rep:Rep (C0 W) M0 a v
 back:∀(W':World) (sp:Nat->Bool),(∀p∈ps,W.sameAt W' p)->(∀p∈ps,sp p.block=true)->DataW.Trod enc P W' 0 sp true t v d ps
theorem qwm{tT tL tI tS:TypeId}(T:TermTys P tT tL tI tS){r:Reach}{b0:Nat}{v:Value}{d:DataW H}{ps:List MemPlace}(hval:Value.okWide P W r b0 tT v)(hd:DataW.Trod enc P W 0 (λ_=>true) true tT v d ps):
  ∃t:Tm,Opened enc P W tT v d ps t.av∧t.w<=Rows.uptoBulk d:=by
 obtain⟨f0,f1,f2,f3,hu,_⟩:=T.uT;obtain⟨cs,rfl,hsz⟩:=okWide_struct hu hval;obtain⟨n,hn⟩:=hd;obtain⟨t,h1,h2,h3⟩:=(qwn T n).1 _ _ hn;refine⟨t,⟨?_,λW' sp hs hp=>⟨n,h3 W' sp hs hp⟩⟩,h2⟩;have:=Rep.agg (C:=C0 W) (μ:=M0) t.cells cs.toList (by
  have:=h1.1;cases t with
  |mk k n s l=>rw[Tm.cells_mk];simpa [Value.cells]using this.symm) (λi a v ha hv=>(h1.2 i a v ha (by simpa [Value.cells]using hv)).2)
 simpa [Tm.av]using this
theorem qyq{tI:TypeId}(hu:P.underlying tI=some (.int .i64)){r:Reach}{b0:Nat}{v:Value}{d:DataW H}{ps:List MemPlace}(hval:Value.okWide P W r b0 tI v)(hd:DataW.Trod enc P W 0 (λ_=>true) true tI v d ps):
  ∃k:Int,Opened enc P W tI v d ps (.int .i64 k)∧(Lit.int .i64 k).wf=true:=by
 obtain⟨k,rfl⟩:=okWide_int hu hval;obtain⟨n,hn⟩:=hd;obtain⟨k',e0,ex,w0⟩:=DataW.trod_int hu hn;have e0:[Value.int .i64 k]=[Value.int .i64 k']:=by simpa [Value.cells]using e0
 cases e0;cases ex;refine⟨k,⟨.int _ _,λW' sp _ _=>⟨n,?_⟩⟩,w0⟩;cases n with
 |zero=>simp[DataW.trod]at hn
 |succ q=>simp[DataW.trod,hu,w0,Value.cells]
end
theorem qAA{C:qk}{a b:AV}{x y:Value}(h1:Rep C M0 a x)(h2:Rep C M0 b y):qy C M0 [a,b] #[x,y]:=⟨rfl,λi c v hc hv=>by
 match i,hc,hv with
 |0,hc,hv=>simp at hc hv;subst hc hv;exact h1
 |1,hc,hv=>simp at hc hv;subst hc hv;exact h2
 |(i+2),hc,hv=>simp at hc⟩
end Go.Proofs.YtgleolmhpmljhaaGreat
end
noncomputable section
namespace Go.Proofs.YtgleolmhpmljhaaGreat
open Go.Av Go.ChangeShapes Go.WideShapes Go.ChangeAt Go.RowKit
theorem qxS:TermTys Tryz.prog 24 22 3 9 where
 uT:=⟨_,_,_,_,Tryz.underlying24,rfl,rfl,rfl,rfl,rfl,rfl,rfl,rfl⟩
 uL:=Tryz.underlying22
 uI:=Tryz.underlying3
 uS:=Tryz.underlying9
 cT:=by kernel_rfl
 cL:=by kernel_rfl
 cI:=by kernel_rfl
 cS:=by kernel_rfl
end Go.Proofs.YtgleolmhpmljhaaGreat
end
noncomputable section
namespace Go.Proofs.YtgleolmhpmljhaaGreat
open Go.Av Go.ChangeShapes Go.WideShapes Go.ChangeAt Go.RowKit
theorem qdn(f:FuncId)(fn:Func)(h:Tryz.prog.funcs[f]? =some fn):(fn.name== "runtime.NumGoroutine")=false:=by
 have h1:=List.all_eq_true.1 qyy fn (by
  rw[←Array.getElem?_toList]at h;exact qFK h)
 simpa using h1
theorem qw8[Lent]{args:List AV}{H H':AH}{r:AV}{C:qk}{μ:MMap}{w:World}{vs:Array Value}(hr:qdv args H=some (r,H'))(ha:qy C μ args vs)(hw:Wld C μ H w):
  vB Tryz.prog (callFunc 127 vs) w (vY C μ H w r H'):=
 qqF (P:=Tryz.prog) Tryz.func127 (by rfl) (by rfl) (by kernel_rfl) (by kernel_rfl) hr ha hw
theorem qoe[Lent]{P:Program}{s:Array Value->Sem Next}{g:List AV->AH->Option (AV×AH)}(hg:∀args H r H',g args H=some (r,H')->∀C μ w vs,qy C μ args vs->Wld C μ H w->vB P (s vs) w (vY C μ H w r H')){args:List AV}{H H':AH}{r:AV}{C:qk}{μ:MMap}{w:World}{vs:Array Value}(hr:qbs g args H=some (r,H'))(ha:qy C μ args vs)(hw:Wld C μ H w):vB P (s vs) w (vY C μ H w r H'):=by
 unfold qbs at hr;split at hr
 case h_2=>exact hg _ _ _ _ hr _ _ _ _ ha hw
 split at hr
 case h_2=>cases hr
 rename_i a b h1 h2;cases he:isEm a&&isEm b with
 |false=>rw[he]at hr;cases hr
 |true=>
  rw[he]at hr;cases hr;rw[qFJ]at he;have one:∀(y:AV) (v:Value),vs[0]? =some v->Rep C (λ_=>none) y v->qy C (λ_=>none) [y] vs:=λy v hv hy=>⟨ha.1,λi a u e1 e2=>by
   cases i with
   |zero=>cases e1;rw[hv]at e2;cases e2;exact hy
   |succ i=>simp at e1⟩
  have fin:∀(q:AV×AH) (y:AV),isEm q=true->g [y] []=some q->qy C (λ_=>none) [y] vs->vB P (s vs) w (vY C μ H w (.sl []) H):=λq y hq hy hf=>
   (hg [y] [] q.1 q.2 hy C (λ_=>none) w vs hf hw.nil).mono λv w1 ⟨C2,μ2,e1,e2,e3⟩=>by
    obtain⟨C3,a1,a2,a3⟩:=xb q.1.msIds e2;obtain⟨b1,b2⟩:=hw.back (e3.trans (a3 0 (Nat.zero_le _)) (qFH _)) a2;have hr:=((e1.mono a1 (λ_ _ h=>h)).frzA (xU.of a2)).fgA;have hs:(q.1.frz q.1.msIds q.2).fg= .sl []:=by
     unfold isEm at hq;split at hq
     ·assumption
     ·cases hq
    rw[hs]at hr;exact⟨C3,μ,hr.free μ rfl,b1,b2 _ (qFH _)⟩
  have hsz:vs.size=1:=by have:=ha.1;simpa using this.symm
  have hv:vs[0]? =some vs[0]:=Array.getElem?_eq_getElem (by omega);have h0:=ha.2 0 _ _ rfl hv;generalize vs[0]=v at *;have nl:v= .slice none 0 0∨∃a c,v= .slice (some a) 0 c:=by
   cases h0 with
   |sl rows a cap=>exact .inr ⟨_,_,rfl⟩
   |slNil=>exact .inl rfl
  rcases nl with rfl|⟨a',c',rfl⟩
  ·exact fin _ _ he.1 h1 (one _ _ hv .nilS)
  ·exact fin _ _ he.2 h2 (one _ _ hv (.em _ _))
theorem cfg_ok [Lent] : CfgOk cfg where
  ty := ⟨fun t ti h => BT.all_look qha h⟩
  mixed := qdo
  named := fun f fn _ h => qdn f fn h
  ext := fun f s h args H r H' hr C μ w vs ha hw => by
    have h : yx f qdu = some s := h
    unfold qdu at h
    rw [yx] at h
    split at h
    · rename_i e
      have e := qFO e
      subst e
      cases h
      exact qw8 hr ha hw
    · rw [qfQ] at h
      first
        | (rw [yx] at h; cases h; done)
        | (have okK : CfgOk K.cfg := {
             ty := ⟨fun t ti h => BT.all_look (show K.qfl.All _ from qha) h⟩
             mixed := qdo
             named := fun f fn _ h => qdn f fn h
             ext := fun f s h args H r H' hr C μ w vs ha hw => by
               have h : K.yx f K.qdu = some s := h
               unfold K.qdu at h
               rw [K.yx] at h
               split at h
               · rename_i e
                 have e := qFO e
                 subst e
                 cases h
                 exact qw8 hr ha hw
               · rw [K.qfQ, K.yx] at h
                 cases h }
           rw [yx] at h
           split at h
           · rename_i e
             have e := qFO e
             subst e
             cases h
             first
               | exact (yE okK).calls _ _ _ _ _ hr C μ w vs _ ha hw rfl
               | exact qoe (s := callFunc _) (g := EV K.cfg (.f _)) (fun args H r H' hr C μ w vs ha hw => (yE okK).calls (.f _) args H r H' hr C μ w vs _ ha hw rfl) hr ha hw
           · rw [yx] at h
             first
               | (cases h; done)
               | (split at h
                  · rename_i e
                    have e := qFO e
                    subst e
                    cases h
                    exact qoe (s := callFunc _) (g := EV K.cfg (.f _)) (fun args H r H' hr C μ w vs ha hw => (yE okK).calls (.f _) args H r H' hr C μ w vs _ ha hw rfl) hr ha hw
                  · rw [yx] at h
                    cases h))
def qCj:Den:=evC cfg (EV cfg) 84 none 1 (sub (qc Tryz.f84) [1,1,1,0,1,0,0])
def qC2:Ex×List AV×AH->Option (AV×List (List AV)):=kAft (Cfg.keepOut cfg 84 6) (kRun cfg (EV cfg) (kfN cfg 6) 84 none 1 (quE cfg 1 (Cfg.lift cfg 84 0) Tryz.f84.results.toList) ([.block 0,.seq (sub (qc Tryz.f84) [1,1,1,1])]))
def qBy:List AV×AH->Option (AV×List (List AV)):=λp=>kOpt (LOOP 1 (some [1,2,3,4,18,19,20]) ([]) qCj p) qC2
abbrev qiu(lt:Rz)(v20 c1_0 c1_1:Int)(c1_2:Bz)(c2_0 c2_1:Int)(c2_2:Bz)(c2_3 h3:Rz):Option (AV×List (List AV)):=qBy (((fx 35 [(1,.ptr 0 0 0),(2,.ptr 1 0 0),(3,.ptr 2 0 0),(4,.ms 3 0 (qFQ (lt.length:Int))),(18,.lsl lt),(19,.int .i64 (lt.length:Int)),(20,.int .i64 v20)]):List AV),([.rows false 1 [[.fn (Fn.func 84) [] [.ptr 0 0 0]]],.rows false 4 [[.int .i64 c1_0,.int .i64 c1_1,.str c1_2,.lsl lt]],.rows false 4 [[.int .i64 c2_0,.int .i64 c2_1,.str c2_2,.sl c2_3]],.rows true 4 h3]:AH))
theorem qm0(kt:Int)(nt:Int)(st:Bz)(lt:Rz){P:AV->Prop}(h:Gets (kOpt (EVk (EV cfg) 84 [.agg [AV.int .i64 kt,.int .i64 nt,.str st,AV.lsl lt],.ptr 0 0 0] 1 [[AV.fn (Fn.func 84) [] [.ptr 0 0 0]]]) fun(q:AV)=>kTmV q fun(n n_1:Int) (s:List 
  UInt8) (rows:Rz)=>(some (.agg [AV.int .i64 n,.int .i64 n_1,.str s,.sl rows]))) P):Gets (EVf (EV cfg) 51 ([AV.agg [AV.int IntKind.i64 kt,AV.int IntKind.i64 nt,AV.str st,AV.lsl lt]]:List AV)) P:=
  Gets.ev (λ_ h=>funF rfl rfl Tryz.func51 rfl h) (Gets.eq (by kernel_rfl) h)
theorem qsy(kt nt:Int)(st:Bz)(lt:Rz){P:AV×List (List AV)->Prop}(h:Gets (bif(lt.length:Int)==0 then bif AV.refsLt 0 (.agg [.int .i64 kt,.int .i64 nt,.str st,.sl []])then some (.agg [.int .i64 kt,.int .i64 nt,.str st,.sl []],[[AV.fn (Fn.func 84) [] [.ptr 0 0 0]]])else none else bif qj 0 (lt.length:Int)&&qj (lt.length:Int) (lt.length:Int)&&qj ((lt.length:Int)*56) 140737488355328&&qj (lt.length:Int) 9223372036854775807 then qiu lt 0 kt nt st 0 0 [] [] (qGd (qFQ (lt.length:Int)) [AV.int .i64 0,.int .i64 0,.str [],.nilS])else none) P):Gets (EVx (EV cfg) 84 [.agg [.int .i64 kt,.int .i64 nt,.str st,.lsl lt],.ptr 0 0 0] 1 [[(AV.fn (Fn.func 84) [] [AV.ptr 0 0 0])]]) P:=
  gE (λ_=>funX rfl rfl Tryz.func84 rfl) (by kernel_rfl) h
theorem qgK(lt:Rz)(v20 c1_0 c1_1:Int)(c1_2:Bz)(c2_0 c2_1:Int)(c2_2:Bz)(c2_3 h3:Rz){P:AV×List (List AV)->Prop}(h:Gets (bif decide (v20<(lt.length:Int))then rs4 lt v20 λn n_1 s rows=>(kOpt (EVk (EV cfg) 84 [.agg [.int .i64 n,.int .i64 n_1,.str s,AV.lsl rows],.ptr 0 0 0] 1 [[AV.fn (Fn.func 84) [] [.ptr 0 0 0]]]) λq=>kTmV q λn n_2 s rows=>(bif qj 0 v20&&qA v20 (↑ (qFQ (lt.length:Int)):Int)then kOpt (qFG h3 (0+v20.toNat)) λrow=>bif qFR 4 (qFI row)then qiu lt (qFD .i64 (v20+1)) c1_0 c1_1 c1_2 c2_0 c2_1 c2_2 c2_3 (st4 h3 v20 n n_2 s rows row)else none else none))else bif qFR (0+qFQ (lt.length:Int)) (qFI h3)&&true then some (.agg [.int .i64 c1_0,.int .i64 c1_1,.str c1_2,.sl (qFN (qFQ (lt.length:Int)) h3)],[[AV.fn (Fn.func 84) [] [.ptr 0 0 0]]])else none) P):Gets (qiu lt v20 c1_0 c1_1 c1_2 c2_0 c2_1 c2_2 c2_3 h3) P:=
  gE (λ_=>qg (cfg:=cfg) (f:=84) (rd:=none) (bs:=1)) (by kernel_rfl) h
def qEA:Den:=evC cfg (EV cfg) 84 none 1 (sub (qc Tryz.f84) [1,1,1,0,1,0,0])
def qE9:Ex×List AV×AH->Option (AV×List (List AV)):=kAft (Cfg.keepOut cfg 84 6) (kRun cfg (EV cfg) (kfN cfg 6) 84 none 1 (quE cfg 1 (Cfg.lift cfg 84 0) Tryz.f84.results.toList) ([.block 0,.seq (sub (qc Tryz.f84) [1,1,1,1])]))
def qD7:List AV×AH->Option (AV×List (List AV)):=λp=>kOpt (LOOP 1 (some [1,2,3,4,18,19,20]) ([]) qEA p) qE9
def qEB:Den:=evC cfg (EV cfg) 49 none 0 (sub (qc Tryz.f49) [1,1,1,0,1,0,0])
def qFa:Ex×List AV×AH->Option AV:=kAft (Cfg.keepOut cfg 49 5) (kRun cfg (EV cfg) (kfN cfg 6) 49 none 0 (vM cfg (Cfg.lift cfg 49 0) Tryz.f49.results.toList) ([.block 0,.seq (sub (qc Tryz.f49) [1,1,1,1])]))
def qD8:List AV×AH->Option AV:=λp=>kOpt (LOOP 0 (some [1,2,5,6]) ([]) qEB p) qFa
abbrev qla(lt:Rz)(v20 c1_0 c1_1:Int)(c1_2:Bz)(c1_3:Rz)(c2_0 c2_1:Int)(c2_2:Bz)(c2_3 h3:Rz):Option (AV×List (List AV)):=qD7 (((fx 35 [(1,.ptr 0 0 0),(2,.ptr 1 0 0),(3,.ptr 2 0 0),(4,.ms 3 0 (qFQ (lt.length:Int))),(18,.sl lt),(19,.int .i64 (lt.length:Int)),(20,.int .i64 v20)]):List AV),([.rows false 1 [[.fn (Fn.func 84) [] [.ptr 0 0 0]]],.rows false 4 [[.int .i64 c1_0,.int .i64 c1_1,.str c1_2,.sl c1_3]],.rows false 4 [[.int .i64 c2_0,.int .i64 c2_1,.str c2_2,.sl c2_3]],.rows true 4 h3]:AH))
abbrev qlb(most v5 v6 c0_0 c0_1:Int)(c0_2:Bz)(c0_3:Rz):Option (AV):=qD8 (((fx 43 [(1,.int .i64 most),(2,.ptr 0 0 0),(5,.int .i64 v5),(6,.int .i64 v6)]):List AV),([.rows false 4 [[.int .i64 c0_0,.int .i64 c0_1,.str c0_2,.sl c0_3]]]:AH))
theorem qot(kt nt:Int)(st:Bz)(lt:Rz){P:AV->Prop}(h:Gets (kOpt (EVk (EV cfg) 84 [.agg [.int .i64 kt,.int .i64 nt,.str st,.sl lt],.ptr 0 0 0] 1 [[AV.fn (Fn.func 84) [] [.ptr 0 0 0]]]) λq=>kTmV q λn n_1 s rows=>(some (.agg [.int .i64 n,.int .i64 n_1,.str s,.sl rows]))) P):Gets (EVf (EV cfg) 51 [.agg [.int .i64 kt,.int .i64 nt,.str st,.sl lt]]) P:=
  gE (λ_=>funF rfl rfl Tryz.func51 rfl) (by kernel_rfl) h
theorem qu7(kt nt:Int)(st:Bz)(lt:Rz){P:AV×List (List AV)->Prop}(h:Gets (bif(lt.length:Int)==0 then bif AV.refsLt 0 (.agg [.int .i64 kt,.int .i64 nt,.str st,.sl []])then some (.agg [.int .i64 kt,.int .i64 nt,.str st,.sl []],[[AV.fn (Fn.func 84) [] [.ptr 0 0 0]]])else none else bif qj 0 (lt.length:Int)&&qj (lt.length:Int) (lt.length:Int)&&qj ((lt.length:Int)*56) 140737488355328&&qj (lt.length:Int) 9223372036854775807 then qla lt 0 kt nt st lt 0 0 [] [] (qGd (qFQ (lt.length:Int)) [.int .i64 0,.int .i64 0,.str [],.nilS])else none) P):Gets (EVx (EV cfg) 84 [.agg [.int .i64 kt,.int .i64 nt,.str st,.sl lt],.ptr 0 0 0] 1 [[(AV.fn (Fn.func 84) [] [AV.ptr 0 0 0])]]) P:=
  gE (λ_=>funX rfl rfl Tryz.func84 rfl) (by kernel_rfl) h
theorem quw(kt nt:Int)(st:Bz)(lt:Rz)(most:Int){P:AV->Prop}(h:Gets (kOpt (EVs (EV cfg) 49 [.agg [.int .i64 kt,.int .i64 nt,.str st,.sl lt],.int .i64 (qFD .i64 (most+1))]) λv=>kInt .i64 v λn=>some (.bool (decide (n>most)))) P):Gets (EVs (EV cfg) 15 [.agg [.int .i64 kt,.int .i64 nt,.str st,.sl lt],.int .i64 most]) P:=
  gE (λ_=>funS rfl rfl Tryz.func15 rfl) (by kernel_rfl) h
theorem qj6(kt nt:Int)(st:Bz)(lt:Rz)(most:Int){P:AV->Prop}(h:Gets (bif decide ((st.length:Int)>100)then some (.int .i64 most)else bif decide ((lt.length:Int)>most)then some (.int .i64 most)else qlb most 1 0 kt nt st lt) P):Gets (EVs (EV cfg) 49 [.agg [.int .i64 kt,.int .i64 nt,.str st,.sl lt],.int .i64 most]) P:=
  gE (λ_=>funS rfl rfl Tryz.func49 rfl) (by kernel_rfl) h
theorem qjE(lt:Rz)(v20 c1_0 c1_1:Int)(c1_2:Bz)(c1_3:Rz)(c2_0 c2_1:Int)(c2_2:Bz)(c2_3 h3:Rz){P:AV×List (List AV)->Prop}(h:Gets (bif decide (v20<(lt.length:Int))then rs4 lt v20 λn n_1 s rows=>(kOpt (EVk (EV cfg) 84 [.agg [.int .i64 n,.int .i64 n_1,.str s,.sl rows],.ptr 0 0 0] 1 [[AV.fn (Fn.func 84) [] [.ptr 0 0 0]]]) λq=>kTmV q λn n_2 s rows=>(bif qj 0 v20&&qA v20 (↑ (qFQ (lt.length:Int)):Int)then kOpt (qFG h3 (0+v20.toNat)) λrow=>bif qFR 4 (qFI row)then qla lt (qFD .i64 (v20+1)) c1_0 c1_1 c1_2 c1_3 c2_0 c2_1 c2_2 c2_3 (st4 h3 v20 n n_2 s rows row)else none else none))else bif qFR (0+qFQ (lt.length:Int)) (qFI h3)&&true then some (.agg [.int .i64 c1_0,.int .i64 c1_1,.str c1_2,.sl (qFN (qFQ (lt.length:Int)) h3)],[[AV.fn (Fn.func 84) [] [.ptr 0 0 0]]])else none) P):Gets (qla lt v20 c1_0 c1_1 c1_2 c1_3 c2_0 c2_1 c2_2 c2_3 h3) P:=
  gE (λ_=>qg (cfg:=cfg) (f:=84) (rd:=none) (bs:=1)) (by kernel_rfl) h
theorem qjF(most v5 v6 c0_0 c0_1:Int)(c0_2:Bz)(c0_3:Rz){P:AV->Prop}(h:Gets (bif decide (v6<(c0_3.length:Int))then bif decide (v5<most)then rs4 c0_3 v6 λn n_1 s rows=>(kOpt (EVs (EV cfg) 49 [.agg [.int .i64 n,.int .i64 n_1,.str s,.sl rows],.int .i64 (qFD .i64 (most - v5))]) λv=>kInt .i64 v λn=>qlb most (qFD .i64 (v5+n)) (qFD .i64 (v6+1)) c0_0 c0_1 c0_2 c0_3)else some (.int .i64 v5)else some (.int .i64 v5)) P):Gets (qlb most v5 v6 c0_0 c0_1 c0_2 c0_3) P:=
  gE (λ_=>qg (cfg:=cfg) (f:=49) (rd:=none) (bs:=0)) (by kernel_rfl) h
end Go.Proofs.YtgleolmhpmljhaaGreat
end
noncomputable section
namespace Go.Av
@[simp] theorem Tm.kind_mk(k n:Int)(s:List UInt8)(l:List Tm):(Tm.mk k n s l).kind=k:=rfl
@[simp] theorem Tm.num_mk(k n:Int)(s:List UInt8)(l:List Tm):(Tm.mk k n s l).num=n:=rfl
@[simp] theorem Tm.str_mk(k n:Int)(s:List UInt8)(l:List Tm):(Tm.mk k n s l).str=s:=rfl
@[simp] theorem Tm.subs_mk(k n:Int)(s:List UInt8)(l:List Tm):(Tm.mk k n s l).subs=l:=rfl
@[simp] theorem Tm.eta(t:Tm):Tm.mk t.kind t.num t.str t.subs=t:=by cases t;rfl
theorem Tm.cells_eq(t:Tm):t.cells=[.int .i64 t.kind,.int .i64 t.num,.str t.str,.sl (qa t.subs)]:=by cases t;rw[Tm.cells_mk];rfl
@[simp] theorem cells_fold(k n:Int)(s:List UInt8)(l:List Tm):[AV.int .i64 k,AV.int .i64 n,AV.str s,AV.sl (qa l)]=(Tm.mk k n s l).cells:=(Tm.cells_mk k n s l).symm
@[simp] theorem cells_fold0(k n:Int)(s:List UInt8):[AV.int .i64 k,AV.int .i64 n,AV.str s,AV.sl []]=(Tm.mk k n s []).cells:=by rw[Tm.cells_mk,qO]
@[simp] theorem agg_cells(t:Tm):AV.agg t.cells=t.av:=rfl
@[simp] theorem qvW(t:Tm):[t.cells]=qa [t]:=by rw[qF,qO]
@[simp] theorem rowsT_cons'(t:Tm)(l:List Tm):t.cells::qa l=qa (t::l):=(qF t l).symm
@[simp] theorem rowsT_append'(a b:List Tm):qa a++qa b=qa (a++b):=(qW a b).symm
@[simp] theorem rowsT_app(a b:List Tm):qF2 (qa a) (qa b)=qa (a++b):=(qW a b).symm
@[simp] theorem rowsT_take'(n:Nat)(a:List Tm):(qa a).take n=qa (a.take n):=zC n a
@[simp] theorem rowsT_drop'(n:Nat)(a:List Tm):(qa a).drop n=qa (a.drop n):=qln n a
@[simp] theorem rowsT_set'(l:List Tm)(i:Nat)(t:Tm):(qa l).set i t.cells=qa (l.set i t):=qhk l i t
@[simp] theorem rowsT_get'(l:List Tm)(i:Nat):(qa l)[i]? =(l[i]?).map Tm.cells:=xy l i
@[simp] theorem rowsT_getElem(l:List Tm)(i:Nat)(h:i<(qa l).length):(qa l)[i]=(l[i]'(by simpa using h)).cells:=by
 have h1:=xy l i
 rw[qFE h,qFE (by simpa using h)]at h1
 exact Option.some.inj h1
@[simp] theorem kOpt_map{α β γ:Type}(o:Option β)(g:β->γ)(k:γ->Option α):kOpt (o.map g) k=kOpt o λx=>k (g x):=by cases o<;>rfl
@[simp] theorem qf(t:Tm):t.cells.length=4:=by rw[Tm.cells_eq];rfl
@[simp] theorem qi(t:Tm):t.cells.take 4=t.cells:=by rw[Tm.cells_eq];rfl
@[simp] theorem qL(t:Tm):t.cells.drop 4=[]:=by rw[Tm.cells_eq];rfl
@[simp] theorem cells_0(t:Tm):t.cells[0]? =some (.int .i64 t.kind):=by rw[Tm.cells_eq];rfl
@[simp] theorem cells_1(t:Tm):t.cells[1]? =some (.int .i64 t.num):=by rw[Tm.cells_eq];rfl
@[simp] theorem cells_2(t:Tm):t.cells[2]? =some (.str t.str):=by rw[Tm.cells_eq];rfl
@[simp] theorem cells_3(t:Tm):t.cells[3]? =some (.sl (qa t.subs)):=by rw[Tm.cells_eq];rfl
@[simp] theorem refs_cells(n:Nat)(t:Tm):qK n t.cells=true:=by rw[Tm.cells_eq];rfl
@[simp] theorem allCells_cells(t:Tm):xZ t.cells=true:=by rw[Tm.cells_eq];rfl
@[simp] theorem rowsT_free'(l:List Tm):qQ 0 (qa l)=true:=qlm l
@[simp] theorem yV(l:List Tm):vP 4 (qa l)=true:=by
 cases l with
 |nil=>rw[qO];rfl
 |cons t l=>rw[qF,vP,qf];rfl
@[simp] theorem qh{α:Type}(t:Tm)(k:Int->Int->List UInt8->List (List AV)->Option α):kTmC t.cells k=k t.kind t.num t.str (qa t.subs):=by rw[Tm.cells_eq];rfl
@[simp] theorem yj{α:Type}(t:Tm)(k:Int->Int->List UInt8->List (List AV)->Option α):kTmV t.av k=k t.kind t.num t.str (qa t.subs):=by rw[Tm.av,Tm.cells_eq];rfl
theorem qo5{i n:Nat}(h:i<n)(hn:n<1099511627776):qFD .i64 ((i:Int)+1)=(i:Int)+1:=qo (by omega) (by omega)
@[simp] theorem cast_nn(q:Nat):(0<=(q:Int)+1)=True:=eq_true (by omega)
@[simp] theorem cast_le1(q n:Nat):((q:Int)+1<=(n:Int))=(q+1<=n):=propext (by omega)
@[simp] theorem cast_lt1(q n:Nat):((q:Int)+1<(n:Int))=(q+1<n):=propext (by omega)
@[simp] theorem cast_nn'(q:Nat):(0<(q:Int)+1)=True:=eq_true (by omega)
@[simp] theorem cast_ne0(q:Nat):((q:Int)+1==0)=false:=by rw[beqD];exact qGp (by omega)
@[simp] theorem cast_lt_s(q:Nat):((q:Int)<(q:Int)+1)=True:=eq_true (by omega)
@[simp] theorem cast_le_s(q:Nat):((q:Int)<=(q:Int)+1)=True:=eq_true (by omega)
theorem qz5{n:Nat}(hn:n<4398046511104):qFD .i64 (n:Int)=n:=qo (by omega) (by omega)
def numC(a b:Int):Int:=if a<b then -1 else if b<a then 1 else 0
def strC(a b:List UInt8):Int:=if a=b then 0 else if Op.bytesLess a b then -1 else 1
mutual
def cmpT:Tm->Tm->Int
 | .mk k n s l,b=>
  if numC k b.kind≠0 then numC k b.kind
  else if k=1∨k=3∨k=4∨k=6 then numC n b.num
  else if k=2 then strC s b.str
  else if k=5 then(if numC n b.num≠0 then numC n b.num else if numC l.length b.subs.length≠0 then numC l.length b.subs.length else cmpE l b.subs)
  else if k=7∨k=9 then(if numC l.length b.subs.length≠0 then numC l.length b.subs.length else cmpE l b.subs)
  else 0
def cmpE:List Tm->List Tm->Int
 |[],[]=>0
 |[],_::_=> -1
 |_::_,[]=>1
 |a::l,b::l'=>if cmpT a b≠0 then cmpT a b else cmpE l l'
end
def cmpL(l l':List Tm):Int:=if numC l.length l'.length≠0 then numC l.length l'.length else cmpE l l'
theorem xB{a b:Int}:numC a b=0↔a=b:=by unfold numC;split<;>(try split)<;>omega
theorem qdS(a:Int):numC a a=0:=xB.2 rfl
theorem qi6(k n:Int)(s:List UInt8)(l:List Tm)(k' n':Int)(s':List UInt8)(l':List Tm):cmpT (.mk k n s l) (.mk k' n' s' l') =
  if numC k k'≠0 then numC k k' else if k=1∨k=3∨k=4∨k=6 then numC n n' else if k=2 then strC s s'
  else if k=5 then(if numC n n'≠0 then numC n n' else cmpL l l')else if k=7∨k=9 then cmpL l l' else 0:=by
 rw[cmpT];rfl
theorem zw(a b:Tm)(l l':List Tm):cmpE (a::l) (b::l')=if cmpT a b≠0 then cmpT a b else cmpE l l':=by rw[cmpE]
theorem zk:cmpE [] []=0:=by rw[cmpE]
theorem xC(b:Tm)(l':List Tm):cmpE [] (b::l')= -1:=by rw[cmpE]
theorem xD(a:Tm)(l:List Tm):cmpE (a::l) []=1:=by rw[cmpE]
theorem qdC:∀a:List UInt8,Op.bytesLess a a=false
 |[]=>rfl
 |a::l=>by rw[Op.bytesLess,qdC l];simp
def C3(p q r:Int):Prop:=(p<=0->q<=0->r<=0)∧(p<0->q<=0->r<0)∧(p<=0->q<0->r<0)∧(0<=p->0<=q->0<=r)∧(0<p->0<=q->0<r)∧(0<=p->0<q->0<r)
def lexI(a b:Int):Int:=if a≠0 then a else b
theorem C3.neg3{p q r:Int}(hp:p<0)(_hq:q<=0)(hr:r<0):C3 p q r:=by
 refine⟨?_,?_,?_,?_,?_,?_⟩<;>intros<;>omega
theorem C3.neg3'{p q r:Int}(hp:p<=0)(hq:q<0)(hr:r<0):C3 p q r:=by
 refine⟨?_,?_,?_,?_,?_,?_⟩<;>intros<;>omega
theorem C3.pos3{p q r:Int}(hp:0<p)(_hq:0<=q)(hr:0<r):C3 p q r:=by
 refine⟨?_,?_,?_,?_,?_,?_⟩<;>intros<;>omega
theorem C3.pos3'{p q r:Int}(hp:0<=p)(hq:0<q)(hr:0<r):C3 p q r:=by
 refine⟨?_,?_,?_,?_,?_,?_⟩<;>intros<;>omega
theorem C3.mix{p q r:Int}(hp:p<0)(hq:0<q):C3 p q r:=by
 refine⟨?_,?_,?_,?_,?_,?_⟩<;>intros<;>omega
theorem C3.mix'{p q r:Int}(hp:0<p)(hq:q<0):C3 p q r:=by
 refine⟨?_,?_,?_,?_,?_,?_⟩<;>intros<;>omega
theorem x9{a b:Int}(h:a≠0):lexI a b=a:=qGq h
theorem zv(b:Int):lexI 0 b=b:=rfl
theorem C3.lex{p q r p' q' r':Int}(h:C3 p q r)(h':p=0->q=0->C3 p' q' r'):C3 (lexI p p') (lexI q q') (lexI r r'):=by
 obtain⟨h1,h2,h3,h4,h5,h6⟩:=h;rcases Int.lt_trichotomy p 0 with hp|hp|hp
 ·rw[x9 (a:=p) (by omega)];rcases Int.lt_trichotomy q 0 with hq|hq|hq
  ·have hr:=h2 hp (by omega);rw[x9 (a:=q) (by omega),x9 (a:=r) (by omega)];exact C3.neg3 hp (by omega) hr
  ·have hr:=h2 hp (by omega);rw[hq,zv,x9 (a:=r) (by omega)];rcases Int.lt_trichotomy q' 0 with h|h|h
   ·exact C3.neg3 hp (by omega) hr
   ·exact C3.neg3 hp (by omega) hr
   ·exact C3.mix hp h
  ·rw[x9 (a:=q) (by omega)];exact C3.mix hp hq
 ·subst hp;rw[zv];rcases Int.lt_trichotomy q 0 with hq|hq|hq
  ·have hr:=h3 (by omega) hq;rw[x9 (a:=q) (by omega),x9 (a:=r) (by omega)];rcases Int.lt_trichotomy p' 0 with h|h|h
   ·exact C3.neg3' (by omega) hq hr
   ·exact C3.neg3' (by omega) hq hr
   ·exact C3.mix' h hq
  ·subst hq;have ha:=h1 (by omega) (by omega);have hb:=h4 (by omega) (by omega);obtain rfl:r=0:=by omega
   exact h' rfl rfl
  ·have hr:=h6 (by omega) hq;rw[x9 (a:=q) (by omega),x9 (a:=r) (by omega)];rcases Int.lt_trichotomy p' 0 with h|h|h
   ·exact C3.mix h hq
   ·exact C3.pos3' (by omega) hq hr
   ·exact C3.pos3' (by omega) hq hr
 ·rw[x9 (a:=p) (by omega)];rcases Int.lt_trichotomy q 0 with hq|hq|hq
  ·rw[x9 (a:=q) (by omega)];exact C3.mix' hp hq
  ·have hr:=h5 hp (by omega);rw[hq,zv,x9 (a:=r) (by omega)];rcases Int.lt_trichotomy q' 0 with h|h|h
   ·exact C3.mix' hp h
   ·exact C3.pos3 hp (by omega) hr
   ·exact C3.pos3 hp (by omega) hr
  ·have hr:=h5 hp (by omega);rw[x9 (a:=q) (by omega),x9 (a:=r) (by omega)];exact C3.pos3 hp (by omega) hr
theorem qbO(a b:Int):lexI (-a) (-b)= - lexI a b:=by unfold lexI;split<;>split<;>omega
theorem qbJ(a b:Int):numC b a= - numC a b:=by unfold numC;split<;>split<;>(try split)<;>omega
theorem qAN(a b:Int):numC a b<=0↔a<=b:=by unfold numC;split<;>(try split)<;>omega
theorem qiV(a b:Int):numC a b<0↔a<b:=by unfold numC;split<;>(try split)<;>omega
theorem qAP(a b:Int):0<=numC a b↔b<=a:=by unfold numC;split<;>(try split)<;>omega
theorem qAO(a b:Int):0<numC a b↔b<a:=by unfold numC;split<;>(try split)<;>omega
theorem qbK(a b c:Int):C3 (numC a b) (numC b c) (numC a c):=by
 unfold C3;simp only[qAN,qiV,qAP,qAO];refine⟨?_,?_,?_,?_,?_,?_⟩<;>intros<;>omega
theorem qdc:strC [] []=0:=by simp[strC]
theorem yB(b:UInt8)(m:List UInt8):strC [] (b::m)= -1:=by simp[strC,Op.bytesLess]
theorem yC(b:UInt8)(m:List UInt8):strC (b::m) []=1:=by simp[strC,Op.bytesLess]
theorem qcf(a b:UInt8)(l m:List UInt8):strC (a::l) (b::m)=lexI (numC a.toNat b.toNat) (strC l m):=by
 unfold strC lexI numC
 by_cases h:a=b
 ·subst h
  by_cases h2:l=m
  ·subst h2;simp
  ·simp[h2,Op.bytesLess]
 ·have hne:a.toNat≠b.toNat:=λe=>h (UInt8.toNat.inj e)
  have h3:(a::l=b::m)=False:=by simp[h]
  have h4:(a==b)=false:=by simpa using h
  rw[qGr (by simp[h])];simp only[Op.bytesLess,h4,Bool.false_and,Bool.or_false]
  by_cases hlt:a.toNat<b.toNat
  ·have:a<b:=hlt;have h5:(a.toNat:Int)<b.toNat:=by omega
   simp[this,h5]
  ·have:¬a<b:=hlt;have h5:¬(a.toNat:Int)<b.toNat:=by omega
   have h6:(b.toNat:Int)<a.toNat:=by omega
   simp[this,h5,h6]
theorem qps:∀a b:List UInt8,strC b a= - strC a b
 |[],[]=>by simp[qdc]
 |[],b::m=>by rw[yB,yC];rfl
 |a::l,[]=>by rw[yB,yC]
 |a::l,b::m=>by rw[qcf,qcf,qbJ,qps l m,qbO]
theorem qsQ:∀a b c:List UInt8,C3 (strC a b) (strC b c) (strC a c)
 |[],[],[]=>by simp[qdc,C3]
 |[],[],c::n=>by simp[qdc,yB,C3]
 |[],b::m,[]=>by simp[qdc,yB,yC,C3]
 |[],b::m,c::n=>by
  rw[yB,yB];unfold C3;refine⟨?_,?_,?_,?_,?_,?_⟩<;>intros<;>omega
 |a::l,[],[]=>by simp[qdc,yC,C3]
 |a::l,[],c::n=>by
  rw[yB,yC];unfold C3;refine⟨?_,?_,?_,?_,?_,?_⟩<;>intros<;>omega
 |a::l,b::m,[]=>by
  rw[yC,yC];unfold C3;refine⟨?_,?_,?_,?_,?_,?_⟩<;>intros<;>omega
 |a::l,b::m,c::n=>by
  rw[qcf,qcf,qcf];exact(qbK _ _ _).lex λ_ _=>qsQ l m n
theorem qdz(k n:Int)(s:List UInt8)(l:List Tm)(k' n':Int)(s':List UInt8)(l':List Tm):cmpT (.mk k n s l) (.mk k' n' s' l') =
  lexI (numC k k') (if k=1∨k=3∨k=4∨k=6 then numC n n' else if k=2 then strC s s'
  else if k=5 then lexI (numC n n') (lexI (numC l.length l'.length) (cmpE l l'))else if k=7∨k=9 then lexI (numC l.length l'.length) (cmpE l l')else 0):=by
 rw[qi6];rfl
theorem qdA(a b:Tm)(l l':List Tm):cmpE (a::l) (b::l')=lexI (cmpT a b) (cmpE l l'):=by rw[zw];rfl
theorem qes:∀(l:List Tm),(∀a∈l,∀b,cmpT b a= - cmpT a b)->∀l',cmpE l' l= - cmpE l l'
 |[],_,[]=>by rw[zk];rfl
 |[],_,b::l'=>by rw[xC,xD];rfl
 |a::l,_,[]=>by rw[xC,xD]
 |a::l,h,b::l'=>by rw[qdA,qdA,h a (by simp),qes l (λa ha=>h a (by simp[ha])) l',qbO]
theorem qdy(a b:Tm):cmpT b a= - cmpT a b:=by
 induction a using Tm.ind generalizing b with
 |_ k n s l ih=>
  obtain⟨k',n',s',l'⟩:=b;rw[qdz,qdz,qbJ,qes l ih,qbJ n n',qbJ l.length l'.length,qps]
  by_cases h:k=k'
  ·subst h;rw[←qbO,qdS];simp only[qbO]
   congr 1
   split
   ·rfl
   ·split
    ·rfl
    ·split
     ·rfl
     ·split
      ·rfl
      ·rfl
  ·have:numC k k'≠0:=λe=>h (xB.1 e)
   unfold lexI;rw[qGq (by omega),qGq this]
theorem qfT:∀(l:List Tm),(∀a∈l,∀b c,C3 (cmpT a b) (cmpT b c) (cmpT a c))->∀m n,C3 (cmpE l m) (cmpE m n) (cmpE l n)
 |[],_,[],[]=>by simp[zk,C3]
 |[],_,[],c::n=>by simp[zk,xC,C3]
 |[],_,b::m,[]=>by simp[zk,xC,xD,C3]
 |[],_,b::m,c::n=>by
  rw[xC,xC];unfold C3;refine⟨?_,?_,?_,?_,?_,?_⟩<;>intros<;>omega
 |a::l,_,[],[]=>by simp[zk,xD,C3]
 |a::l,_,[],c::n=>by
  rw[xC,xD];unfold C3;refine⟨?_,?_,?_,?_,?_,?_⟩<;>intros<;>omega
 |a::l,_,b::m,[]=>by
  rw[xD,xD];unfold C3;refine⟨?_,?_,?_,?_,?_,?_⟩<;>intros<;>omega
 |a::l,h,b::m,c::n=>by
  rw[qdA,qdA,qdA];exact(h a (by simp) b c).lex λ_ _=>qfT l (λa ha=>h a (by simp[ha])) m n
theorem qny(a b c:Tm):C3 (cmpT a b) (cmpT b c) (cmpT a c):=by
 induction a using Tm.ind generalizing b c with
 |_ k n s l ih=>
  obtain⟨k',n',s',l'⟩:=b;obtain⟨k'',n'',s'',l''⟩:=c;rw[qdz,qdz,qdz];refine(qbK _ _ _).lex λh1 h2=>?_
  have e1:=xB.1 h1;have e2:=xB.1 h2;subst e1 e2;have hE:=qfT l ih l' l'';have hL:=(qbK l.length l'.length l''.length).lex λ_ _=>hE
  split
  ·exact qbK _ _ _
  ·split
   ·exact qsQ _ _ _
   ·split
    ·exact(qbK _ _ _).lex λ_ _=>hL
    ·split
     ·exact hL
     ·simp[C3]
theorem xS(a:Tm):cmpT a a=0:=by have:=qdy a a;omega
theorem yp{a b c:Tm}(h1:cmpT a b<=0)(h2:cmpT b c<=0):cmpT a c<=0:=(qny a b c).1 h1 h2
theorem qmy{a b c:Tm}(h1:cmpT a b<0)(h2:cmpT b c<=0):cmpT a c<0:=(qny a b c).2.1 h1 h2
def xP(k n:Int)(s:List UInt8)(m:Nat):Bool:=
 if k=1 then decide (-576460752303423488<=n)&&(decide (n<=576460752303423487)&&(decide (s=[])&&decide (m=0)))
 else if k=2 then decide (n=0)&&(decide (s.length<=64)&&decide (m=0))
 else if k=3 then decide (0<=n)&&(decide (n<=1073741824)&&(decide (s=[])&&decide (m=0)))
 else if k=4 then decide (0<=n)&&(decide (n<=1073741824)&&(decide (s=[])&&decide (m=0)))
 else if k=6 then decide (0<=n)&&(decide (n<=1073741824)&&(decide (s=[])&&decide (m=0)))
 else if k=5 then decide (0<=n)&&(decide (n<=1073741824)&&(decide (s=[])&&decide (m<=64)))
 else if k=7 then decide (n=0)&&(decide (s=[])&&decide (m<=64))
 else if k=8 then decide (n=0)&&(decide (s=[])&&decide (m=0))
 else if k=9 then decide (n=0)&&(decide (s=[])&&decide (m=2))
 else false
def Tm.sound(t:Tm):Bool:=xP t.kind t.num t.str t.subs.length
def Tm.own(t:Tm):Nat:=if t.kind=7∨t.kind=5 then 2 else 1
theorem vT(a b:Bool):(bif a then some (AV.bool b)else some (AV.bool false))=some (.bool (a&&b)):=by cases a<;>rfl
theorem qxf(s:List UInt8):(s==[])=decide (s=[]):=by cases s<;>simp
theorem beqI(a b:Int):(a==b)=decide (a=b):=by simp[beqD]
mutual
/-- may all parts of a term be? -/
def Tm.parts:Tm->Bool
 | .mk k n s l=>xP k n s l.length&&vw l
def vw:List Tm->Bool
 |[]=>true
 |t::l=>t.parts&&vw l
end
mutual
/-- how many words all parts have -/
def Tm.words:Tm->Nat
 | .mk k n s l=>(Tm.mk k n s l).own+vh l
def vh:List Tm->Nat
 |[]=>0
 |t::l=>t.words+vh l
end
theorem Tm.parts_eq(t:Tm):t.parts=(t.sound&&vw t.subs):=by cases t;rw[Tm.parts];rfl
theorem Tm.words_eq(t:Tm):t.words=t.own+vh t.subs:=by cases t;rw[Tm.words];rfl
theorem qcz(a b:List Tm):vw (a++b)=(vw a&&vw b):=by
 induction a with
 |nil=>simp[vw]
 |cons x l ih=>simp[vw,ih,Bool.and_assoc]
theorem qct(a b:List Tm):vh (a++b)=vh a+vh b:=by
 induction a with
 |nil=>simp[vh]
 |cons x l ih=>simp[vh,ih];omega
theorem qud(a:List Tm):vw a.reverse=vw a:=by
 induction a with
 |nil=>rfl
 |cons x l ih=>simp[qcz,vw,ih,Bool.and_comm]
theorem qtu(a:List Tm):vh a.reverse=vh a:=by
 induction a with
 |nil=>rfl
 |cons x l ih=>simp[qct,vh,ih];omega
theorem Tm.own_le(t:Tm):t.own<=2∧1<=t.own:=by unfold Tm.own;split<;>omega
theorem qxO(t:Tm):t.words<=2*t.w:=by
 induction t using Tm.ind with
 |_ k n s l ih=>
  have h1:vh l<=2*wL l:=by
   clear n s
   induction l with
   |nil=>simp[vh]
   |cons x l ih2=>
    have:=ih x (by simp);have:=ih2 (λt ht=>ih t (by simp[ht]));simp[vh];omega
  have:=(Tm.mk k n s l).own_le;rw[Tm.words,Tm.w_mk];omega
def chkS(R:List Tm)(wd:Nat):Int:=if vw R then(if 65536<wd+vh R then 3 else 0)else 2
def Tm.chk(t:Tm):Int:=chkS [t] 0
theorem qy7{R:List Tm}{x:Tm}{wd:Nat}(h:x.sound=false):chkS (R++[x]) wd=2:=by
 unfold chkS;rw[qcz];simp[vw,Tm.parts_eq,h]
theorem qol{R:List Tm}{x:Tm}{wd:Nat}(h:x.sound=true):chkS (R++x.subs.reverse) (wd+x.own)=chkS (R++[x]) wd:=by
 unfold chkS;simp only[qcz,qud,qct,qtu,vw,vh,Tm.parts_eq,Tm.words_eq,h,qGm,Bool.and_true];have:wd+x.own+(vh R+vh x.subs)=wd+(vh R+(x.own+vh x.subs+0)):=by omega
 rw[this]
theorem qmA(l:List Tm)(h:∀a∈l,a.parts=true->∀b:Tm,b.parts=true->cmpT a b=0->a=b):∀l',vw l=true->vw l'=true->cmpE l l'=0->l=l':=by
 induction l with
 |nil=>
  intro l' _ _ hc;cases l' with
  |nil=>rfl
  |cons b m=>rw[xC]at hc;cases hc
 |cons a l ih=>
  intro l' h1 h2 hc;cases l' with
  |nil=>rw[xD]at hc;cases hc
  |cons b m=>
   rw[zw]at hc;simp only[vw,qFJ]at h1 h2;split at hc
   ·rename_i hne;exact absurd hc hne
   ·rename_i he;have he:cmpT a b=0:=Decidable.not_not.1 he;rw[h a (by simp) h1.1 b h2.1 he,ih (λt ht=>h t (by simp[ht])) m h1.2 h2.2 hc]
theorem qve{l l':List Tm}(h:∀a∈l,a.parts=true->∀b:Tm,b.parts=true->cmpT a b=0->a=b)(h1:vw l=true)(h2:vw l'=true)(hc:cmpL l l'=0):l=l':=by
 unfold cmpL at hc;split at hc
 ·rename_i hne;exact absurd hc hne
 ·exact qmA l h l' h1 h2 hc
theorem qvK{a b:List UInt8}(h:strC a b=0):a=b:=by
 unfold strC at h;split at h
 ·assumption
 ·split at h<;>cases h
theorem qmz(a:Tm):a.parts=true->∀b:Tm,b.parts=true->cmpT a b=0->a=b:=by
 induction a using Tm.ind with
 |_ k n s l ih=>
  intro ha b hb hc;obtain⟨k',n',s',l'⟩:=b;rw[Tm.parts,qFJ]at ha hb;obtain⟨a1,a2⟩:=ha;obtain⟨b1,b2⟩:=hb;have hl:=λh:cmpL l l'=0=>qve ih a2 b2 h
  rw[qi6]at hc;split at hc
  ·rename_i hne;exact absurd hc hne
  ·rename_i he;have hk:k=k':=xB.1 (Decidable.not_not.1 he);subst hk;clear he ih a2 b2
   by_cases k1:k=1
   ·subst k1;simp[xP]at a1 b1;simp at hc;rw[xB.1 hc,a1.2.2.1,b1.2.2.1,a1.2.2.2,b1.2.2.2]
   by_cases k2:k=2
   ·subst k2;simp[xP]at a1 b1;simp at hc;rw[qvK hc,a1.1,b1.1,a1.2.2,b1.2.2]
   by_cases k3:k=3
   ·subst k3;simp[xP]at a1 b1;simp at hc;rw[xB.1 hc,a1.2.2.1,b1.2.2.1,a1.2.2.2,b1.2.2.2]
   by_cases k4:k=4
   ·subst k4;simp[xP]at a1 b1;simp at hc;rw[xB.1 hc,a1.2.2.1,b1.2.2.1,a1.2.2.2,b1.2.2.2]
   by_cases k6:k=6
   ·subst k6;simp[xP]at a1 b1;simp at hc;rw[xB.1 hc,a1.2.2.1,b1.2.2.1,a1.2.2.2,b1.2.2.2]
   by_cases k5:k=5
   ·subst k5;simp[xP]at a1 b1;simp at hc;split at hc
    ·rename_i he;rw[xB.1 he,a1.2.2.1,b1.2.2.1,hl hc]
    ·rename_i hne;exact absurd hc hne
   by_cases k7:k=7
   ·subst k7;simp[xP]at a1 b1;simp at hc;rw[a1.1,b1.1,a1.2.1,b1.2.1,hl hc]
   by_cases k8:k=8
   ·subst k8;simp[xP]at a1 b1;rw[a1.1,b1.1,a1.2.1,b1.2.1,a1.2.2,b1.2.2]
   by_cases k9:k=9
   ·subst k9;simp[xP]at a1 b1;simp at hc;rw[a1.1,b1.1,a1.2.1,b1.2.1,hl hc]
   ·simp[xP,k1,k2,k3,k4,k5,k6,k7,k8,k9]at a1
def qcQ(p:Prop)(v:AV):Prop:=∃b:Bool,v= .bool b∧(b=true↔p)
theorem ym{p:Prop}{b:Bool}:qcQ p (.bool b)↔(b=true↔p):=⟨fun⟨_,h1,h2⟩=>by cases h1;exact h2,λh=>⟨b,rfl,h⟩⟩
end Go.Av
namespace Go.Proofs.YtgleolmhpmljhaaGreat
open Go.Av
theorem xg{n:Nat}(h:n<=1099511627776):qI n 56=true:=by
 unfold qI;rw[qFJ,qGj,qGj];omega
theorem qB(t:Tm):(AV.agg [.int .i64 t.kind,.int .i64 t.num,.str t.str,.sl (qa t.subs)])=t.av:=by rw[Tm.av,Tm.cells_eq]
def yD:List (List AV):=[[AV.fn (Fn.func 84) [] [AV.ptr 0 0 0]]]
theorem qw3(t:Tm):t.Ok->EVx (EV cfg) 84 [t.av,.ptr 0 0 0] 1 yD=some (t.av,yD):=by
 induction t using Tm.ind with
 |_ k n s l ih=>
  intro hok;have hlen:=hok.len;have loop:∀(d i:Nat),i+d=l.length->Gets (qla (qa l) i k n s (qa l) 0 0 [] [] (qa (l.take i)++qGd d [.int .i64 0,.int .i64 0,.str [],.nilS])) (·=((Tm.mk k n s l).av,yD)):=by
   intro d
   induction d with
   |zero=>
    intro i hi;refine qjE _ _ _ _ _ _ _ _ _ _ _ ?_;unfold rs4 st4;obtain rfl:i=l.length:=by omega
    have e:l.take l.length=l:=qFP (qFH _);rw[e];simp;rfl
   |succ d ihd=>
    intro i hi;refine qjE _ _ _ _ _ _ _ _ _ _ _ ?_;unfold rs4 st4;have hil:i<l.length:=by omega
    have hx:l[i]? =some l[i]:=qFE hil;have hxl:=qFK hx;have hix:=qmR (ih l[i] hxl (hok.sub hxl));have hih:=ihd (i+1) (by omega);have hw:=qo5 hil hlen;have e1:l.take (i+1)=l.take i++[l[i]]:=by rw[qGk,hx];rfl
    have ht:(qa (l.take i)).length=i:=by rw[qb,qF9];omega
    have g:(qa (l.take i)++qGd (d+1) [AV.int .i64 0,.int .i64 0,.str [],.nilS])[i]? =some [AV.int .i64 0,.int .i64 0,.str [],.nilS]:=by
     rw[qF0 (by omega),ht,Nat.sub_self];rfl
    have g2:(qa (l.take i)++qGd (d+1) [AV.int .i64 0,.int .i64 0,.str [],.nilS]).set i l[i].cells=qa (l.take (i+1))++qGd d [AV.int .i64 0,.int .i64 0,.str [],.nilS]:=by
     rw[List.set_append_right _ _ (by omega),e1,qW,qF,qO];have e3:i - (qa (l.take i)).length=0:=by omega
     rw[e3,List.replicate_succ,List.set_cons_zero,qGl];rfl
    simp only[yD]at hix;simp[hil,hx,hix,g,hw];rw[g2]
    simpa using hih
  apply Gets.get;rw[Tm.av_mk];refine qu7 _ _ _ _ ?_;rw[qb]
  by_cases hl:l.length=0
  ·have:l=[]:=List.length_eq_zero_iff.1 hl;subst this;simp[yD,AV.refsLt,qK]
  ·have hl':((l.length:Int)==0)=false:=by rw[beqD];exact qGp (by omega)
   have h56:qj ((l.length:Int)*56) 140737488355328=true:=by simp[qj];omega
   have hm:qj (l.length:Int) 9223372036854775807=true:=by simp[qj];omega
   have hz:qj 0 (l.length:Int)=true:=qv _;have hs:qj (l.length:Int) (l.length:Int)=true:=by simp[qj]
   rw[hl',h56,hm,hz,hs];have:=loop l.length 0 (by omega);rw[Tm.av_mk]at this
   simpa using this
theorem qnw{t:Tm}(h:t.Ok):EVf (EV cfg) 51 [t.av]=some t.av:=by
 have h1:=qmR (qw3 t h);obtain⟨k,n,s,l⟩:=t;rw[Tm.av_mk]at h1⊢;apply Gets.get;refine qot _ _ _ _ ?_;simp only[yD]at h1;rw[h1];simp[←Tm.av_mk]
def avL(t:Tm):AV:=.agg [.int .i64 t.kind,.int .i64 t.num,.str t.str,.lsl (qa t.subs)]
theorem qe4(k n:Int)(s:List UInt8)(l:List Tm):avL (Tm.mk k n s l)= .agg [.int .i64 k,.int .i64 n,.str s,.lsl (qa l)]:=rfl
theorem qu8(t:Tm):t.Ok->EVx (EV cfg) 84 [avL t,.ptr 0 0 0] 1 yD=some (t.av,yD):=by
 induction t using Tm.ind with
 |_ k n s l ih=>
  intro hok;have hlen:=hok.len;have loop:∀(d i:Nat),i+d=l.length->Gets (qiu (qa l) i k n s 0 0 [] [] (qa (l.take i)++qGd d [.int .i64 0,.int .i64 0,.str [],.nilS])) (·=((Tm.mk k n s l).av,yD)):=by
   intro d
   induction d with
   |zero=>
    intro i hi;refine qgK _ _ _ _ _ _ _ _ _ _ ?_;unfold rs4 st4;obtain rfl:i=l.length:=by omega
    have e:l.take l.length=l:=qFP (qFH _);rw[e];simp;rfl
   |succ d ihd=>
    intro i hi;refine qgK _ _ _ _ _ _ _ _ _ _ ?_;unfold rs4 st4;have hil:i<l.length:=by omega
    have hx:l[i]? =some l[i]:=qFE hil;have hxl:=qFK hx;have hix:=qmR (ih l[i] hxl (hok.sub hxl));have hih:=ihd (i+1) (by omega);have hw:=qo5 hil hlen;have e1:l.take (i+1)=l.take i++[l[i]]:=by rw[qGk,hx];rfl
    have ht:(qa (l.take i)).length=i:=by rw[qb,qF9];omega
    have g:(qa (l.take i)++qGd (d+1) [AV.int .i64 0,.int .i64 0,.str [],.nilS])[i]? =some [AV.int .i64 0,.int .i64 0,.str [],.nilS]:=by
     rw[qF0 (by omega),ht,Nat.sub_self];rfl
    have g2:(qa (l.take i)++qGd (d+1) [AV.int .i64 0,.int .i64 0,.str [],.nilS]).set i l[i].cells=qa (l.take (i+1))++qGd d [AV.int .i64 0,.int .i64 0,.str [],.nilS]:=by
     rw[List.set_append_right _ _ (by omega),e1,qW,qF,qO];have e3:i - (qa (l.take i)).length=0:=by omega
     rw[e3,List.replicate_succ,List.set_cons_zero,qGl];rfl
    simp only[yD,avL]at hix;simp[hil,hx,hix,g,hw];rw[g2]
    simpa using hih
  apply Gets.get;rw[Tm.av_mk,qe4];refine qsy _ _ _ _ ?_;rw[qb]
  by_cases hl:l.length=0
  ·have:l=[]:=List.length_eq_zero_iff.1 hl;subst this;simp[yD,AV.refsLt,qK]
  ·have hl':((l.length:Int)==0)=false:=by rw[beqD];exact qGp (by omega)
   have h56:qj ((l.length:Int)*56) 140737488355328=true:=by simp[qj];omega
   have hm:qj (l.length:Int) 9223372036854775807=true:=by simp[qj];omega
   have hz:qj 0 (l.length:Int)=true:=qv _;have hs:qj (l.length:Int) (l.length:Int)=true:=by simp[qj]
   rw[hl',h56,hm,hz,hs];have:=loop l.length 0 (by omega);rw[Tm.av_mk]at this
   simpa using this
theorem qyZ{t:Tm}(h:t.Ok):EVf (EV cfg) 51 [avL t]=some t.av:=by
 have h1:=qmR (qu8 t h);obtain⟨k,n,s,l⟩:=t;rw[Tm.av_mk,qe4]at h1⊢;apply Gets.get;refine qm0 _ _ _ _ ?_;simp only[yD]at h1;rw[h1];simp[←Tm.av_mk]
def avR(id:Nat)(t:Tm):AV:=.agg [.int .i64 t.kind,.int .i64 t.num,.str t.str,.rsl id (qa t.subs)]
theorem qv0{L:Lent}{C:qk}{μ:MMap}(l:List Tm)(ih:∀t∈l,∀v,@Rep L C μ (.sl (qa t.subs)) v->Rep0 C (.sl (qa t.subs)) v){v:Value}(h: @Rep L C μ (.sl (qa l)) v):Rep0 C (.sl (qa l)) v:=by
 generalize hR:qa l=R at h;cases h with
 |slNil=>exact .slNil
 |sl _ a cap sz vals hs hsz hc hr hcell hcap hfree=>
  refine .sl R a cap sz vals hs hsz hc (λi j row x h1 h2=>?_) hcell hcap hfree;have hrep:=hr i j row x h1 h2;rw[←hR,xy]at h1;cases hl:l[i]? with
  |none=>rw[hl]at h1;cases h1
  |some t=>
   rw[hl]at h1;cases h1;obtain⟨k,n,s,l'⟩:=t;rw[Tm.cells_mk]at h2
   match j,h2 with
   |0,h2=>cases h2;generalize vals i 0=u at hrep⊢;cases hrep;exact .int _ _
   |1,h2=>cases h2;generalize vals i 1=u at hrep⊢;cases hrep;exact .int _ _
   |2,h2=>cases h2;generalize vals i 2=u at hrep⊢;cases hrep;exact .str _
   |3,h2=>cases h2;exact ih _ (qFK hl) _ hrep
   |j+4,h2=>simp at h2
theorem qeQ{L:Lent}{C:qk}{μ:MMap}(t:Tm):∀v,@Rep L C μ (.sl (qa t.subs)) v->Rep0 C (.sl (qa t.subs)) v:=by
 induction t using Tm.ind with
 |_ k n s l ih=>exact λv h=>qv0 l ih h
theorem Rep0.claims{D D':qk}{a:AV}{v:Value}(hD:∀b o v,D b o=some v->D' b o=some v)(h:Rep0 D a v):Rep0 D' a v:=by
 induction h with
 |int k n=>exact .int k n
 |bool b=>exact .bool b
 |str s=>exact .str s
 |nilS=>exact .nilS
 |slNil=>exact .slNil
 |em a cap=>exact .em a cap
 |sl rows a cap sz vals hs hsz hc _ hcell hcap hfree ih=>exact .sl rows a cap sz vals hs hsz (λi j row x h1 h2=>hD _ _ _ (hc i j row x h1 h2)) ih hcell hcap hfree
@[reducible] def vK(L:Lent)(C:qk)(w:World):Lent:=⟨λb o=>match C b o with|some v=>some v|none=>L.l b o,True,λb=>w.heap.size<=b,λ_=>none⟩
theorem qwA{L:Lent}{C:qk}{w:World}{b o:Nat}{v:Value}(h:C b o=some v)(hb:b<w.heap.size): @LC (vK L C w) (λ_ _=>none) b o=some v:=by
 unfold LC;refine(qGr (Nat.not_le.2 hb)).trans ?_;show(match C b o with|some v=>some v|none=>L.l b o)=some v;rw[h]
theorem qtm{cf:Orac}{f:Nat}{al:List AV}{v:AV}(h:EVf cf f al=some v):∃r H,cf (.f f) al []=some (r,H)∧(r.frz r.msIds H).fg=v:=by
 unfold EVf at h;cases hc:cf (.f f) al []with
 |none=>rw[hc]at h;cases h
 |some q=>rw[hc]at h;exact⟨q.1,q.2,rfl,Option.some.inj h⟩
theorem qwy[Lent](hu:Lent.u){f:FuncId}{al:List AV}{k n:Int}{s:List UInt8}{l:List Tm}(he:EVf (EV cfg) f al=some (Tm.mk k n s l).av){w:World}{vs:Array Value}(hw:Wld (λ_=>λ_=>none) (λ_=>none) [] w)(ha:qy (λ_=>λ_=>none) (λ_=>none) al vs):
  vB Tryz.prog (callFunc f vs) w (λv w1=>∃(D:qk) (v3:Value),v= .agg [.int .i64 k,.int .i64 n,.string ⟨s.toArray⟩,v3].toArray∧Rep0 D (.sl (qa l)) v3∧(∀b o u,D b o=some u->w1.cell? ⟨b,o,none⟩=some u∧w1.frozen? ⟨b,o,none⟩=false∧w.heap.size<=b) ∧
   (∀b,b<w.heap.size->w1.heap[b]? =w.heap[b]?)∧w.heap.size<=w1.heap.size∧w1.os=w.os∧w1.tape=w.tape∧w1.output=w.output):=by
 have he2:=qtm he;clear he;obtain⟨qr,qH,hq,hqe⟩:=he2;have hO:=yE cfg_ok;have hcall:=hO.calls _ _ _ _ _ hq (λ_=>λ_=>none) (λ_=>none) w vs _ ha hw rfl;refine hcall.mono λv w1 ⟨C2,μ2,e1,e2,e3⟩=>?_
 obtain⟨C3,a1,a2,a3⟩:=xb qr.msIds e2;have x:=e3.trans (a3 0 (Nat.zero_le _)) (qFH _);have r1:Rep C3 μ2 (Tm.mk k n s l).av v:=by
  rw[←hqe];exact((e1.mono a1 (λ_ _ h=>h)).frzA (xU.of a2)).fgA
 rw[Tm.av_mk]at r1;cases r1 with
 |agg _ us hl hh=>
 match us,hl,hh with
 |[u0,u1,u2,u3],_,hh=>
 have h0:Rep0 C3 (.sl (qa l)) u3:=qeQ (.mk k n s l) u3 (hh 3 _ _ rfl rfl);have q0:=hh 0 _ _ rfl rfl;have q1:=hh 1 _ _ rfl rfl;have q2:=hh 2 _ _ rfl rfl;cases q0;cases q1;cases q2;have hge:∀b o u,C3 b o=some u->w.heap.size<=b:=λb o u h=>by
  rcases Nat.lt_or_ge b w.heap.size with hb|hb
  ·have h5:=(x.fr b hb vE).2.2;rw[h5]at h;cases h
  ·exact hb
 exact⟨C3,u3,rfl,h0,λb o u h=>⟨a2.cl b o u h,a2.lnt.2.1 hu b o u (hw.lnt.2.2 b (hge b o u h)) h,hge b o u h⟩,λb hb=>(x.fr b hb vE).1,x.size,x.os,x.tape,x.output⟩
theorem qw2[L:Lent]{t:Tm}{C:qk}{w:World}{vs:Array Value}(hw:Wld C (λ_=>none) [] w)(ha:qy C (λ_=>none) [t.av] vs): @qy (vK L C w) (λ_=>λ_=>none) (λ_=>none) [avL t] vs:=by
 obtain⟨h1,h2⟩:=ha;refine⟨by simpa using h1,λi a v hi hv=>?_⟩
 match i,hi with
 |0,hi=>
  cases hi;have h3:=h2 0 t.av v rfl hv;obtain⟨k,n,s,l⟩:=t;rw[Tm.av_mk]at h3;rw[qe4];cases h3 with
  |agg _ us hl hh=>
   refine @Rep.agg (vK L C w) _ _ _ us hl (λi a v h1 h2=>?_)
   match i,h1 with
   |0,h1=>cases h1;have h4:=hh 0 _ v rfl h2;cases h4;exact @Rep.int (vK L C w) _ _ _ _
   |1,h1=>cases h1;have h4:=hh 1 _ v rfl h2;cases h4;exact @Rep.int (vK L C w) _ _ _ _
   |2,h1=>cases h1;have h4:=hh 2 _ v rfl h2;cases h4;exact @Rep.str (vK L C w) _ _ _
   |3,h1=>
    cases h1;have h4:=hh 3 _ v rfl h2;exact @Rep.lsl (vK L C w) _ _ _ _ (Rep0.claims (λb o v h=>qwA h (hw.block_lt h)) (qeQ (.mk k n s l) v h4))
   |i+4,h1=>simp at h1
 |i+1,hi=>simp at hi
end Go.Proofs.YtgleolmhpmljhaaGreat
end
noncomputable section
namespace Go.Proofs.YtgleolmhpmljhaaGreat.N
open Go.Av
def vn{α:Type}(f:Nat):List (Nat×α)->Option α
 |[]=>none
 |p::l=>if qFY p.1 f then some p.2 else vn f l
theorem yO{f:Nat}{fn:Func}:∀{l:List (Nat×Func)},yw f l=some fn->∃p∈l,p.1=f
 |[],h=>by cases h
 |q::l,h=>by
  rw[yw]at h;split at h
  ·rename_i e;exact⟨q,by simp,qFO e⟩
  ·obtain⟨p,h1,h2⟩:=yO h;exact⟨p,by simp[h1],h2⟩
def qlK:List (Nat×CMode):=[(51,.nfrz),(17,.nfrz),(52,.nfrz)]
def kL:List (Nat×Unit):=[(50,()),(21,()),(119,())]
open Classical in
def qe1 (args:List AV) (H:AH):Option (AV×AH):=
 match args,H with
 |[.agg [a,b,c,.sl rows]],[]=>if ∃t:Tm,t.Ok∧t.av= .agg [a,b,c,.sl rows]then some (.agg [a,b,c,.lsl rows],[])else none
 |_,_=>none
def xL:List (Nat×(List AV->AH->Option (AV×AH))):=[(51,qe1)]
def frzL:List (Nat×Nat×Nat):=[]
def qd3(f r k:Nat):List (Nat×Nat×Nat)->Bool
 |[]=>false
 |p::l=>(qFY p.1 f&&(qFY p.2.1 r&&qFY p.2.2 k))||qd3 f r k l
def ext(f:Nat):Option (List AV->AH->Option (AV×AH)):=
 match vn f xL with
 |some s=>some s
 |none=>match vn f kL with
  |some _=>some (EV Go.Proofs.YtgleolmhpmljhaaGreat.cfg (.f f))
  |none=>Go.Proofs.YtgleolmhpmljhaaGreat.cfg.ext f
def cfg:Cfg:={ Go.Proofs.YtgleolmhpmljhaaGreat.cfg with mode:=λf=>match vn f qlK with|some m=>m|none=>Go.Proofs.YtgleolmhpmljhaaGreat.cfg.mode f,frz:=λf r k=>qd3 f r k frzL||Go.Proofs.YtgleolmhpmljhaaGreat.cfg.frz f r k,ext:=ext }
theorem qdr:qad.all (λp=>(vn p.1 xL).isNone&&(vn p.1 kL).isNone)=true:=rfl
instance inl_ok:InlOk cfg where
 ok f fn h:=by
  have h:yw f qad=some fn:=h
  obtain⟨h1,h2,h3,h4⟩:=Go.Proofs.YtgleolmhpmljhaaGreat.inl_ok.ok f fn h
  refine⟨?_,h2,h3,h4⟩
  obtain⟨p,hp,rfl⟩:=yO h
  have:=List.all_eq_true.1 qdr p hp
  rw[qFJ,Option.isNone_iff_eq_none,Option.isNone_iff_eq_none]at this
  show ext p.1=none
  unfold ext
  rw[this.1,this.2]
  exact h1
theorem ev_k{f:Nat}(hx:(vn f xL).isNone=true)(hk:(vn f kL).isSome=true)(args:List AV)(H:AH):EV cfg (.f f) args H=EV Go.Proofs.YtgleolmhpmljhaaGreat.cfg (.f f) args H:=by
 have he:cfg.ext f=some (EV Go.Proofs.YtgleolmhpmljhaaGreat.cfg (.f f)):=by
  show ext f=_;unfold ext;rw[Option.isNone_iff_eq_none]at hx;obtain⟨u,hu⟩:=Option.isSome_iff_exists.1 hk;rw[hx,hu]
 have h1:∀n,evF cfg (n+1) (.f f) args H=EV Go.Proofs.YtgleolmhpmljhaaGreat.cfg (.f f) args H:=λn=>by
  show vR cfg (evF cfg n) (.f f) args H=_;unfold vR;simp only[he]
 have h0:evF cfg 0 (.f f) args H=none:=rfl;cases h:EV Go.Proofs.YtgleolmhpmljhaaGreat.cfg (.f f) args H with
 |some r=>exact qhB (g:=λn=>evF cfg n (.f f) args H) (λn r h=>qbR cfg n (.f f) args H r h) (n:=1) ((h1 0).trans h)
 |none=>
  have:¬∃(n:Nat) (r:AV×AH),evF cfg n (.f f) args H=some r:=by
   rintro⟨n,r,hr⟩;cases n with
   |zero=>rw[h0]at hr;cases hr
   |succ n=>rw[h1,h]at hr;cases hr
  exact dif_neg this
theorem qFy{f:Nat}(args:List AV)(hx:(vn f xL).isNone=true)(hk:(vn f kL).isSome=true):EVq (EV cfg) f args=EVq (EV Go.Proofs.YtgleolmhpmljhaaGreat.cfg) f args:=by unfold EVq;rw[ev_k hx hk]
end Go.Proofs.YtgleolmhpmljhaaGreat.N
end
noncomputable section
namespace Go.Av
def qjd(a:AV):Prop:=∀(L L':Lent) (C:qk) (μ:MMap) (v:Value),@Rep L C μ a v->@Rep L' C μ a v
theorem qjd.int(k:IntKind)(n:Int):qjd (.int k n):=λL L' C μ v h=>by cases h;exact @Rep.int L' _ _ _ _
theorem qjd.bool(b:Bool):qjd (.bool b):=λL L' C μ v h=>by cases h;exact @Rep.bool L' _ _ _
theorem qjd.sl{rows:List (List AV)}(h0:∀(L:Lent) (C:qk) (μ:MMap) (v:Value),@Rep L C μ (.sl rows) v->Rep0 C (.sl rows) v):qjd (.sl rows):=λL L' C μ v h=> @Rep0.rep C μ L' C _ _ (λ_ _ _ h=>h) (h0 L C μ v h)
def neR:List (List AV)->Bool
 |r::_=> !r.isEmpty
 |[]=>true
def AV.neT0:AV->Bool
 | .sl rows=>neR rows
 | .int _ _| .bool _| .str _=>true
 |_=>false
def AV.neT1:AV->Bool
 | .agg cs=>cs.all AV.neT0
 |a=>a.neT0
def AV.neT:AV->Bool
 | .tup cs=>cs.all AV.neT1
 |a=>a.neT1
theorem qy6{D:qk}{rows:List (List AV)}{v:Value}(h:Rep0 D (.sl rows) v)(hn:neR rows=true)(hne:rows≠[]):∃b o,D b o≠none:=by
 generalize hR:rows=R at h;cases h with
 |slNil=>exact absurd hR hne
 |sl _ a cap sz vals hs hsz hc hr hcell hcap hfree=>
  subst hR
  match rows,hne,hn,hc with
  |[]::l,_,hn,_=>cases hn
  |(x::r)::l,_,_,hc=>exact⟨_,_,by rw[hc 0 0 _ _ rfl rfl];simp⟩
@[reducible] def vQ(w:World):Lent:=⟨λ_ _=>none,True,λb=>w.heap.size<=b,λ_=>none⟩
noncomputable section
variable {L : Lent} {C C3 : qk} {μ μ' : MMap} {w0 : World} {D : qk}
theorem qyx{x:AV}(hn:x.neT0=true):x.rgA 0=x.regn 0:=by cases x<;>simp[AV.neT0]at hn<;>rfl
theorem qwu{x:AV}(hn:x.neT0=true):x.lend1=x.lend:=by cases x<;>simp[AV.neT0]at hn<;>rfl
theorem qwt{x:AV}(hn:x.neT1=true):rgIn 0 x=x.rgA 0:=by cases x<;>first|rfl|(simp[AV.neT1,AV.neT0]at hn)
theorem quj{x:AV}(hn:x.neT1=true):x.lendT=x.lend1:=by cases x<;>first|rfl|(simp[AV.neT1,AV.neT0]at hn)
end
theorem qDy{L:Lent}{C:qk}{w:World}(hw: @Wld L C (λ_=>none) [] w): @Wld (vQ w) C (λ_=>none) [] w:=
 @Wld.mk (vQ w) _ _ _ _ hw.cl (λid m hm=>(nomatch hm)) (λid hi=>rfl) (λid blk h1=>(by simp at h1)) (λid d sz rs h1=>(by simp at h1)) (λi i' b b' m m' h1=>(by simp at h1)) yL.nil
  ⟨λb o v h=>(by cases h),λ_ b o v hn h=>absurd (hw.block_lt h) (Nat.not_lt.2 hn),λb hb=>hb⟩
end Go.Av
end
noncomputable section
namespace Go.Proofs.YtgleolmhpmljhaaGreat.N
open Go.Av Go.ChangeShapes Go.WideShapes Go.ChangeAt Go.RowKit
theorem qyw[L:Lent]{f:FuncId}{al:List AV}{t:Tm}(he:EVf (EV Go.Proofs.YtgleolmhpmljhaaGreat.cfg) f al=some t.av){C:qk}{w:World}{vs:Array Value}(hw:Wld C (λ_=>none) [] w)(ha': @qy (vK L C w) (λ_=>λ_=>none) (λ_=>none) al vs):
  vB Tryz.prog (callFunc f vs) w (vY C (λ_=>none) [] w (avL t) []):=by
 have hlent:∀b o v,(vK L C w).l b o=some v->w.cell? ⟨b,o,none⟩=some v∧∀ob,(vK L C w).k b=some ob->w.heap[b]? =some ob:=λb o v h=>by
  have h:(match C b o with|some v=>some v|none=>L.l b o)=some v:=h;split at h
  ·rename_i u hu;cases h;exact⟨hw.cl _ _ _ hu,λ_ h=>(nomatch h)⟩
  ·exact⟨(hw.lnt.1 _ _ _ h).1,λ_ h=>(nomatch h)⟩
 have hw': @Wld (vK L C w) (λ_=>λ_=>none) (λ_=>none) [] w:=
  @Wld.mk (vK L C w) _ _ _ _ (λb o v h=>(nomatch h)) (λid m hm=>(nomatch hm)) (λid hi=>rfl) (λid blk h1=>(by simp at h1)) (λid d sz rs h1=>(by simp at h1)) (λi i' b b' m m' h1=>(by simp at h1)) yL.nil ⟨hlent,λ_ b o v _ h=>(nomatch h),λb hb=>hb⟩
 obtain⟨k,n,s,l⟩:=t;refine(@qwy (vK L C w) trivial _ _ _ _ _ _ he _ _ hw' ha').mono λv w1 ⟨D,u3,hv,h0,hD,old,hsz,hos,htp,hou⟩=>?_
 subst hv;have hw1:Wld C (λ_=>none) [] w1:=hw.world hsz old;have hC:∀b o v,C b o=some v->b<w.heap.size:=λb o v h=>hw.block_lt h
 let C':qk:=λb o=>match C b o with|some v=>some v|none=>D b o
 have cC:∀b o v,C b o=some v->C' b o=some v:=λb o v h=>by show(match C b o with|some v=>some v|none=>D b o)=some v;rw[h]
 have cD:∀b o v,D b o=some v->C' b o=some v:=λb o v h=>by
  show(match C b o with|some v=>some v|none=>D b o)=some v;cases hc:C b o with
  |none=>exact h
  |some u=>have:=hC _ _ _ hc;have:=(hD b o v h).2.2;omega
 have split:∀b o v,C' b o=some v->C b o=some v∨D b o=some v:=λb o v h=>by
  have h:(match C b o with|some v=>some v|none=>D b o)=some v:=h;cases hc:C b o with
  |none=>rw[hc]at h;exact .inr h
  |some u=>rw[hc]at h;exact .inl h
 have hnw:∀b,w.heap.size<=b->Lent.nw b:=hw.lnt.2.2;refine⟨C',λ_=>none,?_,⟨λb o v h=>?_,λid m hm=>(nomatch hm),λid hi=>rfl,λid blk h1=>(by simp at h1),λid d sz rs h1=>(by simp at h1),λi i' b b' m m' h1=>(by simp at h1),yL.nil,hw1.lnt.1,λhu b o v hn h=>?_,hw1.lnt.2.2⟩,⟨hos,htp,hou,hsz,cC,λid m _ hm=>(nomatch hm),λb hb hnl=>⟨old b hb,vE,?_⟩,qFH _⟩⟩
 ·rw[qe4];refine Rep.agg _ [.int .i64 k,.int .i64 n,.string ⟨s.toArray⟩,u3] rfl (λi a v h1 h2=>?_)
  match i,h1,h2 with
  |0,h1,h2=>cases h1;cases h2;exact .int _ _
  |1,h1,h2=>cases h1;cases h2;exact .int _ _
  |2,h1,h2=>cases h1;cases h2;exact .str _
  |3,h1,h2=>
   cases h1;cases h2;refine .lsl _ _ (h0.monoD λb o v h=>?_);unfold LC;rw[qGq (hnw b (hD b o v h).2.2)];exact cD b o v h
  |i+4,h1,h2=>simp at h1
 ·rcases split b o v h with h|h
  ·exact hw1.cl _ _ _ h
  ·exact(hD b o v h).1
 ·rcases split b o v h with h|h
  ·exact hw1.lnt.2.1 hu b o v hn h
  ·exact(hD b o v h).2.1
 ·funext o
  show(match C b o with|some v=>some v|none=>D b o)=C b o;cases hc:C b o with
  |some u=>rfl
  |none=>
   cases hd:D b o with
   |none=>rfl
   |some u=>have:=(hD b o u hd).2.2;omega
theorem qAZ[L:Lent]{args:List AV}{H H':AH}{r:AV}{C:qk}{μ:MMap}{w:World}{vs:Array Value}(hr:qe1 args H=some (r,H'))(ha:qy C μ args vs)(hw:Wld C μ H w):
  vB Tryz.prog (callFunc 51 vs) w (vY C μ H w r H'):=by
 unfold qe1 at hr;split at hr
 case h_2=>cases hr
 rename_i a b c rows;split at hr
 case isFalse=>cases hr
 rename_i hx;obtain⟨t,hok,ht⟩:=hx;cases hr;have hμ:μ=λ_=>none:=by
  funext id
  cases hm:μ id with
  |none=>rfl
  |some m=>have:=hw.dom id m hm;simp at this
 subst hμ;have e2:avL t= .agg [a,b,c,.lsl rows]:=by
  obtain⟨k,n,s,l⟩:=t;rw[Tm.av_mk]at ht;simp only[AV.agg.injEq,List.cons.injEq,AV.sl.injEq,and_true]at ht;obtain⟨rfl,rfl,rfl,rfl⟩:=ht;rfl
 rw[←ht]at ha;have h:=qyw (f:=51) (al:=[avL t]) (qyZ hok) hw (qw2 hw ha);rw[e2]at h;exact h
theorem cfg_ok[Lent]:CfgOk cfg where
 ty:=⟨λt ti h=>BT.all_look qha h⟩
 mixed:=qdo
 named:=λf fn _ h=>qdn f fn h
 ext:=λf s h args H r H' hr C μ w vs ha hw=>by
  have h:ext f=some s:=h;unfold ext at h;split at h
  ·rename_i s' hs;cases h;unfold xL at hs;rw[vn]at hs;split at hs
   ·rename_i e;have e:=qFO e;subst e;cases hs;exact qAZ hr ha hw
   ·rw[vn]at hs;cases hs
  ·split at h
   ·cases h;exact(yE Go.Proofs.YtgleolmhpmljhaaGreat.cfg_ok).calls _ _ _ _ _ hr C μ w vs _ ha hw rfl
   ·exact Go.Proofs.YtgleolmhpmljhaaGreat.cfg_ok.ext f s h args H r H' hr C μ w vs ha hw
theorem qqR{t:Tm}(h:t.Ok):EVn (EV cfg) 51 [t.av]=some t.av:=by
 obtain⟨k,n,s,l⟩:=t;have e:EV cfg (.f 51) [(Tm.mk k n s l).av] []=some (avL (.mk k n s l),[]):=by
  refine qcS ?_;unfold vR;have hx:cfg.ext 51=some qe1:=rfl;simp only[hx];rw[Tm.av_mk];show qe1 [.agg [.int .i64 k,.int .i64 n,.str s,.sl (qa l)]] []=_;exact qGq ⟨_,h,Tm.av_mk k n s l⟩
 unfold EVn;rw[e,Tm.av_mk];rfl
end Go.Proofs.YtgleolmhpmljhaaGreat.N
end
noncomputable section
namespace Go.Proofs.YtgleolmhpmljhaaGreat.L
open Go.Av
def vn{α:Type}(f:Nat):List (Nat×α)->Option α
 |[]=>none
 |p::l=>if qFY p.1 f then some p.2 else vn f l
theorem qci{α:Type}{p:Nat->α->Prop}{f:Nat}{x:α}:∀{l:List (Nat×α)},(∀q∈l,p q.1 q.2)->vn f l=some x->p f x
 |[],_,h=>by cases h
 |q::l,ha,h=>by
  rw[vn]at h;split at h
  ·rename_i e;cases h;rw[←qFO e];exact ha q (by simp)
  ·exact qci (λq hq=>ha q (by simp[hq])) h
theorem yO{f:Nat}{fn:Func}:∀{l:List (Nat×Func)},yw f l=some fn->∃p∈l,p.1=f
 |[],h=>by cases h
 |q::l,h=>by
  rw[yw]at h;split at h
  ·rename_i e;exact⟨q,by simp,qFO e⟩
  ·obtain⟨p,h1,h2⟩:=yO h;exact⟨p,by simp[h1],h2⟩
def qlK:List (Nat×CMode):=[]
def kL:List (Nat×Unit):=[(18,()),(27,()),(57,()),(58,()),(60,()),(20,()),(24,()),(26,()),(29,()),(31,()),(19,()),(21,()),(25,()),(28,()),(30,()),(46,()),(56,()),(59,()),(87,()),(11,()),(36,()),(37,()),(39,()),(43,()),(77,()),(38,()),(41,()),(40,()),(42,())]
open Classical in
def extL (f:Nat) (args:List AV) (H:AH):Option (AV×AH):=
 match args,H with
 |[.agg [a,b,c,.lsl rows]],[]=>if ∃t:Tm,t.av= .agg [a,b,c,.sl rows]then(EVn (EV N.cfg) f [.agg [a,b,c,.sl rows]]).bind λV=>if V.neT=true then some (V,[])else none else none
 |_,_=>EV Go.Proofs.YtgleolmhpmljhaaGreat.cfg (.f f) args H
def xL:List (Nat×(List AV->AH->Option (AV×AH))):=[(17,extL 17)]
def frzL:List (Nat×Nat×Nat):=[]
def qd3(f r k:Nat):List (Nat×Nat×Nat)->Bool
 |[]=>false
 |p::l=>(qFY p.1 f&&(qFY p.2.1 r&&qFY p.2.2 k))||qd3 f r k l
def ext(f:Nat):Option (List AV->AH->Option (AV×AH)):=
 match vn f xL with
 |some s=>some s
 |none=>match vn f kL with
  |some _=>some (EV Go.Proofs.YtgleolmhpmljhaaGreat.cfg (.f f))
  |none=>Go.Proofs.YtgleolmhpmljhaaGreat.cfg.ext f
def cfg:Cfg:={ Go.Proofs.YtgleolmhpmljhaaGreat.cfg with mode:=λf=>match vn f qlK with|some m=>m|none=>Go.Proofs.YtgleolmhpmljhaaGreat.cfg.mode f,frz:=λf r k=>qd3 f r k frzL||Go.Proofs.YtgleolmhpmljhaaGreat.cfg.frz f r k,ext:=ext }
theorem qdr:qad.all (λp=>(vn p.1 xL).isNone&&(vn p.1 kL).isNone)=true:=rfl
instance inl_ok:InlOk cfg where
 ok f fn h:=by
  have h:yw f qad=some fn:=h
  obtain⟨h1,h2,h3,h4⟩:=Go.Proofs.YtgleolmhpmljhaaGreat.inl_ok.ok f fn h
  refine⟨?_,h2,h3,h4⟩
  obtain⟨p,hp,rfl⟩:=yO h
  have:=List.all_eq_true.1 qdr p hp
  rw[qFJ,Option.isNone_iff_eq_none,Option.isNone_iff_eq_none]at this
  show ext p.1=none
  unfold ext
  rw[this.1,this.2]
  exact h1
theorem ev_k{f:Nat}(hx:(vn f xL).isNone=true)(hk:(vn f kL).isSome=true)(args:List AV)(H:AH):EV cfg (.f f) args H=EV Go.Proofs.YtgleolmhpmljhaaGreat.cfg (.f f) args H:=by
 have he:cfg.ext f=some (EV Go.Proofs.YtgleolmhpmljhaaGreat.cfg (.f f)):=by
  show ext f=_;unfold ext;rw[Option.isNone_iff_eq_none]at hx;obtain⟨u,hu⟩:=Option.isSome_iff_exists.1 hk;rw[hx,hu]
 have h1:∀n,evF cfg (n+1) (.f f) args H=EV Go.Proofs.YtgleolmhpmljhaaGreat.cfg (.f f) args H:=λn=>by
  show vR cfg (evF cfg n) (.f f) args H=_;unfold vR;simp only[he]
 have h0:evF cfg 0 (.f f) args H=none:=rfl;cases h:EV Go.Proofs.YtgleolmhpmljhaaGreat.cfg (.f f) args H with
 |some r=>exact qhB (g:=λn=>evF cfg n (.f f) args H) (λn r h=>qbR cfg n (.f f) args H r h) (n:=1) ((h1 0).trans h)
 |none=>
  have:¬∃(n:Nat) (r:AV×AH),evF cfg n (.f f) args H=some r:=by
   rintro⟨n,r,hr⟩;cases n with
   |zero=>rw[h0]at hr;cases hr
   |succ n=>rw[h1,h]at hr;cases hr
  exact dif_neg this
theorem qb6{f:Nat}(args:List AV)(hx:(vn f xL).isNone=true)(hk:(vn f kL).isSome=true):EVs (EV cfg) f args=EVs (EV Go.Proofs.YtgleolmhpmljhaaGreat.cfg) f args:=by unfold EVs;rw[ev_k hx hk]
theorem qi3{f:Nat}(args:List AV)(hx:(vn f xL).isNone=true)(hk:(vn f kL).isSome=true):EVf (EV cfg) f args=EVf (EV Go.Proofs.YtgleolmhpmljhaaGreat.cfg) f args:=by unfold EVf;rw[ev_k hx hk]
theorem qu0{f:Nat}(args:List AV)(sz:Nat)(rs:List (List AV))(hx:(vn f xL).isNone=true)(hk:(vn f kL).isSome=true):EVm (EV cfg) f args sz rs=EVm (EV Go.Proofs.YtgleolmhpmljhaaGreat.cfg) f args sz rs:=by unfold EVm;rw[ev_k hx hk]
end Go.Proofs.YtgleolmhpmljhaaGreat.L
end
noncomputable section
namespace Go.Proofs.YtgleolmhpmljhaaGreat.N
open Go.Av
def qCl:Den:=evC cfg (EV cfg) 52 none 0 (sub (qc Tryz.f52) [1,1,0,1,0,0])
def qC4:Ex×List AV×AH->Option AV:=kAft (Cfg.keepOut cfg 52 3) (kRun cfg (EV cfg) (kfN cfg 6) 52 none 0 (quF cfg (Cfg.lift cfg 52 0) Tryz.f52.results.toList) ([.block 0,.seq (sub (qc Tryz.f52) [1,1,1])]))
def qBz:List AV×AH->Option AV:=λp=>kOpt (LOOP 0 (some [3,6,7,8]) ([(3,4)]) qCl p) qC4
def qCm:Den:=evC cfg (EV cfg) 17 none 0 (sub (qc Tryz.f17) [1,1,1,0,1,0,0])
def qC5:Ex×List AV×AH->Option AV:=kAft (Cfg.keepOut cfg 17 5) (kRun cfg (EV cfg) (kfN cfg 6) 17 none 0 (quF cfg (Cfg.lift cfg 17 0) Tryz.f17.results.toList) ([.block 0,.seq (sub (qc Tryz.f17) [1,1,1,1])]))
def qth:List AV×AH->Option AV:=λp=>kOpt (LOOP 0 (some [4,16,17,18]) ([]) qCm p) qC5
abbrev qiy(A:Rz)(nv3:Nat)(v8:Int)(h0:Rz):Option (AV):=qBz (((fx 19 [(3,.ms 0 0 nv3),(6,.sl A),(7,.int .i64 (A.length:Int)),(8,.int .i64 v8)]):List AV),([.rows true 4 h0]:AH))
abbrev qAr(v18:Int):Option (AV):=qth (((fx 38 [(4,.nilS),(16,.nilS),(17,.int .i64 (0:Int)),(18,.int .i64 v18)]):List AV),([]:AH))
abbrev qfk(sz off len:Nat)(v18:Int)(h0:Rz):Option (AV):=qth (((fx 38 [(4,.ms 0 off len),(16,.ms 0 off len),(17,.int .i64 (↑len:Int)),(18,.int .i64 v18)]):List AV),([.rows true sz h0]:AH))
theorem qov(A:Rz){P:AV->Prop}(h:Gets (qiy A 0 0 []) P):Gets (EVn (EV cfg) 52 [.sl A]) P:=
  gE (λ_=>funN rfl rfl Tryz.func52 rfl) (by kernel_rfl) h
theorem qm6(kt nt:Int)(st:Bz)(lt:Rz){P:AV->Prop}(h:Gets (kOpt (EVq (EV cfg) 50 [.agg [.int .i64 kt,.int .i64 nt,.str st,.sl lt]]) λq=>kInt .i64 q.2 λn=>kOwn q.1 (bif n != 0 then some (AV.tup [.sl [],.int .i64 n])else qAr 0) λsz rs off len=>bif n != 0 then some (AV.tup [.sl [],.int .i64 n])else qfk sz off len 0 rs) P):Gets (EVn (EV cfg) 17 [.agg [.int .i64 kt,.int .i64 nt,.str st,.sl lt]]) P:=
  gE (λ_=>funN rfl rfl Tryz.func17 rfl) (by kernel_rfl) h
theorem qgO(A:Rz)(nv3:Nat)(v8:Int)(h0:Rz){P:AV->Prop}(h:Gets (bif decide (v8<(A.length:Int))then rs4 A v8 λn n_1 s rows=>(kOpt (EVn (EV cfg) 51 [.agg [.int .i64 n,.int .i64 n_1,.str s,.sl rows]]) λV=>kTmV V λn n_2 s rows=>(bif qFR (0+nv3) (qFI h0)&&qI (nv3+1) 56 then qiy A (nv3+1) (qFD .i64 (v8+1)) (qF2 (qFN nv3 h0) [[AV.int .i64 n,.int .i64 n_2,.str s,AV.lsl rows]])else none))else bif qFR (0+nv3) (qFI h0)then kOpt (unlR (qFN nv3 h0)) λrows=>some (.sl rows)else none) P):Gets (qiy A nv3 v8 h0) P:=
  gE (λ_=>qg (cfg:=cfg) (f:=52) (rd:=none) (bs:=0)) (by kernel_rfl) h
theorem qf9(sz off len:Nat)(v18:Int)(h0:Rz){P:AV->Prop}(h:Gets (bif decide (v18<(↑ len:Int))then bif qFY sz 6&&qj 0 v18&&qA v18 (↑ len:Int)then kOpt (qFG h0 (off+v18.toNat)) λrow=>bif qFR 6 (qFI row)then ql (qFN 6 row) λc cs=>kInt .i64 c λn=>ql cs λc cs=>kInt .i64 c λn_1=>ql cs λc cs=>kStr c λs=>ql cs λc cs=>kSl c λrows=>ql cs λc cs=>kSl c λrows_1=>ql cs λc cs=>kSl c λrows_2=>kNil cs (kOpt (EVn (EV cfg) 51 [.agg [.int .i64 n,.int .i64 n_1,.str s,.sl rows]]) λV=>kTmV V λn n_2 s rows=>(kOpt (EVn (EV cfg) 52 [.sl rows_1]) λV=>kSl V λrows_3=>kOpt (EVn (EV cfg) 52 [.sl rows_2]) λV=>kSl V λrows_4=>bif qFY sz 6&&qj 0 v18&&qA v18 (↑ len:Int)then kOpt (qFG h0 (off+v18.toNat)) λrow=>bif qFR 6 (qFI row)then qfk sz off len (qFD .i64 (v18+1)) (List.set h0 (off+v18.toNat) (.int .i64 n:: .int .i64 n_2:: .str s::AV.lsl rows::AV.lsl rows_3::AV.lsl rows_4::qGb 6 row))else none else none))else none else none else bif qFR (off+len) (qFI h0)then kOpt (unlR (qFN len (qGb off h0))) λrows=>some (AV.tup [.sl rows,.int .i64 0])else none) P):Gets (qfk sz off len v18 h0) P:=
  gE (λ_=>qg (cfg:=cfg) (f:=17) (rd:=none) (bs:=0)) (by kernel_rfl) h
end Go.Proofs.YtgleolmhpmljhaaGreat.N
end
noncomputable section
namespace Go.Av
def tupT(l:List Tm):Tm:=.mk 7 0 [] l
def qFh:Tm:=.mk 0 0 [] []
def InB(a:Int):Prop:= -576460752303423488<=a∧a<=576460752303423487
instance (a:Int):Decidable (InB a):=inferInstanceAs (Decidable (_∧_))
theorem beqS(a b:List UInt8):(a==b)=decide (a=b):=by by_cases h:a=b<;>simp[h]
theorem zH{a b:Int}(h:b≠0):qJ (Op.intDiv .quo .i64 a b)=some (.int .i64 (qFD .i64 (a.tdiv b))):=by
 unfold Op.intDiv;rw[qGr h];rfl
structure Env where
 obj:Tm
 binds:List (Int×Tm)
 self:Int
def qeU:List (List UInt8×List Int):=[
 ([115,101,108,102],[0]),
 ([105,115,95,97,116,111,109],[1]),
 ([105,115,95,105,110,116,101,103,101,114],[1]),
 ([105,115,95,108,105,115,116],[1]),
 ([105,115,95,116,117,112,108,101],[1]),
 ([105,115,95,112,105,100],[1]),
 ([105,115,95,102,117,110,99,116,105,111,110],[1]),
 ([105,115,95,114,101,102,101,114,101,110,99,101],[1]),
 ([110,111,116],[1]),
 ([98,110,111,116],[1]),
 ([97,98,115],[1]),
 ([116,117,112,108,101,95,115,105,122,101],[1]),
 ([115,105,122,101],[1]),
 ([104,100],[1]),
 ([116,108],[1]),
 ([108,101,110,103,116,104],[1]),
 ([43],[1,2]),
 ([45],[1,2]),
 ([61,61],[2]),
 ([61,58,61],[2]),
 ([47,61],[2]),
 ([61,47,61],[2]),
 ([60],[2]),
 ([61,60],[2]),
 ([62],[2]),
 ([62,61],[2]),
 ([97,110,100],[2]),
 ([111,114],[2]),
 ([120,111,114],[2]),
 ([97,110,100,97,108,115,111],[2]),
 ([111,114,101,108,115,101],[2]),
 ([42],[2]),
 ([100,105,118],[2]),
 ([114,101,109],[2]),
 ([98,97,110,100],[2]),
 ([98,111,114],[2]),
 ([98,120,111,114],[2]),
 ([101,108,101,109,101,110,116],[2])]
def qbk{β:Type}(op:List UInt8)(d:β):List (List UInt8×β)->β
 |[]=>d
 |p::l=>bif op==p.1 then p.2 else qbk op d l
theorem qhA{β γ:Type}(g:β->γ)(op:List UInt8)(d:β):∀l:List (List UInt8×β),qbk op (g d) (l.map λp=>(p.1,g p.2))=g (qbk op d l)
 |[]=>rfl
 |p::l=>by
  rw[List.map_cons,qbk,qbk,qhA g op d l];cases op==p.1<;>rfl
def opsG(op:List UInt8):List Int:=qbk op [] qeU
def qC(l:List Int):List (List AV):=l.map λn=>[.int .i64 n]
theorem vH(l:List Int):(qC l).length=l.length:=by simp[qC]
theorem qcm(l:List Int)(i:Nat):(qC l)[i]? =(l[i]?).map λn=>[AV.int .i64 n]:=by simp[qC]
def qFj(n:Int):Bool:=decide (1<=n)&&decide (n<=1073741824)
def yg(b:UInt8):Option Int:=if b.toNat<48 then none else if b.toNat>57 then none else some ((b.toNat:Int) - 48)
def varG:List UInt8->Option Int
 |[a,b]=>if a.toNat=36 then yg b else none
 |[a,b,c]=>if a.toNat=36∧b.toNat≠48 then(yg b).bind λx=>(yg c).map λy=>x*10+y else none
 |_=>none
theorem qco{b:UInt8}{x:Int}(h:yg b=some x):0<=x∧x<=9:=by
 unfold yg at h;split at h
 ·cases h
 ·split at h
  ·cases h
  ·cases h;omega
theorem qoR(a b:UInt8):varG [a,b]=if a.toNat=36 then yg b else none:=rfl
theorem qiK(a b c:UInt8):varG [a,b,c]=if a.toNat=36∧b.toNat≠48 then(yg b).bind λx=>(yg c).map λy=>x*10+y else none:=rfl
theorem qiJ{s:List UInt8}{x:Int}(h:varG s=some x):0<=x∧x<=99:=by
 unfold varG at h;split at h
 ·split at h
  ·have:=qco h;omega
  ·cases h
 ·split at h
  ·obtain⟨a,h1,h2⟩:=qFL.1 h;obtain⟨b,h3,rfl⟩:=qFM.1 h2;have:=qco h1;have:=qco h3;omega
  ·cases h
 ·cases h
def varT(t:Tm):Option Int:=if t.kind=2∧t.chk=0 then varG t.str else none
theorem qbW{n:Nat}(h:n<18446744073709551616):qFD .u64 (n:Int)=n:=by
 simp[qFD,IntKind.bits,IntKind.signed];omega
theorem qm8{n:Nat}(h:n<64):qJ (Op.shift .shl .u64 1 .i64 (n:Int))=some (.int .u64 ((2 ^ n:Nat):Int)):=by
 have hp:2 ^ n<18446744073709551616:=by
  have:2 ^ n<2 ^ 64:=Nat.pow_lt_pow_right (by omega) h
  simpa using this
 have:qJ (Op.shift .shl .u64 1 .i64 (n:Int))=some (.int .u64 (qFD .u64 (1*2 ^ (min (n:Int).toNat 64)))):=by
  unfold Op.shift;rw[qGr (by omega)];rfl
 rw[this,qFT,Nat.min_eq_left (by omega),Int.one_mul];have e:((2:Int) ^ n)=((2 ^ n:Nat):Int):=by simp
 rw[e,qbW hp]
theorem qsV{a b:Nat}(ha:a<18446744073709551616)(hb:b<18446744073709551616):qJ (Op.intBits .or .u64 (a:Int) (b:Int))=some (.int .u64 ((a ||| b:Nat):Int)):=by
 have:qJ (Op.intBits .or .u64 (a:Int) (b:Int))=some (.int .u64 (qFD .u64 (BitVec.ofInt 64 (a:Int) ||| BitVec.ofInt 64 (b:Int)).toNat)):=rfl;rw[this];have ea:(BitVec.ofInt 64 (a:Int)).toNat=a:=by simp[BitVec.toNat_ofInt];omega
 have eb:(BitVec.ofInt 64 (b:Int)).toNat=b:=by simp[BitVec.toNat_ofInt];omega
 have hlt:=(BitVec.ofInt 64 (a:Int) ||| BitVec.ofInt 64 (b:Int)).isLt;rw[qbW (by simpa using hlt),BitVec.toNat_or,ea,eb]
theorem qsR{a n:Nat}(ha:a<18446744073709551616)(hn:n<64):qJ (Op.shift .shr .u64 (a:Int) .i64 (n:Int))=some (.int .u64 ((a / 2 ^ n:Nat):Int)):=by
 have:qJ (Op.shift .shr .u64 (a:Int) .i64 (n:Int))=some (.int .u64 (Int.fdiv a (2 ^ (min (n:Int).toNat 64)))):=by
  unfold Op.shift;rw[qGr (by omega)];rfl
 rw[this,qFT,Nat.min_eq_left (by omega)];have e:((2:Int) ^ n)=((2 ^ n:Nat):Int):=by simp
 rw[e,Int.fdiv_eq_ediv_of_nonneg _ (Int.natCast_nonneg _)];rfl
theorem qtc{a:Nat}(ha:a<18446744073709551616):qJ (Op.intBits .and .u64 (a:Int) 1)=some (.int .u64 ((a % 2:Nat):Int)):=by
 have:qJ (Op.intBits .and .u64 (a:Int) 1)=some (.int .u64 (qFD .u64 (BitVec.ofInt 64 (a:Int) &&& BitVec.ofInt 64 1).toNat)):=rfl;rw[this];have ea:(BitVec.ofInt 64 (a:Int)).toNat=a:=by simp[BitVec.toNat_ofInt];omega
 have eb:(BitVec.ofInt 64 (1:Int)).toNat=1:=by decide
 rw[BitVec.toNat_and,ea,eb,Nat.and_one_is_mod,qbW (by omega)]
def qdD(p:Nat->Bool)(r:List AV):Prop:=∃(lo hi:Nat) (l:List AV),r= .int .u64 lo:: .int .u64 hi::l∧lo<18446744073709551616∧hi<18446744073709551616∧(∀n,n<64->lo.testBit n=p n)∧∀n,n<64->hi.testBit n=p (n+64)
def mayB:Int->List (Int×Tm)->Bool
 |_,[]=>true
 |last,p::l=>decide (last<p.1)&&(decide (p.1<=99)&&(decide (p.2.chk=0)&&mayB p.1 l))
def qup(n:Int):List (Int×Tm)->Option Tm
 |[]=>none
 |p::l=>if p.1=n then some p.2 else qup n l
structure BRow (m:List (Int×Tm)) (r:List AV):Prop where
 len:r.length=402
 set:qdD (λi=>(qup i m).isSome) r
 cells:∀i:Nat,i<100->∀t,qup i m=some t->(r.drop (2+i*4)).take 4=t.cells
 free:qK 0 r=true
mutual
/-- is a term an expression over some variables? -/
def isG (V : List Int) : Tm → Bool
  | .mk k n s l =>
    if k = 2 then (match varT (.mk k n s l) with | none => true | some x => decide (x ∈ V))
    else if k = 9 then allG V l
    else if k = 7 then
      (match l with
       | [] => false
       | (.mk k1 _ s1 l1) :: rest =>
         if k1 = 7 then decide (rest.length = 0) && allG V l1
         else if k1 = 2 then (if s1 = [99, 111, 110, 115, 116] then decide (rest.length = 1) else decide ((rest.length : Int) ∈ opsG s1) && allG V rest)
         else false)
    else true
def allG (V : List Int) : List Tm → Bool
  | [] => true
  | t :: l => isG V t && allG V l
end
theorem qkG{V:List Int}{t:Tm}(h:t.kind=2):isG V t=(match varT t with|none=>true|some x=>decide (x∈V)):=by
 obtain⟨k,n,s,l⟩:=t;simp only[Tm.kind_mk]at h;rw[isG.eq_def];simp only[];rw[qGq h]
theorem qqs{V:List Int}{t:Tm}(h:t.kind=9):isG V t=allG V t.subs:=by
 obtain⟨k,n,s,l⟩:=t;simp only[Tm.kind_mk]at h;subst h;rw[isG.eq_def];simp only[];rw[qGr (by omega),qGq trivial];rfl
theorem qs1{V:List Int}{t:Tm}(h:t.kind=7)(hl:t.subs=[]):isG V t=false:=by
 obtain⟨k,n,s,l⟩:=t;simp only[Tm.kind_mk,Tm.subs_mk]at h hl;subst h hl;rw[isG.eq_def];simp only[];rw[qGr (by omega),qGr (by omega),qGq trivial]
theorem qs0{V:List Int}{t f:Tm}{r:List Tm}(h:t.kind=7)(hl:t.subs=f::r):isG V t =
  if f.kind=7 then decide (r.length=0)&&allG V f.subs
  else if f.kind=2 then(if f.str=[99,111,110,115,116]then decide (r.length=1)else decide ((r.length:Int)∈opsG f.str)&&allG V r)else false:=by
 obtain⟨k,n,s,l⟩:=t;obtain⟨k1,n1,s1,l1⟩:=f;simp only[Tm.kind_mk,Tm.subs_mk]at h hl;subst h hl;rw[isG.eq_def];simp only[];rw[qGr (by omega),qGr (by omega),qGq trivial];rfl
theorem qob{V:List Int}{t:Tm}(h2:t.kind≠2)(h9:t.kind≠9)(h7:t.kind≠7):isG V t=true:=by
 obtain⟨k,n,s,l⟩:=t;simp only[Tm.kind_mk]at h2 h9 h7;rw[isG.eq_def];simp only[];rw[qGr h2,qGr h9,qGr h7]
def zs(V:List Int)(t:Tm):Int:=if t.chk=0 then(if isG V t then 0 else 10)else 2
theorem qag{t:Tm}:t.chk=0↔t.parts=true∧t.words<=65536:=by
 unfold Tm.chk chkS;simp only[vw,vh,Bool.and_true,qGi,Nat.add_zero];cases h:t.parts with
 |false=>simp
 |true=>
  simp
theorem qxP(l:List Tm)(h:∀x∈l,x.parts=true->x.w<=65*x.words):vw l=true->wL l<=65*vh l:=by
 induction l with
 |nil=>intro _;simp
 |cons x l ih=>
  intro hp;rw[vw,qFJ]at hp;have h1:=h x (by simp) hp.1;have h2:=ih (λy hy=>h y (by simp[hy])) hp.2;rw[vC,vh];omega
theorem qnN{k n:Int}{s:List UInt8}{m:Nat}(h:xP k n s m=true):s.length<=64∧m<=64:=by
 unfold xP at h
 repeat' split at h
 all_goals simp at h
 all_goals first|(obtain⟨_,_,h3,h4⟩:=h;subst h3;simp;omega)|(obtain⟨_,h3,h4⟩:=h;subst h3;simp;omega)|omega
theorem qAs(t:Tm):t.parts=true->t.w<=65*t.words:=by
 induction t using Tm.ind with
 |_ k n s l ih=>
  intro hp;rw[Tm.parts,qFJ]at hp;have h1:=qnN hp.1;have h2:=qxP l ih hp.2;have h3:=(Tm.mk k n s l).own_le;rw[Tm.w_mk,Tm.words];omega
theorem xX{t:Tm}(h:t.chk=0):t.w<=4259840:=by
 obtain⟨h1,h2⟩:=qag.1 h;have:=qAs t h1;omega
theorem qxW{t:Tm}(h:t.chk=0):t.subs.length<=64:=by
 obtain⟨h1,_⟩:=qag.1 h;rw[Tm.parts_eq,qFJ]at h1;exact(qnN h1.1).2
theorem qtv{x:Tm}{l:List Tm}(h:x∈l):x.words<=vh l:=by
 induction l with
 |nil=>cases h
 |cons y l ih=>
  rw[vh];rcases qF6.1 h with rfl|h
  ·omega
  ·have:=ih h;omega
theorem qfu{l:List Tm}(h:vw l=true):∀x∈l,x.parts=true:=by
 induction l with
 |nil=>intro x hx;cases hx
 |cons y l ih=>
  intro x hx;rw[vw,qFJ]at h;rcases qF6.1 hx with rfl|hx
  ·exact h.1
  ·exact ih h.2 x hx
theorem xi{t x:Tm}(h:t.chk=0)(hx:x∈t.subs):x.chk=0:=by
 obtain⟨h1,h2⟩:=qag.1 h;rw[Tm.parts_eq,qFJ]at h1;have:=qtv hx;rw[Tm.words_eq]at h2;exact qag.2 ⟨qfu h1.2 x hx,by omega⟩
theorem qbU{t:Tm}(h:t.chk=0)(hk:t.kind=9):∃a b,t.subs=[a,b]:=by
 obtain⟨h1,_⟩:=qag.1 h;rw[Tm.parts_eq,qFJ]at h1;have h2:xP t.kind t.num t.str t.subs.length=true:=h1.1;rw[hk]at h2;simp[xP]at h2
 match hl:t.subs,h2.2.2 with
 |[a,b],_=>exact⟨a,b,rfl⟩
def xm(l:List Tm):Tm:=l.foldr (λx e=>.mk 9 0 [] [x,e]) (.mk 8 0 [] [])
structure EnvOk (e:Env):Prop where
 obj:e.obj.chk=0
 may:mayB (-1) e.binds=true
 self:qFj e.self=true
def qbq:Nat->Tm->List Tm×Bool
 |0,_=>([],false)
 |n+1,t=>if t.kind=9 then(match t.subs with|[a,b]=>(a::(qbq n b).1,(qbq n b).2)|_=>([],false))else([],decide (t.kind=8))
def qG(t:Tm):List Tm×Bool:=qbq t.w t
theorem qsl:∀(n m:Nat) (t:Tm),t.w<=n->t.w<=m->qbq n t=qbq m t:=by
 intro n
 induction n with
 |zero=>intro m t h;have:=xW t;omega
 |succ n ih=>
  intro m t hn hm;obtain⟨m,rfl⟩:∃k,m=k+1:=⟨m - 1,by have:=xW t;omega⟩;rw[qbq,qbq]
  by_cases h9:t.kind=9
  ·rw[qGq h9,qGq h9];have hw:=t.w_eq;cases hs:t.subs with
   |nil=>rfl
   |cons a l=>
    cases l with
    |nil=>rfl
    |cons b l=>
     cases l with
     |nil=>
      rw[hs]at hw;simp only[vC,xO]at hw;simp only[];rw[ih m b (by omega) (by omega)]
     |cons c l=>rfl
  ·rw[qGr h9,qGr h9]
theorem yo{t a b:Tm}(hk:t.kind=9)(hs:t.subs=[a,b]):qG t=(a::(qG b).1,(qG b).2):=by
 have hw:=t.w_eq;rw[hs]at hw;simp only[vC,xO]at hw;unfold qG;obtain⟨n,hn⟩:∃n,t.w=n+1:=⟨t.w - 1,by have:=xW t;omega⟩;rw[hn,qbq,qGq hk,hs];simp only[];rw[qsl n b.w b (by omega) (qFH _)]
theorem zG{t:Tm}(hk:t.kind≠9):qG t=([],decide (t.kind=8)):=by
 unfold qG;obtain⟨n,hn⟩:∃n,t.w=n+1:=⟨t.w - 1,by have:=xW t;omega⟩;rw[hn,qbq,qGr hk]
theorem qy0{P:Tm->Prop}(h9:∀t a b,t.kind=9->t.subs=[a,b]->t.chk=0->P b->P t)(h0:∀t,t.kind≠9->t.chk=0->P t):∀(n:Nat) (t:Tm),t.w<=n->t.chk=0->P t:=by
 intro n
 induction n with
 |zero=>intro t h;have:=xW t;omega
 |succ n ih=>
  intro t hw hc
  by_cases hk:t.kind=9
  ·obtain⟨a,b,hs⟩:=qbU hc hk;have hwe:=t.w_eq;rw[hs]at hwe;simp only[vC,xO]at hwe;exact h9 t a b hk hs hc (ih b (by omega) (xi hc (by rw[hs];simp)))
  ·exact h0 t hk hc
theorem qs8{P:Tm->Prop}(t:Tm)(hc:t.chk=0)(h9:∀t a b,t.kind=9->t.subs=[a,b]->t.chk=0->P b->P t)(h0:∀t,t.kind≠9->t.chk=0->P t):P t:=qy0 h9 h0 t.w t (qFH _) hc
theorem qcO{t:Tm}(hc:t.chk=0):∀x∈(qG t).1,x.chk=0:=by
 refine qs8 (P:=λt=>∀x∈(qG t).1,x.chk=0) t hc (λt a b hk hs hc ih=>?_) (λt hk hc=>?_)
 ·rw[yo hk hs];intro x hx;rcases qF6.1 hx with rfl|hx
  ·exact xi hc (by rw[hs];simp)
  ·exact ih x hx
 ·rw[zG hk];intro x hx;cases hx
theorem zF{t:Tm}(hc:t.chk=0):wL (qG t).1+(qG t).1.length<=t.w:=by
 refine qs8 (P:=λt=>wL (qG t).1+(qG t).1.length<=t.w) t hc (λt a b hk hs hc ih=>?_) (λt hk hc=>?_)
 ·rw[yo hk hs,t.w_eq,hs];simp only[vC,xO,qGf];omega
 ·rw[zG hk];simp
def anyT(p:Tm):Bool:=decide (p.kind=2)&&(decide (p.str=[95])&&decide (p.chk=0))
def qb4(p:Tm):Bool:=(varT p).isSome||(decide (p.kind=7)||anyT p)
mutual
/-- does a variable stand in a pattern? -/
def vU (n:Int):Tm->Bool
 | .mk k _ s l=>if k=7∨k=9 then qlg n l else decide (k=2)&&decide (varG s=some n)
def qlg (n:Int):List Tm->Bool
 |[]=>false
 |t::l=>vU n t||qlg n l
end
theorem qlf(n:Int):∀l:List Tm,qlg n l=l.any (vU n)
 |[]=>rfl
 |t::l=>by rw[qlg,qlf n l];rfl
theorem zh(n:Int)(t:Tm):vU n t=if t.kind=7∨t.kind=9 then t.subs.any (vU n)else decide (t.kind=2)&&decide (varG t.str=some n):=by
 obtain⟨k,m,s,l⟩:=t;rw[vU,qlf];rfl
def yJ(p:Tm):List Int:=if p.chk=0 then((qGn 100).filter λn=>vU (n:Nat) p).map Int.ofNat else[]
structure Cl where
 head:Tm
 gs:List Tm
 bs:List Tm
 deriving Inhabited
def Cl.cells(c:Cl):List AV:=[.int .i64 c.head.kind,.int .i64 c.head.num,.str c.head.str,.sl (qa c.head.subs),.sl (qa c.gs),.sl (qa c.bs)]
def Cl.av(c:Cl):AV:=.agg c.cells
def qP(l:List Cl):List (List AV):=l.map Cl.cells
def qfb:Cl:=⟨qFh,[],[]⟩
theorem xH(l:List Cl):(qP l).length=l.length:=by simp[qP]
theorem qdM(l:List Cl)(i:Nat):(qP l)[i]? =(l[i]?).map Cl.cells:=by simp[qP]
theorem qdd(a b:List Cl):qP (a++b)=qP a++qP b:=by simp[qP]
theorem qvX(c:Cl):qP [c]=[c.cells]:=rfl
theorem qnY(l:List Cl)(i:Nat)(c:Cl):(qP l).set i c.cells=qP (l.set i c):=by simp[qP,List.map_set]
def xu(t:Tm):Option Cl:=
 if t.kind=7 then(match t.subs with
  |[h,g,b]=>if qb4 h&&((qG g).2&&((qG b).2&& !(qG b).1.isEmpty))&&((qG g).1.all (λe=>decide (zs (yJ h) e=0))&&(qG b).1.all (λe=>decide (zs (yJ h) e=0)))then some ⟨h,(qG g).1,(qG b).1⟩else none
  |_=>none)
 else none
def seqC:List Tm->Option (List Cl)
 |[]=>some []
 |t::l=>(xu t).bind λc=>(seqC l).map (c::·)
def clsG(t:Tm):List Cl×Int:=
 if t.chk=0 then(match seqC (qG t).1 with
  |some l=>if(qG t).2&& !l.isEmpty then(l,0)else([],10)
  |none=>([],10))
 else([],2)
theorem qkp:∀{l:List Tm} {cs:List Cl},seqC l=some cs->cs.length=l.length
 |[],cs,h=>by cases h;rfl
 |t::l,cs,h=>by
  rw[seqC]at h;obtain⟨c,_,h⟩:=qFL.1 h;obtain⟨r,hr,rfl⟩:=qFM.1 h;simp[qkp hr]
instance tmEq:DecidableEq Tm:=λ_ _=>Classical.propDecidable _
def clT(c:Cl):Tm:=tupT [c.head,xm c.gs,xm c.bs]
def selT(l:List Cl):Tm:=xm (l.map clT)
end Go.Av
end
noncomputable section
namespace Go.Proofs.YtgleolmhpmljhaaGreat
open Go.Av
theorem qso(kt nt:Int)(st:Bz)(lt V:Rz){P:AV->Prop}(h:Gets (bif kt==2 then kOpt (EVs (EV cfg) 141 [.agg [.int .i64 kt,.int .i64 nt,.str st,.sl lt]]) λv=>kTup v λcs=>ql cs λc cs=>kInt .i64 c λn=>ql cs λc cs=>qt c λb=>kNil cs (bif ! b then some (.bool true)else kOpt (EVs (EV cfg) 162 [.sl V,.int .i64 n]) λv=>qt v λb=>some (.bool b))else bif kt==9 then kOpt (EVs (EV cfg) 163 [.sl lt,.sl V]) λv=>qt v λb=>some (.bool b)else bif kt==7 then bif(lt.length:Int)==0 then some (.bool false)else bif qA 0 (lt.length:Int)then kOpt (qFG lt 0) λrow=>bif qFY (qFI row) 4 then bif qFR 4 (qFI row)then kTmC (qFN 4 row) λn n_1 s rows=>(bif qj 1 (lt.length:Int)then bif vP 4 lt then bif n==7 then bif(↑ (qFI (qFN (qFI lt - 1) (qGb 1 lt))):Int)==0 then kOpt (EVs (EV cfg) 163 [.sl rows,.sl V]) λv=>qt v λb=>some (.bool b)else some (.bool false)else bif n != 2 then some (.bool false)else bif s==[(99:UInt8),111,110,115,116]then some (.bool ((↑ (qFI (qFN (qFI lt - 1) (qGb 1 lt))):Int)==1))else kOpt (EVf (EV cfg) 164 [.str s]) λv=>kSl v λrows=>kOpt (EVs (EV cfg) 162 [.sl rows,.int .i64 (↑ (qFI (qFN (qFI lt - 1) (qGb 1 lt))):Int)]) λv=>qt v λb=>bif b then kOpt (EVs (EV cfg) 163 [.sl (qFN (qFI lt - 1) (qGb 1 lt)),.sl V]) λv=>qt v λb=>some (.bool b)else some (.bool false)else none else none)else none else none else none else some (.bool true)) P):Gets (EVs (EV cfg) 145 [.agg [.int .i64 kt,.int .i64 nt,.str st,.sl lt],.sl V]) P:=
  gE (λ_=>funS rfl rfl Tryz.func145 rfl) (by kernel_rfl) h
theorem qqx(L V:Rz){P:AV->Prop}(h:Gets (kOpt (EVs (EV cfg) 46 [.sl L,AV.fn (Fn.func 173) [] [AV.cptr [.sl V] 0]]) λv=>qt v λb=>some (.bool ! b)) P):Gets (EVs (EV cfg) 163 [.sl L,.sl V]) P:=
  gE (λ_=>funS rfl rfl Tryz.func163 rfl) (by kernel_rfl) h
theorem qnp(kt nt:Int)(st:Bz)(lt V:Rz){P:AV->Prop}(h:Gets (kOpt (EVs (EV cfg) 79 [.agg [.int .i64 kt,.int .i64 nt,.str st,.sl lt]]) λv=>kInt .i64 v λn=>bif n != 0 then some (.int .i64 2)else kOpt (EVs (EV cfg) 145 [.agg [.int .i64 kt,.int .i64 nt,.str st,.sl lt],.sl V]) λv=>qt v λb=>bif ! b then some (.int .i64 10)else some (.int .i64 0)) P):Gets (EVs (EV cfg) 119 [.agg [.int .i64 kt,.int .i64 nt,.str st,.sl lt],.sl V]) P:=
  gE (λ_=>funS rfl rfl Tryz.func119 rfl) (by kernel_rfl) h
def qEi:Den:=evC cfg (EV cfg) 19 none 0 (sub (qc Tryz.f19) [1,0,1,0,0])
def qER:Ex×List AV×AH->Option AV:=kAft (Cfg.keepOut cfg 19 2) (kRun cfg (EV cfg) (kfN cfg 6) 19 none 0 (vM cfg (Cfg.lift cfg 19 0) Tryz.f19.results.toList) ([.block 0,.seq (sub (qc Tryz.f19) [1,1])]))
def qDS:List AV×AH->Option AV:=λp=>kOpt (LOOP 0 (some [0,1,7,8]) ([]) qEi p) qER
abbrev qkX(L V:Rz)(v8:Int):Option (AV):=qDS (((fx 19 [(0,.sl L),(1,.fn (Fn.func 173) [] [.cptr [.sl V] 0]),(7,.int .i64 (L.length:Int)),(8,.int .i64 v8)]):List AV),([]:AH))
theorem qqS(L V:Rz){P:AV->Prop}(h:Gets (kOpt (EVs (EV cfg) 19 [.sl L,AV.fn (Fn.func 173) [] [AV.cptr [.sl V] 0]]) λv=>kInt .i64 v λn=>some (.bool (decide (n≥0)))) P):Gets (EVs (EV cfg) 46 [.sl L,.fn (Fn.func 173) [] [.cptr [.sl V] 0]]) P:=
  gE (λ_=>funS rfl rfl Tryz.func46 rfl) (by kernel_rfl) h
theorem qsn(L V:Rz){P:AV->Prop}(h:Gets (qkX L V 0) P):Gets (EVs (EV cfg) 19 [.sl L,.fn (Fn.func 173) [] [.cptr [.sl V] 0]]) P:=
  gE (λ_=>funS rfl rfl Tryz.func19 rfl) (by kernel_rfl) h
theorem qxm(ke ne:Int)(se:Bz)(le V:Rz){P:AV->Prop}(h:Gets (kOpt (EVs (EV cfg) 145 [.agg [.int .i64 ke,.int .i64 ne,.str se,.sl le],.sl V]) λv=>qt v λb=>some (.bool ! b)) P):Gets (EVs (EV cfg) 173 [.agg [.int .i64 ke,.int .i64 ne,.str se,.sl le],.cptr [.sl V] 0]) P:=
  gE (λ_=>funS rfl rfl Tryz.func173 rfl) (by kernel_rfl) h
theorem qjq(L V:Rz)(v8:Int){P:AV->Prop}(h:Gets (bif decide (v8<(L.length:Int))then rs4 L v8 λn n_1 s rows=>(kOpt (EVs (EV cfg) 173 [.agg [.int .i64 n,.int .i64 n_1,.str s,.sl rows],AV.cptr [.sl V] 0]) λv=>qt v λb=>bif b then some (.int .i64 v8)else qkX L V (qFD .i64 (v8+1)))else some (.int .i64 (- 1))) P):Gets (qkX L V v8) P:=
  gE (λ_=>qg (cfg:=cfg) (f:=19) (rd:=none) (bs:=0)) (by kernel_rfl) h
def qEr:Den:=evC cfg (EV cfg) 55 none 0 (sub (qc Tryz.f55) [1,1,1,0,1,0,0])
def qE0:Ex×List AV×AH->Option AV:=kAft (Cfg.keepOut cfg 55 5) (kRun cfg (EV cfg) (kfN cfg 6) 55 none 0 (vM cfg (Cfg.lift cfg 55 0) Tryz.f55.results.toList) ([.block 0,.seq (sub (qc Tryz.f55) [1,1,1,1])]))
def qD1:List AV×AH->Option AV:=λp=>kOpt (LOOP 0 (some [4,32,33,34]) ([]) qEr p) qE0
abbrev qc5(s:Bz)(v4 v34:Int)(h0:Rz):Option (AV):=qD1 (((fx 52 [(4,.int .i64 v4),(32,.ms 0 0 (qFI (qFN (qFI s - 1) (qGb 1 s)))),(33,.int .i64 (↑(qFI (qFN (qFI s - 1) (qGb 1 s))):Int)),(34,.int .i64 v34)]):List AV),([.rows true 1 h0]:AH))
abbrev zf1(s:Bz):Option (AV):=qc5 s 0 0 (List.map (λb=>[.int .u8 (↑ (UInt8.toNat b):Int)]) (qFN (qFI s - 1) (qGb 1 s)))
abbrev zf0(s:Bz):Option (AV):=bif qj 1 (s.length:Int)then zf1 s else none
theorem qoD(s:Bz){P:AV->Prop}(h:Gets (bif decide ((s.length:Int)<2)then some (AV.tup [.int .i64 0,.bool false])else bif decide ((s.length:Int)>3)then some (AV.tup [.int .i64 0,.bool false])else kOpt (qFG s 0) λb=>bif(↑ (UInt8.toNat b):Int) != 36 then some (AV.tup [.int .i64 0,.bool false])else bif(s.length:Int)==3 then kOpt (qFG s 1) λb=>bif(↑ (UInt8.toNat b):Int)==48 then some (AV.tup [.int .i64 0,.bool false])else zf0 s else zf0 s) P):Gets (EVs (EV cfg) 55 [.str s]) P:=
  gE (λ_=>funS rfl rfl Tryz.func55 rfl) (by kernel_rfl) h
theorem qub(kt nt:Int)(st:Bz)(lt:Rz){P:AV->Prop}(h:Gets (kOpt (EVs (EV cfg) 79 [.agg [.int .i64 kt,.int .i64 nt,.str st,.sl lt]]) λv=>kInt .i64 v λn=>some (.bool (n==0))) P):Gets (EVs (EV cfg) 53 [.agg [.int .i64 kt,.int .i64 nt,.str st,.sl lt]]) P:=
  gE (λ_=>funS rfl rfl Tryz.func53 rfl) (by kernel_rfl) h
theorem qua(kt nt:Int)(st:Bz)(lt:Rz){P:AV->Prop}(h:Gets (bif kt != 2 then some (AV.tup [.int .i64 0,.bool false])else kOpt (EVs (EV cfg) 53 [.agg [.int .i64 kt,.int .i64 nt,.str st,.sl lt]]) λv=>qt v λb=>bif ! b then some (AV.tup [.int .i64 0,.bool false])else kOpt (EVs (EV cfg) 55 [.str st]) λv=>kTup v λcs=>ql cs λc cs=>kInt .i64 c λn=>ql cs λc cs=>qt c λb=>kNil cs (some (AV.tup [.int .i64 n,.bool b]))) P):Gets (EVs (EV cfg) 141 [.agg [.int .i64 kt,.int .i64 nt,.str st,.sl lt]]) P:=
  gE (λ_=>funS rfl rfl Tryz.func141 rfl) (by kernel_rfl) h
abbrev zf2(v:AV):Option (AV):=kInt .u64 v λn=>kOpt (qJ (Op.intBits BinOp.and .u64 n 1)) λv=>kInt .u64 v λn=>some (.bool (n==1))
theorem qtG(n:Int)(r:List AV){P:AV->Prop}(h:Gets (bif decide (n<64)then kOpt (qFG r 0) λv=>kInt .u64 v λn_1=>kOpt (qJ (Op.shift BinOp.shr .u64 n_1 .i64 n)) λv=>zf2 v else kOpt (qFG r 1) λv=>kInt .u64 v λn_1=>kOpt (qJ (Op.shift BinOp.shr .u64 n_1 .i64 (qFD .i64 (n - 64)))) λv=>zf2 v) P):Gets (EVs (EV cfg) 144 [.cptr r 0,.int .i64 n]) P:=
  gE (λ_=>funS rfl rfl Tryz.func144 rfl) (by kernel_rfl) h
theorem qjw(s:Bz)(v4 v34:Int)(h0:Rz){P:AV->Prop}(h:Gets (bif decide (v34<(↑ (qFI (qFN (qFI s - 1) (qGb 1 s))):Int))then bif qj 0 v34&&qA v34 (↑ (qFI (qFN (qFI s - 1) (qGb 1 s))):Int)then kOpt (qFG h0 (0+v34.toNat)) λrow=>kOpt (qFG row 0) λv=>kInt .u8 v λn=>bif decide (n<48)then some (AV.tup [.int .i64 0,.bool false])else bif decide (n>57)then some (AV.tup [.int .i64 0,.bool false])else qc5 s (qFD .i64 (qFD .i64 (v4*10)+qFD .i64 (qFD .u8 (n - 48)))) (qFD .i64 (v34+1)) h0 else none else some (AV.tup [.int .i64 v4,.bool true])) P):Gets (qc5 s v4 v34 h0) P:=
  gE (λ_=>qg (cfg:=cfg) (f:=55) (rd:=none) (bs:=0)) (by kernel_rfl) h
def qxD:Den:=evC cfg (EV cfg) 136 none 5 (sub (qc Tryz.f136) [1,0,0])
def qxL:Ex×List AV×AH->Option AV:=kAft (Cfg.keepOut cfg 136 (qm (sub (qc Tryz.f136) [1,0,0]))) (vm 0 (xI cfg (Cfg.lift cfg 136 0) (fun(v:AV) (H:AH)=>(fun(r:AV×AH)=>yN 0 4 (fx 17 [(2,AV.ptr 1 0 0),(3,AV.ptr 2 0 0)]) (vm 0 (kSeq (fun(fr:List AV) (H:AH)=>ve (Cfg.cut cfg 79 (qm (sub (qc Tryz.f79) [1,1,1]))) fr H fun(fr:List AV) (H:AH)=>qR cfg (EV cfg) (kfN cfg 6) 79 none 0 (sub (qc Tryz.f79) [1,1,1]) fr H (vM cfg (Cfg.lift cfg 79 0) (qGg (Func.results Tryz.f79)))) (vM cfg (Cfg.lift cfg 79 0) (qGg (Func.results Tryz.f79))))) (Prod.snd r)) (v,H)) (qGg (Func.results (Prod.snd (136,Tryz.f136))))))
def qDZ:List AV×AH->Option AV:=fun(p:List AV×AH)=>kOpt (LOOP 5 (some [0,3]) [(3,4)] qxD p) qxL
def qEp:Den:=evC cfg (EV cfg) 151 none 10 (sub (qc Tryz.f151) [1,0,0])
def qEY:Ex×List AV×AH->Option AV:=kAft (Cfg.keepOut cfg 151 (qm (sub (qc Tryz.f151) [1,0,0]))) (vm 0 (xI cfg (Cfg.lift cfg 151 0) (fun(v:AV) (H:AH)=>(fun(r:AV×AH)=>yN 5 9 (fx 38 [(0,AV.yld 4),(3,AV.ptr 5 0 0)]) (vm 2 (vm 1 (kLp 5 (some [0,3]) [(3,4)] qxD qxL))) (Prod.snd r)) (v,H)) (qGg (Func.results (Prod.snd (151,Tryz.f151))))))
def qxs:List AV×AH->Option AV:=fun(p:List AV×AH)=>kOpt (LOOP 10 (some [0,1,3]) [] qEp p) qEY
abbrev qc4(c0_0 c0_1:Int)(c0_2:Bz)(c0_3:Rz)(c1_0 c2_0 c3_0 c3_1:Int)(c3_2:Bz)(c3_3:Rz)(nc5_0:Nat)(h6:Rz):Option (AV):=qDZ (((fx 38 [(0,.yld 4),(3,.ptr 5 0 0)]):List AV),([.rows false 4 [[.int .i64 c0_0,.int .i64 c0_1,.str c0_2,.sl c0_3]],.rows false 1 [[.int .i64 c1_0]],.rows false 1 [[.int .i64 c2_0]],.rows false 4 [[.int .i64 c3_0,.int .i64 c3_1,.str c3_2,.sl c3_3]],rngB Tryz.f79 79 [1,1,0,1,0] (fx 17 [(2,.ptr 1 0 0),(3,.ptr 2 0 0)]) none LoopState.ready,.rows false 1 [[.ms 6 0 nc5_0]],.rows true 4 h6]:AH))
abbrev qo7(v3 c0_0 c0_1:Int)(c0_2:Bz)(c0_3:Rz)(c1_0 c2_0 c3_0 c3_1:Int)(c3_2:Bz)(c3_3:Rz)(nc5_0:Nat)(h6:Rz)(c7_0 c7_1:Int)(c7_2:Bz)(c7_3 c8_0:Rz):Option (AV):=qxs (((fx 19 [(0,.yld 9),(1,.ptr 8 0 0),(3,.int .i64 v3)]):List AV),([.rows false 4 [[.int .i64 c0_0,.int .i64 c0_1,.str c0_2,.sl c0_3]],.rows false 1 [[.int .i64 c1_0]],.rows false 1 [[.int .i64 c2_0]],.rows false 4 [[.int .i64 c3_0,.int .i64 c3_1,.str c3_2,.sl c3_3]],rngB Tryz.f79 79 [1,1,0,1,0] (fx 17 [(2,.ptr 1 0 0),(3,.ptr 2 0 0)]) none LoopState.ready,.rows false 1 [[.ms 6 0 nc5_0]],.rows true 4 h6,.rows false 4 [[.int .i64 c7_0,.int .i64 c7_1,.str c7_2,.sl c7_3]],.rows false 1 [[.sl c8_0]],rngB Tryz.f136 136 [1,0,0,1,0,1,1,1,1,0] (fx 38 [(3,.ptr 5 0 0)]) none LoopState.ready]:AH))
abbrev qmU(v3 c0_0 c0_1:Int)(c0_2:Bz)(c0_3:Rz)(c1_0 c2_0 c3_0 c3_1:Int)(c3_2:Bz)(c3_3:Rz)(nc5_0:Nat)(c7_0 c7_1:Int)(c7_2:Bz)(c7_3 c8_0 h10:Rz):Option (AV):=qxs (((fx 19 [(0,.yld 9),(1,.ptr 8 0 0),(3,.int .i64 v3)]):List AV),([.rows false 4 [[.int .i64 c0_0,.int .i64 c0_1,.str c0_2,.sl c0_3]],.rows false 1 [[.int .i64 c1_0]],.rows false 1 [[.int .i64 c2_0]],.rows false 4 [[.int .i64 c3_0,.int .i64 c3_1,.str c3_2,.sl c3_3]],rngB Tryz.f79 79 [1,1,0,1,0] (fx 17 [(2,.ptr 1 0 0),(3,.ptr 2 0 0)]) none LoopState.ready,.rows false 1 [[.ms 10 0 nc5_0]],.dead,.rows false 4 [[.int .i64 c7_0,.int .i64 c7_1,.str c7_2,.sl c7_3]],.rows false 1 [[.sl c8_0]],rngB Tryz.f136 136 [1,0,0,1,0,1,1,1,1,0] (fx 38 [(3,.ptr 5 0 0)]) none LoopState.ready,.rows true 4 h10]:AH))
abbrev zg4(kt:Int)(lt:Rz):Option (AV):=bif kt==5 then some (.bool (decide ((lt.length:Int)<=64)))else some (.bool false)
abbrev zg3(lt:Rz)(kt:Int):Option (AV):=bif(lt.length:Int)==0 then some (.bool true)else zg4 kt lt
abbrev zg2(st:Bz)(lt:Rz)(kt:Int):Option (AV):=bif st==[]then zg3 lt kt else some (.bool false)
abbrev zg1(nt:Int)(st:Bz)(lt:Rz)(kt:Int):Option (AV):=bif decide (nt<=1073741824)then zg2 st lt kt else some (.bool false)
abbrev zg0(nt:Int)(st:Bz)(lt:Rz)(kt:Int):Option (AV):=bif decide (nt≥0)then zg1 nt st lt kt else some (.bool false)
theorem qmZ(kt nt:Int)(st:Bz)(lt:Rz){P:AV->Prop}(h:Gets (bif kt==1 then bif decide (nt≥(- 576460752303423488))then bif decide (nt<=576460752303423487)then bif st==[]then some (.bool ((lt.length:Int)==0))else some (.bool false)else some (.bool false)else some (.bool false)else bif kt==2 then bif nt==0 then bif decide ((st.length:Int)<=64)then some (.bool ((lt.length:Int)==0))else some (.bool false)else some (.bool false)else bif kt==3 then zg0 nt st lt kt else bif kt==4 then zg0 nt st lt kt else bif kt==6 then zg0 nt st lt kt else bif kt==5 then zg0 nt st lt kt else bif kt==7 then bif nt==0 then bif st==[]then some (.bool (decide ((lt.length:Int)<=64)))else some (.bool false)else some (.bool false)else bif kt==8 then bif nt==0 then bif st==[]then some (.bool ((lt.length:Int)==0))else some (.bool false)else some (.bool false)else bif kt==9 then bif nt==0 then bif st==[]then some (.bool ((lt.length:Int)==2))else some (.bool false)else some (.bool false)else some (.bool false)) P):Gets (EVs (EV cfg) 110 [.agg [.int .i64 kt,.int .i64 nt,.str st,.sl lt]]) P:=
  gE (λ_=>funS rfl rfl Tryz.func110 rfl) (by kernel_rfl) h
theorem qpq(kt nt:Int)(st:Bz)(lt:Rz){P:AV->Prop}(h:Gets (bif kt==7 then some (.int .i64 2)else bif kt==5 then some (.int .i64 2)else some (.int .i64 1)) P):Gets (EVs (EV cfg) 111 [.agg [.int .i64 kt,.int .i64 nt,.str st,.sl lt]]) P:=
  gE (λ_=>funS rfl rfl Tryz.func111 rfl) (by kernel_rfl) h
theorem qm1(kt nt:Int)(st:Bz)(lt:Rz){P:AV->Prop}(h:Gets (qc4 kt nt st lt 0 0 kt nt st lt 1 [[.int .i64 kt,.int .i64 nt,.str st,.sl lt]]) P):Gets (EVs (EV cfg) 79 [.agg [.int .i64 kt,.int .i64 nt,.str st,.sl lt]]) P:=
  gE (λ_=>funS rfl rfl Tryz.func79 rfl) (by kernel_rfl) h
theorem qeb(c0_0 c0_1:Int)(c0_2:Bz)(c0_3:Rz)(c1_0 c2_0 c3_0 c3_1:Int)(c3_2:Bz)(c3_3:Rz)(nc5_0:Nat)(h6:Rz){P:AV->Prop}(h:Gets (bif decide ((↑ nc5_0:Int)>0)then rd4 nc5_0 h6 (qFD .i64 ((↑ nc5_0:Int) - 1)) λn n_1 s rows=>(bif qj 0 (qFD .i64 ((↑ nc5_0:Int) - 1))&&qj (qFD .i64 ((↑ nc5_0:Int) - 1)) (↑ nc5_0:Int)then kOpt (EVs (EV cfg) 110 [.agg [.int .i64 n,.int .i64 n_1,.str s,.sl rows]]) λv=>qt v λb=>bif ! b then some (.int .i64 2)else kOpt (EVs (EV cfg) 111 [.agg [.int .i64 n,.int .i64 n_1,.str s,.sl rows]]) λv=>kInt .i64 v λn_2=>qo7 (qFD .i64 ((rows.length:Int) - 1)) c0_0 c0_1 c0_2 c0_3 c1_0 (qFD .i64 (c2_0+n_2)) c3_0 c3_1 c3_2 c3_3 (qFQ (qFD .i64 ((↑ nc5_0:Int) - 1)) - 0) h6 n n_1 s rows rows else none)else bif decide (c2_0>65536)then some (.int .i64 3)else some (.int .i64 0)) P):Gets (qc4 c0_0 c0_1 c0_2 c0_3 c1_0 c2_0 c3_0 c3_1 c3_2 c3_3 nc5_0 h6) P:=
  gE (λ_=>qg (cfg:=cfg) (f:=136) (rd:=none) (bs:=5)) (by kernel_rfl) h
abbrev zg6(c8_0:Rz)(v3:Int)(nc5_0:Nat)(h6:Rz)(c0_0 c0_1:Int)(c0_2:Bz)(c0_3:Rz)(c1_0 c2_0 c3_0 c3_1:Int)(c3_2:Bz)(c3_3:Rz)(c7_0 c7_1:Int)(c7_2:Bz)(c7_3:Rz):Option (AV):=rs4 c8_0 v3 λn n_1 s rows=>(bif qFR (0+nc5_0) (qFI h6)&&qI (nc5_0+1) 56 then bif qj 0 (↑ nc5_0:Int)&&qA (↑ nc5_0:Int) (↑ (nc5_0+1):Int)then kOpt (qFG (qF2 (qFN nc5_0 h6) [[.int .i64 0,.int .i64 0,.str [],.nilS]]) (0+qFQ (↑ nc5_0:Int))) λrow=>bif qFR 4 (qFI row)then qmU (qFD .i64 (v3 - 1)) c0_0 c0_1 c0_2 c0_3 c1_0 c2_0 c3_0 c3_1 c3_2 c3_3 (nc5_0+1) c7_0 c7_1 c7_2 c7_3 c8_0 (st4 (qF2 (qFN nc5_0 h6) [[.int .i64 0,.int .i64 0,.str [],.nilS]]) (↑ nc5_0:Int) n n_1 s rows row)else none else none else none)
abbrev zg5(v3:Int)(c8_0:Rz)(nc5_0:Nat)(h6:Rz)(c0_0 c0_1:Int)(c0_2:Bz)(c0_3:Rz)(c1_0 c2_0 c3_0 c3_1:Int)(c3_2:Bz)(c3_3:Rz)(c7_0 c7_1:Int)(c7_2:Bz)(c7_3:Rz):Option (AV):=bif decide (v3≥0)then zg6 c8_0 v3 nc5_0 h6 c0_0 c0_1 c0_2 c0_3 c1_0 c2_0 c3_0 c3_1 c3_2 c3_3 c7_0 c7_1 c7_2 c7_3 else qc4 c0_0 c0_1 c0_2 c0_3 c1_0 c2_0 c3_0 c3_1 c3_2 c3_3 nc5_0 h6
theorem qri(v3 c0_0 c0_1:Int)(c0_2:Bz)(c0_3:Rz)(c1_0 c2_0 c3_0 c3_1:Int)(c3_2:Bz)(c3_3:Rz)(nc5_0:Nat)(h6:Rz)(c7_0 c7_1:Int)(c7_2:Bz)(c7_3 c8_0:Rz){P:AV->Prop}(h:Gets (zg5 v3 c8_0 nc5_0 h6 c0_0 c0_1 c0_2 c0_3 c1_0 c2_0 c3_0 c3_1 c3_2 c3_3 c7_0 c7_1 c7_2 c7_3) P):Gets (qo7 v3 c0_0 c0_1 c0_2 c0_3 c1_0 c2_0 c3_0 c3_1 c3_2 c3_3 nc5_0 h6 c7_0 c7_1 c7_2 c7_3 c8_0) P:=
  gE (λ_=>qg (cfg:=cfg) (f:=151) (rd:=none) (bs:=10)) (by kernel_rfl) h
theorem qgv(v3 c0_0 c0_1:Int)(c0_2:Bz)(c0_3:Rz)(c1_0 c2_0 c3_0 c3_1:Int)(c3_2:Bz)(c3_3:Rz)(nc5_0:Nat)(c7_0 c7_1:Int)(c7_2:Bz)(c7_3 c8_0 h10:Rz){P:AV->Prop}(h:Gets (zg5 v3 c8_0 nc5_0 h10 c0_0 c0_1 c0_2 c0_3 c1_0 c2_0 c3_0 c3_1 c3_2 c3_3 c7_0 c7_1 c7_2 c7_3) P):Gets (qmU v3 c0_0 c0_1 c0_2 c0_3 c1_0 c2_0 c3_0 c3_1 c3_2 c3_3 nc5_0 c7_0 c7_1 c7_2 c7_3 c8_0 h10) P:=
  gE (λ_=>qg (cfg:=cfg) (f:=151) (rd:=none) (bs:=10)) (by kernel_rfl) h
theorem qxZ(t:Tm):EVs (EV cfg) 110 [t.av]=some (.bool t.sound):=by
 obtain⟨k,n,s,l⟩:=t;apply Gets.get;rw[Tm.av_mk];refine qmZ _ _ _ _ ?_;unfold zg0 zg1 zg2 zg3 zg4;simp only[Tm.sound,Tm.kind_mk,Tm.num_mk,Tm.str_mk,Tm.subs_mk,qb,beqI,qxf,xP]
 by_cases h1:k=1
 ·subst h1;simp[vT]<;>(try rw[Bool.eq_iff_iff])<;>(try simp)<;>first|omega|grind
 by_cases h2:k=2
 ·subst h2;simp[vT]<;>(try rw[Bool.eq_iff_iff])<;>(try simp)<;>first|omega|grind
 by_cases h3:k=3
 ·subst h3;simp[vT]<;>(try rw[Bool.eq_iff_iff])<;>(try simp)<;>first|omega|grind
 by_cases h4:k=4
 ·subst h4;simp[vT]<;>(try rw[Bool.eq_iff_iff])<;>(try simp)<;>first|omega|grind
 by_cases h6:k=6
 ·subst h6;simp[vT]<;>(try rw[Bool.eq_iff_iff])<;>(try simp)<;>first|omega|grind
 by_cases h5:k=5
 ·subst h5;cases l with
  |nil=>simp[vT]<;>(try rw[Bool.eq_iff_iff])<;>(try simp)<;>first|omega|grind
  |cons x l=>
   have hx:¬((l.length:Int)+1=0):=by omega
   simp[hx,vT]<;>(try rw[Bool.eq_iff_iff])<;>(try simp)<;>first|omega|grind
 by_cases h7:k=7
 ·subst h7;simp[vT]<;>(try rw[Bool.eq_iff_iff])<;>(try simp)<;>first|omega|grind
 by_cases h8:k=8
 ·subst h8;simp[vT]<;>(try rw[Bool.eq_iff_iff])<;>(try simp)<;>first|omega|grind
 by_cases h9:k=9
 ·subst h9;simp[vT]<;>(try rw[Bool.eq_iff_iff])<;>(try simp)<;>first|omega|grind
 simp[h1,h2,h3,h4,h5,h6,h7,h8,h9]
theorem qDr(t:Tm):EVs (EV cfg) 111 [t.av]=some (.int .i64 t.own):=by
 obtain⟨k,n,s,l⟩:=t;apply Gets.get;rw[Tm.av_mk];refine qpq _ _ _ _ ?_;simp only[Tm.own,Tm.kind_mk,beqI]
 by_cases h7:k=7
 ·simp[h7]
 ·by_cases h5:k=5
  ·simp[h5]
  ·simp[h7,h5]
theorem qkN(l:List (List AV))(z:List AV):(l++[z])[l.length]? =some z:=by simp
theorem qkM(l:List (List AV))(z c:List AV):(l++[z]).set l.length c=l++[c]:=by simp
theorem qwb{t x:Tm}(hx:x.subs.length<1099511627776){wd:Int}{P:AV->Prop}:∀(j:Nat) (R:List Tm),j<=x.subs.length->R.length+j<1099511627776 ->
  Gets (qc4 t.kind t.num t.str (qa t.subs) 0 wd t.kind t.num t.str (qa t.subs) (R.length+j) (qa (R++(x.subs.take j).reverse))) P ->
  Gets (qmU ((j:Int) - 1) t.kind t.num t.str (qa t.subs) 0 wd t.kind t.num t.str (qa t.subs) R.length x.kind x.num x.str (qa x.subs) (qa x.subs) (qa R)) P
 |0,R,_,_,h=>by
  refine qgv _ _ _ _ _ _ _ _ _ _ _ _ _ _ _ _ _ _ ?_;unfold zg5 zg6 rs4 st4
  simpa using h
 |j+1,R,hj,hR,h=>by
  have ih:=qwb (t:=t) hx (wd:=wd) (P:=P) j (R++[x.subs[j]]) (by omega) (by simp;omega);have e1:x.subs.take (j+1)=x.subs.take j++[x.subs[j]]:=by rw[qGk,qFE (by omega)];rfl
  have e4:R++(x.subs.take j++[x.subs[j]]).reverse=R++x.subs[j]::(x.subs.take j).reverse:=by rw[List.reverse_append];rfl
  rw[e1,e4,show R.length+(j+1)=R.length+1+j by omega]at h;refine qgv _ _ _ _ _ _ _ _ _ _ _ _ _ _ _ _ _ _ ?_;unfold zg5 zg6 rs4 st4;have hw:qFD .i64 ((j:Int) - 1)=(j:Int) - 1:=qo (by omega) (by omega);have hjl:j<x.subs.length:=by omega
  have e2:((j+1:Nat):Int) - 1=j:=by omega
  rw[e2];have ht:qFN R.length (qa R)=qa R:=qFP (by simp);have g0:=qkN (qa R) [.int .i64 0,.int .i64 0,.str [],.nilS];have s0:=qkM (qa R) [.int .i64 0,.int .i64 0,.str [],.nilS] x.subs[j].cells;rw[qb]at g0 s0;simp[hjl,hw,xg (show R.length+1<=1099511627776 by omega),ht]at ih⊢;exact ih h
theorem qDq{t x:Tm}(hx:x.subs.length<1099511627776){wd:Int}{P:AV->Prop}{R:List Tm}{Z:List (List AV)}(hR:R.length+x.subs.length<1099511627776)(h0:x.subs=[]->Gets (qc4 t.kind t.num t.str (qa t.subs) 0 wd t.kind t.num t.str (qa t.subs) R.length (qa R++Z)) P)(h:x.subs≠[]->Gets (qc4 t.kind t.num t.str (qa t.subs) 0 wd t.kind t.num t.str (qa t.subs) (R++x.subs.reverse).length (qa (R++x.subs.reverse))) P):
  Gets (qo7 ((x.subs.length:Int) - 1) t.kind t.num t.str (qa t.subs) 0 wd t.kind t.num t.str (qa t.subs) R.length (qa R++Z) x.kind x.num x.str (qa x.subs) (qa x.subs)) P:=by
 refine qri _ _ _ _ _ _ _ _ _ _ _ _ _ _ _ _ _ _ ?_;unfold zg5 zg6 rs4 st4;rcases Nat.eq_zero_or_pos x.subs.length with hz|hp
 ·have hz':x.subs=[]:=List.length_eq_zero_iff.1 hz;have:=h0 hz'
  simpa [hz']using this
 ·obtain⟨j,hj⟩:∃j,x.subs.length=j+1:=⟨x.subs.length - 1,by omega⟩;have hne:x.subs≠[]:=by intro e;rw[e]at hp;simp at hp
  have hjl:j<x.subs.length:=by omega
  have e2:(x.subs.length:Int) - 1=j:=by omega
  have hw:qFD .i64 ((j:Int) - 1)=(j:Int) - 1:=qo (by omega) (by omega);have ht:qFN R.length (qa R++Z)=qa R:=by rw[List.take_append_of_le_length (by simp),qFP (by simp)]
  have e5:x.subs=x.subs.take j++[x.subs[j]]:=by
   have:x.subs.take (j+1)=x.subs:=qFP (by omega);rw[qGk,qFE hjl]at this;exact this.symm
  have e6:R++x.subs.reverse=R++[x.subs[j]]++(x.subs.take j).reverse:=by
   conv=>lhs;rw[e5]
   rw[List.reverse_append,qGl];rfl
  have:=qwb (t:=t) hx (wd:=wd) (P:=P) j (R++[x.subs[j]]) (by omega) (by simp;omega) (by
   have h:=h hne;rw[e6]at h;have e7:(R++[x.subs[j]]++(x.subs.take j).reverse).length=(R++[x.subs[j]]).length+j:=by
    rw[qFU,List.length_reverse,qF9];omega
   rw[e7]at h;exact h)
  rw[e2];simp at this;simp[hjl,hw,xg (show R.length+1<=1099511627776 by omega),ht];exact this
theorem qA4{t:Tm}:∀(n:Nat) (R:List Tm) (Z:List (List AV)) (wd:Nat),wL R<=n->n<1099511627776->wd+2*wL R<9007199254740992 ->
  Gets (qc4 t.kind t.num t.str (qa t.subs) 0 (wd:Int) t.kind t.num t.str (qa t.subs) R.length (qa R++Z)) (·= .int .i64 (chkS R wd)):=by
 intro n
 induction n with
 |zero=>
  intro R Z wd hn _ _;have:R=[]:=by
   have:=yf R;exact List.length_eq_zero_iff.1 (by omega)
  subst this;refine qeb _ _ _ _ _ _ _ _ _ _ _ _ ?_;unfold rd4
  by_cases h:65536<wd
  ·have h':(65536:Int)<wd:=by omega
   simp[h,h',chkS,vw,vh]
  ·have h':¬(65536:Int)<wd:=by omega
   simp[h,h',chkS,vw,vh]
 |succ n ih=>
  intro R Z wd hn hN hw;rcases List.eq_nil_or_concat R with rfl|⟨R0,x,rfl⟩
  ·refine qeb _ _ _ _ _ _ _ _ _ _ _ _ ?_;unfold rd4
   by_cases h:65536<wd
   ·have h':(65536:Int)<wd:=by omega
    simp[h,h',chkS,vw,vh]
   ·have h':¬(65536:Int)<wd:=by omega
    simp[h,h',chkS,vw,vh]
  ·rw[List.concat_eq_append]at *;have hwx:=x.w_eq;have ho:=x.own_le;simp only[ya,vC,xO]at hn hw;have hl0:=yf R0;have hls:=yf x.subs;have hsd:=qxZ x;have how:=qDr x;refine qeb _ _ _ _ _ _ _ _ _ _ _ _ ?_;unfold rd4;have e1:(R0++[x]).length=R0.length+1:=by simp
   have hw1:qFD .i64 (R0.length:Int)=R0.length:=qz5 (by omega);have hw2:qFD .i64 ((wd:Int)+x.own)=((wd+x.own:Nat):Int):=by rw[qo (by omega) (by omega)];omega
   have hw3:qFD .i64 ((x.subs.length:Int) - 1)=(x.subs.length:Int) - 1:=qo (by omega) (by omega);have g:(qa (R0++[x])++Z)[R0.length]? =some x.cells:=by
    rw[qFX (by simp),xy];simp
   cases hs:x.sound with
   |false=>
    rw[hs]at hsd;simp[e1,hw1,g,hsd,qy7 hs]
   |true=>
    rw[hs]at hsd;have e3:qa (R0++[x])++Z=qa R0++(x.cells::Z):=by rw[qW,qGl,qF,qO];rfl
    have:=qDq (t:=t) (x:=x) (R:=R0) (Z:=x.cells::Z) (wd:=((wd+x.own:Nat):Int)) (P:=(·= .int .i64 (chkS (R0++[x]) wd))) (by omega) (by omega)
     (λhz=>by
      have:=ih R0 (x.cells::Z) (wd+x.own) (by omega) (by omega) (by omega);rw[←qol hs,hz,List.reverse_nil,qGh];exact this)
     (λhz=>by
      have:=ih (R0++x.subs.reverse) [] (wd+x.own) (by rw[ya,qvA];omega) (by omega) (by rw[ya,qvA];omega);rw[←qol hs];rw[qGh]at this;exact this)
    simp only[e1,e3]at g⊢;simp only[Int.natCast_add]at hw2 this;simp[hw1,g,hsd,how,hw2,hw3];exact this
theorem qfU{t:Tm}(h:t.w<1099511627776):EVs (EV cfg) 79 [t.av]=some (.int .i64 t.chk):=by
 have:=qA4 (t:=t) _ [t] [] 0 (qFH _) (by simpa using h) (by simp;omega);apply Gets.get;rw[Tm.av,Tm.cells_eq];refine qm1 _ _ _ _ ?_;rw[←Tm.cells_eq,qvW,Tm.chk]
 simpa using this
theorem qem{s h0:List UInt8}{b:UInt8}{v:Int}{i:Nat}{P:AV->Prop}(hv:0<=v∧v<=9)(hlen:(qFN (s.length - 1) (s.drop 1)).length=h0.length)(hl:h0.length<=2)(hb:h0[i]? =some b)(h:Gets (match yg b with|none=>some (AV.tup [.int .i64 0,.bool false])|some x=>qc5 s (v*10+x) ((i+1:Nat):Int) (h0.map λb=>[.int .u8 (b.toNat:Int)])) P):Gets (qc5 s v i (h0.map λb=>[.int .u8 (b.toNat:Int)])) P:=by
 have hi:i<h0.length:=(qFF.1 hb).1;refine qjw _ _ _ _ ?_;have hbl:=b.toNat_lt;rw[hlen,qGo (show(i:Int)<(h0.length:Int) by omega),qv,qD,qGo hi];simp only[cond_true,qF7,qu,qGi,qFT,List.getElem?_map,hb,qGc,qd,List.getElem?_cons_zero,qe];unfold yg at h
 by_cases h1:b.toNat<48
 ·rw[qGq h1]at h;rw[qGo (show(b.toNat:Int)<48 by omega)];exact h
 ·rw[qGr h1]at h;rw[qGp (show ¬(b.toNat:Int)<48 by omega),cond_false]
  by_cases h2:b.toNat>57
  ·rw[qGq h2]at h;rw[qGo (show(b.toNat:Int)>57 by omega)];exact h
  ·rw[qGr h2]at h;rw[qGp (show ¬(b.toNat:Int)>57 by omega),cond_false];have w1:qFD .i64 (v*10)=v*10:=qo (by omega) (by omega);have w2:qFD .u8 ((b.toNat:Int) - 48)=(b.toNat:Int) - 48:=by
    simp[qFD,IntKind.bits,IntKind.signed];omega
   have w3:qFD .i64 ((b.toNat:Int) - 48)=(b.toNat:Int) - 48:=qo (by omega) (by omega);have w4:qFD .i64 (v*10+((b.toNat:Int) - 48))=v*10+((b.toNat:Int) - 48):=qo (by omega) (by omega);have w5:qFD .i64 ((i:Int)+1)=((i+1:Nat):Int):=qN (n:=2) (by omega) (by omega);rw[w1,w2,w3,w4,w5];exact h
theorem qlH{s h0:List UInt8}{v:Int}{i:Nat}(hlen:(qFN (s.length - 1) (s.drop 1)).length=h0.length)(hi:i=h0.length):Gets (qc5 s v i (h0.map λb=>[.int .u8 (b.toNat:Int)])) (·= .tup [.int .i64 v,.bool true]):=by
 refine qjw _ _ _ _ ?_;rw[hlen,qGp (by omega)];exact⟨_,rfl,rfl⟩
def varR(o:Option Int):AV:=.tup [.int .i64 (o.getD 0),.bool o.isSome]
theorem qbi(s:List UInt8):EVs (EV cfg) 55 [.str s]=some (varR (varG s)):=by
 apply Gets.get;refine qoD _ ?_;unfold zf0 zf1
 match s with
 |[]=>exact⟨_,rfl,rfl⟩
 |[a]=>exact⟨_,rfl,rfl⟩
 |a::b::c::d::l=>
  have h1:¬((a::b::c::d::l).length:Int)<2:=by simp;omega
  have h2:((a::b::c::d::l).length:Int)>3:=by simp;omega
  rw[qGp h1,qGo h2];exact⟨_,rfl,rfl⟩
 |[a,b]=>
  by_cases h:a.toNat=36
  ·have e:(((a.toNat:Int)) != 36)=false:=by rw[h];rfl
   have hs:=qem (s:=[a,b]) (h0:=[b]) (b:=b) (v:=0) (i:=0) (P:=(·=varR (varG [a,b]))) (by omega) rfl (by simp) rfl (by
    rw[qoR,qGq h];cases hd:yg b with
    |none=>exact⟨_,rfl,rfl⟩
    |some x=>
     refine(qlH (s:=[a,b]) (h0:=[b]) rfl rfl).mono ?_;rintro _ rfl;show _=varR (some x);simp[varR])
   show Gets (bif(((a.toNat:Int)) != 36)then _ else _) _;rw[e];exact hs
  ·have e:(((a.toNat:Int)) != 36)=true:=by simpa using λh'=>h (by omega)
   show Gets (bif(((a.toNat:Int)) != 36)then _ else _) _;rw[e];refine⟨_,rfl,?_⟩;rw[qoR,qGr h];rfl
 |[a,b,c]=>
  by_cases h:a.toNat=36
  ·have e:(((a.toNat:Int)) != 36)=false:=by rw[h];rfl
   show Gets (bif(((a.toNat:Int)) != 36)then _ else bif(((b.toNat:Int))==48)then _ else _) _;rw[e]
   by_cases hb:b.toNat=48
   ·have e2:(((b.toNat:Int))==48)=true:=by rw[hb];rfl
    rw[e2];refine⟨_,rfl,?_⟩;rw[qiK,qGr (λh=>h.2 hb)];rfl
   ·have e2:(((b.toNat:Int))==48)=false:=by simpa using λh'=>hb (by omega)
    rw[e2];show Gets (qc5 [a,b,c] 0 0 ([b,c].map λb=>[.int .u8 (b.toNat:Int)])) _;refine qem (s:=[a,b,c]) (h0:=[b,c]) (b:=b) (v:=0) (i:=0) (by omega) rfl (by simp) rfl ?_;rw[qiK,qGq ⟨h,hb⟩];cases hd:yg b with
    |none=>exact⟨_,rfl,rfl⟩
    |some x=>
     have hx:=qco hd;refine qem (s:=[a,b,c]) (h0:=[b,c]) (b:=c) (i:=1) (by omega) rfl (by simp) rfl ?_;cases hd2:yg c with
     |none=>exact⟨_,rfl,by simp[varR,hd2]⟩
     |some y=>
      refine(qlH (s:=[a,b,c]) (h0:=[b,c]) rfl rfl).mono ?_;rintro _ rfl;simp[varR,hd2]
  ·have e:(((a.toNat:Int)) != 36)=true:=by simpa using λh'=>h (by omega)
   show Gets (bif(((a.toNat:Int)) != 36)then _ else _) _;rw[e];refine⟨_,rfl,?_⟩;rw[qiK,qGr (λh'=>h h'.1)];rfl
theorem qdP{t:Tm}(h:t.w<1099511627776):EVs (EV cfg) 53 [t.av]=some (.bool (decide (t.chk=0))):=by
 have hc:=qfU h;apply Gets.get;rw[Tm.av,Tm.cells_eq]at hc⊢;refine qub _ _ _ _ ?_;rw[hc];simp[beqI]
theorem qn2{t:Tm}(h:t.w<1099511627776):EVs (EV cfg) 141 [t.av]=some (varR (varT t)):=by
 have hc:=qdP h;apply Gets.get;rw[Tm.av,Tm.cells_eq]at hc⊢;refine qua _ _ _ _ ?_;rw[hc,qbi];unfold varT
 by_cases h1:t.kind=2
 ·by_cases h2:t.chk=0
  ·simp[h1,h2,varR,kTup,ql,kNil]
  ·simp[h1,h2,varR]
 ·have h1':(t.kind != 2)=true:=by simpa using h1
  rw[h1'];simp[h1,varR]
def qEC:Den:=evC cfg (EV cfg) 172 none 0 (sub (qc Tryz.f172) [1,0,1,0,0])
def qFb:Ex×List AV×AH->Option AV:=kAft (Cfg.keepOut cfg 172 2) (kRun cfg (EV cfg) (kfN cfg 6) 172 none 0 (vM cfg (Cfg.lift cfg 172 0) Tryz.f172.results.toList) ([.block 0,.seq (sub (qc Tryz.f172) [1,1])]))
def qD9:List AV×AH->Option AV:=λp=>kOpt (LOOP 0 (some [0,1,7,8]) ([]) qEC p) qFb
abbrev qlc(A:Rz)(n v8:Int):Option (AV):=qD9 (((fx 19 [(0,.sl A),(1,.int .i64 n),(7,.int .i64 (A.length:Int)),(8,.int .i64 v8)]):List AV),([]:AH))
theorem qoJ(op:Bz){P:AV->Prop}(h:Gets (bif op==[(115:UInt8),101,108,102]then some (.sl [[.int .i64 0]])else bif op==[(105:UInt8),115,95,97,116,111,109]then some (.sl [[.int .i64 1]])else bif op==[(105:UInt8),115,95,105,110,116,101,103,101,114]then some (.sl [[.int .i64 1]])else bif op==[(105:UInt8),115,95,108,105,115,116]then some (.sl [[.int .i64 1]])else bif op==[(105:UInt8),115,95,116,117,112,108,101]then some (.sl [[.int .i64 1]])else bif op==[(105:UInt8),115,95,112,105,100]then some (.sl [[.int .i64 1]])else bif op==[(105:UInt8),115,95,102,117,110,99,116,105,111,110]then some (.sl [[.int .i64 1]])else bif op==[(105:UInt8),115,95,114,101,102,101,114,101,110,99,101]then some (.sl [[.int .i64 1]])else bif op==[(110:UInt8),111,116]then some (.sl [[.int .i64 1]])else bif op==[(98:UInt8),110,111,116]then some (.sl [[.int .i64 1]])else bif op==[(97:UInt8),98,115]then some (.sl [[.int .i64 1]])else bif op==[(116:UInt8),117,112,108,101,95,115,105,122,101]then some (.sl [[.int .i64 1]])else bif op==[(115:UInt8),105,122,101]then some (.sl [[.int .i64 1]])else bif op==[(104:UInt8),100]then some (.sl [[.int .i64 1]])else bif op==[(116:UInt8),108]then some (.sl [[.int .i64 1]])else bif op==[(108:UInt8),101,110,103,116,104]then some (.sl [[.int .i64 1]])else bif op==[(43:UInt8)]then some (.sl [[.int .i64 1],[.int .i64 2]])else bif op==[(45:UInt8)]then some (.sl [[.int .i64 1],[.int .i64 2]])else bif op==[(61:UInt8),61]then some (.sl [[.int .i64 2]])else bif op==[(61:UInt8),58,61]then some (.sl [[.int .i64 2]])else bif op==[(47:UInt8),61]then some (.sl [[.int .i64 2]])else bif op==[(61:UInt8),47,61]then some (.sl [[.int .i64 2]])else bif op==[(60:UInt8)]then some (.sl [[.int .i64 2]])else bif op==[(61:UInt8),60]then some (.sl [[.int .i64 2]])else bif op==[(62:UInt8)]then some (.sl [[.int .i64 2]])else bif op==[(62:UInt8),61]then some (.sl [[.int .i64 2]])else bif op==[(97:UInt8),110,100]then some (.sl [[.int .i64 2]])else bif op==[(111:UInt8),114]then some (.sl [[.int .i64 2]])else bif op==[(120:UInt8),111,114]then some (.sl [[.int .i64 2]])else bif op==[(97:UInt8),110,100,97,108,115,111]then some (.sl [[.int .i64 2]])else bif op==[(111:UInt8),114,101,108,115,101]then some (.sl [[.int .i64 2]])else bif op==[(42:UInt8)]then some (.sl [[.int .i64 2]])else bif op==[(100:UInt8),105,118]then some (.sl [[.int .i64 2]])else bif op==[(114:UInt8),101,109]then some (.sl [[.int .i64 2]])else bif op==[(98:UInt8),97,110,100]then some (.sl [[.int .i64 2]])else bif op==[(98:UInt8),111,114]then some (.sl [[.int .i64 2]])else bif op==[(98:UInt8),120,111,114]then some (.sl [[.int .i64 2]])else bif op==[(101:UInt8),108,101,109,101,110,116]then some (.sl [[.int .i64 2]])else some (.sl [])) P):Gets (EVf (EV cfg) 164 [.str op]) P:=
  gE (λ_=>funF rfl rfl Tryz.func164 rfl) (by kernel_rfl) h
theorem qoK(A:Rz)(n:Int){P:AV->Prop}(h:Gets (kOpt (EVs (EV cfg) 172 [.sl A,.int .i64 n]) λv=>kInt .i64 v λn=>some (.bool (decide (n≥0)))) P):Gets (EVs (EV cfg) 162 [.sl A,.int .i64 n]) P:=
  gE (λ_=>funS rfl rfl Tryz.func162 rfl) (by kernel_rfl) h
theorem quT(A:Rz)(n:Int){P:AV->Prop}(h:Gets (qlc A n 0) P):Gets (EVs (EV cfg) 172 [.sl A,.int .i64 n]) P:=
  gE (λ_=>funS rfl rfl Tryz.func172 rfl) (by kernel_rfl) h
theorem qjG(A:Rz)(n v8:Int){P:AV->Prop}(h:Gets (bif decide (v8<(A.length:Int))then bif qj 0 v8&&qA v8 (A.length:Int)then kOpt (qFG A (v8.toNat)) λrow=>bif qFY (qFI row) 1 then kOpt (qFG row 0) λv=>kInt .i64 v λn_1=>bif n==n_1 then some (.int .i64 v8)else qlc A n (qFD .i64 (v8+1))else none else none else some (.int .i64 (- 1))) P):Gets (qlc A n v8) P:=
  gE (λ_=>qg (cfg:=cfg) (f:=172) (rd:=none) (bs:=0)) (by kernel_rfl) h
end Go.Proofs.YtgleolmhpmljhaaGreat
end
