/-
  Parts of the proof of CodeRunsUptoSaid, put together: the abstract evaluation and its contracts. Own work.
  What is proved: each lemma as it stands; no condition.
-/
import Derived.KernelRfl
import Derived.Test.YtafdkafbgohigaaGreatProg
import Derived.Lib.Bytealg
import Derived.Test.YtafdkafbgohigaaGreatRows
import Derived.ProofKit
import Derived.OpenShut
import Derived.JoinedCond
import Derived.ChangeArms
import Derived.RowKit
import Derived.WalkKit
import Derived.Test.YtafdkafbgohigaaGreatZCodeRunsM2
open List renaming length → qzO, getElem?_eq_getElem → qzS, take → qzT, get?Internal → qzU, getElem?_eq_some_iff → qzW, getElem?_append_right → qz2, take_length → qz4, mem_of_getElem? → qz5, getElem?_append_left → qz6, getElem?_set → qz9, take_of_length_le → qAa, length_append → qAc, mem_cons → qAd, replicate → qAf, mem_append → qAh, append → qAi, range → qAs
open Nat renaming beq → qzP, eq_of_beq_eq_true → qzY, le_refl → qz0, ble → qz8, mul_le_mul_right → qAg, blt_eq → qAm, add_assoc → qAo, beq_refl → qAq, add_mul → qAr
open Go.IntKind renaming wrap → qzQ, i64 → qAn
open Bool renaming and_eq_true → qzR, false_eq_true → qz1, and_self → qz7, not_true → qAj, not_false → qAp
open Int renaming toNat → qzV, reduceEq → qAb, toNat_natCast → qAk
open Option renaming bind_eq_some_iff → qzX, map_eq_some_iff → qzZ, bind_some → qz3, map_some → qAe
open Array renaming getElem?_toList → qAl, toList → qAt
set_option maxRecDepth 1000000
set_option maxHeartbeats 0
noncomputable section
namespace Go.Av
variable {α : Type}
abbrev KV(α:Type):=AV->Option α
abbrev KH(α:Type):=AV->AH->Option α
abbrev KE(α:Type):=Ex->List AV->AH->Option α
abbrev KF(α:Type):=Tgt->List AV->AH->(AV×AH->Option α)->Option α
def kInt(kd:IntKind)(v:AV)(k:Int->Option α):Option α:=
 match v with
 | .int k' n=>cond (qai k' kd) (k n) none
 |_=>none
def qq(v:AV)(k:Bool->Option α):Option α:=
 match v with
 | .bool b=>k b
 |_=>none
def kStr(v:AV)(k:List UInt8->Option α):Option α:=
 match v with
 | .str s=>k s
 |_=>none
def kSl(v:AV)(k:List (List AV)->Option α):Option α:=
 match v with
 | .sl rows=>k rows
 |_=>none
def kAgg(v:AV)(k:List AV->Option α):Option α:=
 match v with
 | .agg cs=>k cs
 |_=>none
def kOpt{β:Type}(o:Option β)(k:β->Option α):Option α:=
 match o with
 |some b=>k b
 |none=>none
def qa(l:List AV)(k:AV->List AV->Option α):Option α:=
 match l with
 |c::cs=>k c cs
 |[]=>none
def kNil(l:List AV)(x:Option α):Option α:=
 match l with
 |[]=>x
 |_=>none
def qaP(s:FK)(v:AV)(k:KV α):Option α:=
 match s with
 | .int kd=>kInt kd v λn=>k (.int kd n)
 | .bool=>qq v λb=>k (.bool b)
 | .str=>kStr v λs=>k (.str s)
 | .sl=>kSl v λrows=>k (.sl rows)
 | .any=>k v
def qbt:List FK->List AV->(List AV->Option α)->Option α
 |[],l,k=>kNil l (k [])
 |s::ss,l,k=>qa l λc cs=>qaP s c λv=>qbt ss cs λvs=>k (v::vs)
def qty(sl:Bool):TD->FK
 | .int k=>.int k
 | .bool=>.bool
 | .str=>.str
 | .slice _=>if sl then .sl else .any
 |_=>.any
def qjt(cfg:Cfg)(p:TypeId->Bool):Nat->TypeId->Option (List FK)
 |0,_=>none
 |n+1,t=>
  match cfg.td t with
  |some (.struct fs)=>(fs.foldr (λf acc=>match qjt cfg p n f.2,acc with|some l,some a=>some (l++a)|_,_=>none) (some []))
  |some (.array m e)=>(match qjt cfg p n e with|some l=>some ((qAf m l).flatten)|none=>none)
  |some d=>some [qty (p t) d]
  |none=>none
def kTy1(p:TypeId->Bool)(cfg:Cfg)(t:TypeId)(v:AV)(k:KV α):Option α:=
 match cfg.td t with
 |some d=>
  match d with
  | .struct _=>(match qjt cfg p 6 t with|some ss=>kAgg v λcs=>qbt ss cs λvs=>k (.agg vs)|none=>k v)
  | .array _ _=>(match qjt cfg p 6 t with|some ss=>kAgg v λcs=>qbt ss cs λvs=>k (.agg vs)|none=>k v)
  |d=>qaP (qty (p t) d) v k
 |none=>k v
def kTup(v:AV)(k:List AV->Option α):Option α:=
 match v with
 | .tup cs=>k cs
 |_=>none
def kTys(p:TypeId->Bool)(cfg:Cfg):List TypeId->List AV->(List AV->Option α)->Option α
 |[],l,k=>kNil l (k [])
 |t::ts,l,k=>qa l λc cs=>kTy1 p cfg t c λv=>kTys p cfg ts cs λvs=>k (v::vs)
def kTy(p:TypeId->Bool)(cfg:Cfg)(t:TypeId)(v:AV)(k:KV α):Option α:=
 match cfg.tup t with
 |some ts=>kTup v λcs=>kTys p cfg ts cs λvs=>k (.tup vs)
 |none=>kTy1 p cfg t v k
def AV.regA(i:Nat):AV->AV
 | .agg cs=>.agg (cs.map (AV.regn i))
 |a=>a
def noTy:TypeId->Bool:=λ_=>false
def qdM:TypeId->Bool:=λ_=>true
def qzF(cfg:Cfg)(H:AH)(a:AV):TypeId->Bool:=
 match a with
 | .cptr _ _=>cfg.dat
 | .ptr id _ _=>if xD H id then cfg.dat else noTy
 |_=>noTy
def kNew(nid:Option Nat)(H:AH)(b:ABlk)(k:Nat->AH->Option α):Option α:=
 match nid with
 |none=>k H.length (H++[b])
 |some i=>kOpt H[i]? λx=>match x with| .res=>k i (H.set i b)|_=>none
def qse(cfg:Cfg)(t:TypeId):Bool:=match cfg.td t with|some d=>d.agg|none=>false
def qbK(agg:Bool)(v:AV)(k:List AV->Option α):Option α:=
 cond agg (kAgg v λcs=>cond (xh cs) (k cs) none) (cond v.isCell (k [v]) none)
def qrz(t:Bool)(a b:AV)(k:KV α):Option α:=
 match a,b with
 | .bool p,.bool q=>k (.bool (cond t p q))
 | .int k1 p,.int k2 q=>cond (qai k1 k2) (k (.int k1 (cond t p q))) (cond t (k a) (k b))
 |a,b=>cond t (k a) (k b)
def qjJ(place:Nat->Option (Nat×Nat×Bool))(cells:List AV):List (Nat×AV)->(List AV->Option α)->Option α
 |[],k=>k cells
 |(i,v)::rest,k=>
  match place i with
  |some (off,size,agg)=>qbK agg v λcs=>cond (qzP cs.length size&&qz8 (off+size) cells.length) (qjJ place (cells.take off++cs++cells.drop (off+size)) rest k) none
  |none=>none
def qgW(cfg:Cfg):List (Nat×TypeId)->Option (List (Nat×Nat×Bool))
 |[]=>some []
 |(off,t)::l=>
  match cfg.sz t,qgW cfg l with
  |some n,some ps=>some ((off,n,qse cfg t)::ps)
  |_,_=>none
def qmD(agg:Bool)(n:Nat)(rows:List (List AV)):List (Nat×AV)->(List (List AV)->Option α)->Option α
 |[],k=>k rows
 |(i,v)::rest,k=>qbK agg v λcs=>cond (qzP cs.length n&&Nat.blt i rows.length) (qmD agg n (rows.set i cs) rest k) none
def kBlk(H:AH)(id:Nat)(k:Nat->List (List AV)->Option α):Option α:=
 kOpt H[id]? λb=>match b with| .rows _ sz rs=>k sz rs| .froz _ sz rs=>k sz rs|_=>none
def qdG(H:AH)(id:Nat)(k:Bool->Nat->List (List AV)->Option α):Option α:=
 kOpt H[id]? λb=>match b with| .rows d sz rs=>k d sz rs|_=>none
def qbU(agg:Bool)(n:Nat)(cells:List AV)(off:Nat)(k:KV α):Option α:=
 cond agg (cond (qz8 (off+n) cells.length) (k (.agg ((cells.drop off).take n))) none) (kOpt cells[off]? k)
def qjE(agg:Bool)(n:Nat)(H:AH)(p:AV)(k:KV α):Option α:=
 match p with
 | .ptr id r off=>kBlk H id λ_ rs=>kOpt rs[r]? λrow=>qbU agg n row off k
 | .cptr cs off=>qbU agg n cs off k
 | .lpt cs off=>qbU agg n (cs.map AV.lend) off k
 | .rpt id cs off=>kOpt H[id]? λb=>match b with
  | .reg=>qbU agg n (cs.map (AV.regn id)) off k
  | .spl=>cond agg (cond (qzP n 4) (qbt [.int .i64,.int .i64,.str,.sl] ((cs.drop off).take 4) λvs=>k (.alt [.agg (vs.map (AV.regn id)),.agg qgU,.agg row0])) none) (kOpt (qkI cs off) λrows=>k (.rsl id rows))
  |_=>none
 |_=>none
def qnK(agg:Bool)(n:Nat)(H:AH)(p v:AV)(k:AH->Option α):Option α:=
 match p with
 | .ptr id r off=>qbK agg v λcs=>qdG H id λd sz rs=>kOpt rs[r]? λrow=>cond (qzP cs.length n&&qz8 (off+n) row.length) (k (H.set id (.rows (d&&qE 0 cs) sz (rs.set r (row.take off++cs++row.drop (off+n)))))) none
 | .rpt id cs off=>kOpt H[id]? λb=>match b with| .spl=>cond (qzP n 4) (cond (qat ((cs.drop off).take 4)&&is77 v) (k H) none) (cond (qzP n 7&&qjQ (cs.drop off)&&qcO v) (k H) none)|_=>none
 |_=>none
def qgj(v:AV)(k:KV α):Option α:=
 match v with
 | .ptr id r off=>k (.ptr id r off)
 | .cptr cs off=>k (.cptr cs off)
 | .fn (.func f) a b=>k (.fn (.func f) a b)
 | .mp id=>k (.mp id)
 | .yld id=>k (.yld id)
 |_=>none
def qe(a b:Int):Bool:=decide (a<=b)
def qu(a b:Int):Bool:=decide (a<b)
def qgo(lo hi:Nat)(x:Option AV)(dflt:Nat)(k:Nat->Option α):Option α:=
 match x with
 |none=>k dflt
 |some v=>match v with| .int _ i=>cond (qe lo i&&qe i hi) (k i.toNat) none|_=>none
def qbJ(n:Nat)(lo hi mx:Option AV)(k:Nat->Nat->Option α):Option α:=
 cond (hi.isNone&&mx.isSome) none (qgo 0 n hi n λh=>qgo h n mx h λ_=>qgo 0 h lo 0 λl=>k l h)
def qnL(cfg:Cfg)(t:TypeId)(H:AH)(x:AV)(lo hi mx:Option AV)(k:KV α):Option α:=
 match cfg.td t with
 |some .str=>(match mx with|none=>(match x with| .str s=>qbJ s.length lo hi none λl h=>k (.str ((s.drop l).take (h - l)))|_=>none)|_=>none)
 |some (.slice e)=>
  match cfg.sz e with
  |some n=>
   match x with
   | .nilS=>qbJ 0 lo hi mx λ_ _=>k .nilS
   | .sl rows=>qbJ rows.length lo hi mx λl h=>cond (qca n rows) (match cfg.ems t with|false=>k (.sl ((rows.drop l).take (h - l)))|true=>k (slE true rows l h)) none
   | .ms id off len=>qbJ len lo hi mx λl h=>kBlk H id λsz _=>cond (qzP sz n) (k (.ms id (off+l) (h - l))) none
   | .wr _ v=>(match lo,hi,mx with
    |none,some hv,none=>(match hv with
     | .int _ h=>(match v with
      | .sl rows=>cond (qe 0 h&&qe h rows.length) (k (.wr h.toNat (.sl rows))) none
      | .ms id off len=>cond (qe 0 h&&qe h len) (k (.wr h.toNat (.ms id off len))) none
      |_=>none)
     |_=>none)
    |_,_,_=>none)
   |_=>none
  |none=>none
 |_=>none
def qe5(cfg:Cfg)(t:TypeId)(H:AH)(x i:AV)(k:KV α):Option α:=
 match i with
 | .int _ i=>
  match cfg.td t with
  |some (.slice e)=>
   match cfg.sz e with
   |some n=>
    match x with
    | .ms id off len=>kBlk H id λsz _=>cond (qzP sz n&&qe 0 i&&qu i len) (k (.ptr id (off+i.toNat) 0)) none
    | .sl rows=>cond (qe 0 i&&qu i rows.length) (kOpt rows[i.toNat]? λrow=>cond (qzP row.length n) (k (.cptr row 0)) none) none
    | .lsl rows=>cond (qe 0 i&&qu i rows.length) (kOpt rows[i.toNat]? λrow=>cond (qzP row.length n) (k (.lpt row 0)) none) none
    | .rsl id rows=>cond (qe 0 i&&qu i rows.length) (kOpt rows[i.toNat]? λrow=>cond (qzP row.length n) (k (.rpt id row 0)) none) none
    |_=>none
   |none=>none
  |some (.array n e)=>
   match cfg.sz e with
   |some sz=>
    match x with
    | .ptr id r off=>cond (qe 0 i&&qu i n) (k (.ptr id r (off+i.toNat*sz))) none
    | .cptr cs off=>cond (qe 0 i&&qu i n) (k (.cptr cs (off+i.toNat*sz))) none
    |_=>none
   |none=>none
  |_=>none
 |_=>none
def qnW(cfg:Cfg)(t:TypeId)(x i:AV)(k:KV α):Option α:=
 match i with
 | .int _ i=>
  match cfg.td t with
  |some (.array n e)=>
   match cfg.ty e with
   |some ti=>kAgg x λcs=>cond (qe 0 i&&qu i n) (qbU ti.d.agg ti.sz cs (i.toNat*ti.sz) k) none
   |none=>none
  |some .str=>kStr x λs=>cond (qe 0 i) (kOpt s[i.toNat]? λb=>k (.int .u8 b.toNat)) none
  |_=>none
 |_=>none
def qnX(cfg:Cfg)(t:TypeId)(x:AV)(f:Nat)(k:KV α):Option α:=
 match cfg.td t with
 |some (.struct fs)=>
  match fs[f]? with
  |some (off,ft)=>(match cfg.ty ft with|some ti=>kAgg x λcs=>qbU ti.d.agg ti.sz cs off k|none=>none)
  |none=>none
 |_=>none
def qe8(cfg:Cfg)(t:TypeId)(x:AV)(f:Nat)(k:KV α):Option α:=
 match cfg.td t with
 |some (.struct fs)=>
  match fs[f]? with
  |some (o,ft)=>
   match cfg.sz ft with
   |some (_+1)=>(match x with| .ptr id r off=>k (.ptr id r (off+o))| .cptr cs off=>k (.cptr cs (off+o))| .rpt id cs off=>k (.rpt id cs (off+o))|_=>none)
   |_=>none
  |none=>none
 |_=>none
def qic(cfg:Cfg)(nid:Option Nat)(src dst:TypeId)(x:AV)(H:AH)(k:KH α):Option α:=
 match cfg.td src,cfg.td dst with
 |some (.int _),some (.int kd)=>(match x with| .int _ n=>k (.int kd (kd.wrap n)) H|_=>none)
 |some .str,some .str=>kStr x λs=>k (.str s) H
 |some .str,some (.slice e)=>
  match cfg.td e with
  |some (.int .u8)=>kStr x λs=>kNew nid H (.rows true 1 (zF s)) λi H'=>k (.ms i 0 s.length) H'
  |_=>none
 |some (.slice e),some .str=>
  match cfg.td e with
  |some (.int .u8)=>kOpt (yp H 1 x) λrows=>kOpt (x9 rows) λbs=>k (.str bs) H
  |_=>none
 |_,_=>none
def qkX(H:AH)(n:Nat)(x:AV)(k:List (List AV)->Option α):Option α:=
 match x with
 | .nilS=>k []
 | .em=>k []
 | .sl rows=>cond (qca n rows) (k rows) none
 | .ms id off len=>kBlk H id λsz rs=>cond (qzP sz n&&qz8 (off+len) rs.length) (k ((rs.drop off).take len)) none
 |_=>none
def kSrc(isStr:Bool)(H:AH)(n:Nat)(x:AV)(k:List (List AV)->Option α):Option α:=
 cond isStr (kStr x λb=>cond (qzP n 1) (k (zF b)) none) (qkX H n x k)
def qqe(cfg:Cfg)(t:TypeId):Bool:=match cfg.td t with|some .str=>true|_=>false
def qk2(cfg:Cfg)(nid:Option Nat)(t xt:TypeId)(s x:AV)(H:AH)(k:KH α):Option α:=
 match cfg.td t,cfg.td xt with
 |some (.slice e),some xd=>
  match cfg.ty e with
  |some ei=>
   cond (xd.notInt&&Nat.blt 0 ei.sz&&qzP ei.zero.length ei.sz)
    (kSrc (qqe cfg xt) H ei.sz x λnews=>
     match s with
     | .nilS=>cond news.isEmpty (k .nilS H) (cond (qX news.length ei.bytes) (kNew nid H (.rows (xJ H x) ei.sz news) λi H'=>k (.ms i 0 news.length) H') none)
     | .ms id off len=>qdG H id λd sz rs=>cond (qzP sz ei.sz&&qz8 (off+len) rs.length&&qX (len+news.length) ei.bytes)
       (kNew nid (H.set id .dead) (.rows (d&&xJ H x) sz ((rs.drop off).take len++news)) λi H'=>k (.ms i 0 (len+news.length)) H') none
     |_=>none) none
  |none=>none
 |_,_=>none
def kLen(cfg:Cfg)(t:TypeId)(x:AV)(H:AH)(k:KV α):Option α:=
 match cfg.td t with
 |some .str=>kStr x λs=>k (.int .i64 s.length)
 |some (.slice _)=>(match x with| .nilS=>k (.int .i64 0)| .em=>k (.int .i64 0)| .sl rows=>k (.int .i64 rows.length)| .ms _ _ len=>k (.int .i64 len)| .lsl rows=>k (.int .i64 rows.length)| .rsl _ rows=>k (.int .i64 rows.length)|_=>none)
 |some (.array n _)=>k (.int .i64 n)
 |some (.map _ _)=>(match x with| .nilM=>k (.int .i64 0)| .mp id=>(kOpt H[id]? λb=>match b with| .mp _ es=>k (.int .i64 es.length)|_=>none)|_=>none)
 |_=>none
def qmF(cfg:Cfg)(nid:Option Nat)(t:TypeId)(len cap:AV)(H:AH)(k:KH α):Option α:=
 match cfg.td t with
 |some (.slice e)=>
  match cfg.ty e with
  |some ei=>
   cond (zj ei) (kInt .i64 len λn=>kInt .i64 cap λc=>
    cond (qe 0 n&&qe n c&&qe (c*ei.bytes) 140737488355328&&qe c 9223372036854775807) (kNew nid H (.rows true ei.sz (qAf n.toNat ei.zero)) λi H'=>k (.ms i 0 n.toNat) H') none) none
  |none=>none
 |_=>none
def qnS(cfg:Cfg)(nid:Option Nat)(t:TypeId)(len cap:AV)(H:AH)(k:KH α):Option α:=
 match cfg.wrt t with
 |false=>qmF cfg nid t len cap H k
 |true=>
  match len,cap with
  | .int _ n,.int _ c=>cond (decide (n=c)) (qmF cfg nid t len cap H λv H'=>match v with| .ms id off l=>k (.wr l (.ms id off l)) H'|_=>none) none
  |_,_=>none
def kCap(cfg:Cfg)(t:TypeId)(x:AV)(k:KV α):Option α:=
 match cfg.td t with
 |some (.slice _)=>(match x with| .wr _ v=>(match v with| .sl rows=>k (.int .i64 rows.length)| .ms _ _ len=>k (.int .i64 len)|_=>none)|_=>none)
 |_=>none
def qnY(cfg:Cfg)(t:TypeId)(x:AV)(H:AH)(k:AH->Option α):Option α:=
 match cfg.td t with
 |some (.slice e)=>
  match x with
  | .nilS=>k H
  | .ms id off len=>
   match cfg.ty e with
   |some ei=>qdG H id λd sz rs=>cond (zj ei&&qzP sz ei.sz&&qz8 (off+len) rs.length) (k (H.set id (.rows d sz (rs.take off++qAf len ei.zero++rs.drop (off+len))))) none
   |none=>none
  |_=>none
 |_=>none
def qrE(cfg:Cfg)(t xt:TypeId)(d s:AV)(H:AH)(k:KH α):Option α:=
 match cfg.td t with
 |some (.slice e)=>
  match d with
  | .ms id off len=>
   match cfg.sz e with
   |some n=>qdG H id λd sz rs=>kSrc (qqe cfg xt) H n s λnews=>cond (qzP sz n&&qz8 (off+len) rs.length&&Nat.blt 0 sz)
     (k (.int .i64 (Nat.min news.length len)) (H.set id (.rows (d&&xJ H s) sz (rs.take off++news.take len++rs.drop (off+(news.take len).length))))) none
   |none=>none
  |_=>none
 |_=>none
def kMpB(b:ABlk)(k:Bool->List (AV×AV)->Option α):Option α:=
 match b with
 | .mp d es=>k d es
 |_=>none
def qnR(H:AH)(x:AV)(k:Bool->List (AV×AV)->Option α):Option α:=
 match x with
 | .nilM=>k true []
 | .mp id=>kOpt H[id]? λb=>kMpB b k
 |_=>none
def yq(r:Option (Nat×AV))(x:Option α)(y:Nat->AV->Option α):Option α:=
 match r with
 |none=>x
 |some p=>y p.1 p.2
def qyd(cfg:Cfg):Bool->TypeId->Bool
 |true=>cfg.dat
 |false=>noTy
def qk1(cfg:Cfg)(t:TypeId)(x key:AV)(ok:Bool)(H:AH)(k:KV α):Option α:=
 match cfg.td t with
 |some (.map kt et)=>
  match cfg.td kt with
  |some d=>qnR H x λdf es=>cond d.keyed (kOpt (vN d key es 0) λr=>yq r
    (kOpt (cfg.zeroV et) λz=>k (cond ok (.tup [z,.bool false]) z))
    λ_ v=>kTy1 (qyd cfg df) cfg et v λv=>k (cond ok (.tup [v,.bool true]) v)) none
  |none=>none
 |_=>none
def qk0(cfg:Cfg)(t:TypeId)(m key v:AV)(H:AH)(k:AH->Option α):Option α:=
 match cfg.td t with
 |some (.map kt _)=>
  match m with
  | .mp id=>
   match cfg.td kt with
   |some d=>kOpt H[id]? λb=>kMpB b λd0 es=>cond d.keyed (kOpt (vN d key es 0) λr=>yq r
     (k (H.set id (.mp (d0&&(key.refsLt 0&&v.refsLt 0)) (es++[(key,v)]))))
     λi _=>k (H.set id (.mp (d0&&(key.refsLt 0&&v.refsLt 0)) (es.set i (key,v))))) none
   |none=>none
  |_=>none
 |_=>none
def qnT(cfg:Cfg)(nid:Option Nat)(t:TypeId)(r:Option AV)(H:AH)(k:KH α):Option α:=
 match cfg.td t with
 |some (.map _ _)=>
  match r with
  |none=>kNew nid H (.mp true []) λi H'=>k (.mp i) H'
  |some h=>(match h with| .int _ _=>kNew nid H (.mp true []) λi H'=>k (.mp i) H'|_=>none)
 |_=>none
def kOp(cfg:Cfg)(nid:Option Nat)(o:Op)(ty:TypeId)(x:Operand->AV)(H:AH)(k:KH α):Option α:=
 match o with
 | .move a| .assign a=>k (x a) H
 | .pick c a b=>qq (x c) λt=>qrz t (x a) (x b) λv=>k v H
 | .alloc t=>
  match cfg.ty t with
  |some ti=>cond (xh ti.zero) (kNew nid H (qa7 cfg t ti.zero) λi H'=>k (.ptr i 0 0) H') none
  |none=>none
 | .box t a=>qbK (qse cfg t) (x a) λcs=>kNew nid H (qdn cfg t cs) λi H'=>k (.ptr i 0 0) H'
 | .build t parts=>
  match cfg.ty t with
  |some ti=>
   cond (xh ti.zero)
    (match ti.d with
    | .struct fs=>
     match qgW cfg fs with
     |some ps=>qjJ (λi=>ps[i]?) ti.zero (parts.toList.map λp=>(p.1,x p.2)) λcs=>k (.agg (cfg.fga t cs)) H
     |none=>none
    | .array _ e=>
     match cfg.sz e with
     |some n=>qjJ (λi=>some (i*n,n,qse cfg e)) ti.zero (parts.toList.map λp=>(p.1,x p.2)) λcs=>k (.agg cs) H
     |none=>none
    |_=>none) none
  |none=>none
 | .buildSlice t len parts=>
  match cfg.td t with
  |some (.slice e)=>
   match cfg.ty e with
   |some ei=>
    cond (zj ei&&qz8 (len*ei.sz) 16777216)
     (qmD ei.d.agg ei.sz (qAf len ei.zero) (parts.toList.map λp=>(p.1,x p.2)) λrows=>kNew nid H (.rows (qN 0 rows) ei.sz rows) λi H'=>k (.ms i 0 len) H') none
   |none=>none
  |_=>none
 | .load t a=>
  match cfg.ty t with
  |some ti=>match x a with
   | .lpt cs off=>qbU ti.d.agg ti.sz cs off λv=>kTy cfg.dat cfg t v λv=>cond ti.d.agg (k v.lendA H) (k v.lend H)
   | .rpt id cs off=>kOpt H[id]? λb=>match b with
    | .reg=>qbU ti.d.agg ti.sz cs off λv=>kTy cfg.dat cfg t v λv=>cond ti.d.agg (k (v.regA id) H) (k (v.regn id) H)
    |_=>qjE ti.d.agg ti.sz H (.rpt id cs off) λv=>k v H
   |p=>qjE ti.d.agg ti.sz H p λv=>kTy (qzF cfg H p) cfg t v λv=>k v H
  |none=>none
 | .store t a v=>
  match cfg.ty t with
  |some ti=>qnK ti.d.agg ti.sz H (x a) (x v) λH'=>k .junk H'
  |none=>none
 | .nilCheck a=>qgj (x a) λv=>k v H
 | .binOp op t a b _=>kOpt (aBin cfg (litN a b) op t (x a) (x b)) λv=>kTy noTy cfg ty v λv=>k v H
 | .unOp op _ a=>kOpt (aUn op (x a)) λv=>kTy noTy cfg ty v λv=>k v H
 | .convert s d a=>qic cfg nid s d (x a) H k
 | .makeFunc f first caps=>k (.fn f (first.toList.map x) (caps.toList.map x)) H
 | .makeSlice t l c=>qnS cfg nid t (x l) (x c) H k
 | .makeMap t r=>qnT cfg nid t (r.map x) H k
 | .lookup t a key ok=>qk1 cfg t (x a) (x key) ok H λv=>k v H
 | .mapUpdate t m key v| .insert t m key v=>qk0 cfg t (x m) (x key) (x v) H λH'=>k .junk H'
 | .slice t a lo hi mx=>qnL cfg t H (x a) (lo.map x) (hi.map x) (mx.map x) λv=>k v H
 | .fieldAddr t a f=>qe8 cfg t (x a) f λv=>k v H
 | .field t a f=>qnX cfg t (x a) f λv=>kTy noTy cfg ty v λv=>k v H
 | .indexAddr t a i=>qe5 cfg t H (x a).unwr (x i) λv=>k v H
 | .index t a i=>qnW cfg t (x a) (x i) λv=>kTy noTy cfg ty v λv=>k v H
 | .extract t i=>(match x t with| .tup vs=>kOpt vs[i]? λv=>kTy noTy cfg ty v λv=>k v H|_=>none)
 | .call c=>
  match c.callee with
  | .builtin b=>
   match b,c.args.toList,c.argTypes.toList with
   | .len,[a],[t]=>kLen cfg t (x a).unwr H λv=>k v H
   | .cap,[a],[t]=>kCap cfg t (x a) λv=>k v H
   | .append,[s,a],[t,xt]=>qk2 cfg nid t xt (x s) (x a) H k
   | .copy,[d,s],[t,xt]=>qrE cfg t xt (x d).unwr (x s) H k
   | .clear,[a],[t]=>qnY cfg t (x a) H λH'=>k (.tup []) H'
   | .min,[a,b],_=>kOpt (aMin (λb a=>decide (b<a)) [x a,x b]) λv=>kTy noTy cfg ty v λv=>k v H
   | .max,[a,b],_=>kOpt (aMin (λb a=>decide (a<b)) [x a,x b]) λv=>kTy noTy cfg ty v λv=>k v H
   |_,_,_=>none
  |_=>none
 |_=>none
def qjH(g s:Bool)(H:AH)(v:AV)(k:KV α):Option α:=
 match v with
 | .ms id off len=>kBlk H id λ_ rs=>cond (qz8 (off+len) rs.length&&(xD H id||qN 0 ((rs.drop off).take len))) (k (.sl ((rs.drop off).take len))) none
 | .nilS=>k (cond g (.sl []) .nilS)
 | .em=>k (cond g (.sl []) .em)
 | .wr n v=>(match v with| .sl rows=>k (cond g (.sl (rows.take n)) (.wr n (.sl rows)))|_=>none)
 | .ptr id r off=>cond s (kBlk H id λ_ rs=>kOpt rs[r]? λrow=>cond (qE 0 row) (k (.cptr row off)) none) (k (.ptr id r off))
 | .rsl id rows=>cond s (kOpt H[id]? λb=>match b with| .reg=>k (.sl rows)|_=>none) (k (.rsl id rows))
 |a=>k a
def qa1(g s:Bool)(H:AH):List AV->(List AV->Option α)->Option α
 |[],k=>k []
 |a::l,k=>qjH g s H a λa=>qa1 g s H l λl=>k (a::l)
def qbW(s:Bool)(H:AH)(v:AV)(k:KV α):Option α:=
 match v with
 | .agg cs=>qa1 true s H cs λcs=>k (.agg cs)
 | .tup cs=>cond s (k ((AV.tup cs).fg)) (qa1 true s H cs λcs=>k (.tup cs))
 | .fn f a b=>cond s (qa1 false s H a λa=>qa1 false s H b λb=>k (.fn f a b)) (k (.fn f a b))
 |a=>qjH true s H a k
def qrA(H:AH)(v:AV)(k:KV α):Option α:=
 match v with
 | .agg cs=>qa1 false false H cs λcs=>k (.agg cs)
 | .tup cs=>qa1 false false H cs λcs=>k (.tup cs)
 |a=>qjH false false H a k
def qgn(H:AH):List AV->(List AV->Option α)->Option α
 |[],k=>k []
 |a::l,k=>qrA H a λa=>qgn H l λl=>k (a::l)
def qmI(H:AH):List AV->(List AV->Option α)->Option α
 |[],k=>k []
 |a::l,k=>qbW true H a λa=>qmI H l λl=>k (a::l)
inductive OV where
 |nil
 |own (sz:Nat) (rs:List (List AV)) (off len:Nat)
def ovOf(r:AV×AH):Option OV:=
 match r.1 with
 | .nilS=>some .nil
 | .ms id off len=>
  match r.2[id]? with
  |some (.rows d sz rs)=>if d||qN 0 rs then some (.own sz rs off len)else none
  |_=>none
 |_=>none
def qwK(r:AV×AH):Option (OV×AV):=
 match r.1 with
 | .tup [a,s]=>cond ((s.frz s.msIds r.2).fg.refsLt 0) (match ovOf (a,q8 s.msIds r.2)with|some o=>some (o,(s.frz s.msIds r.2).fg)|none=>none) none
 |_=>none
def EVd(cf:Orac)(f:Nat)(args:List AV)(sz:Nat)(rs:List (List AV)):Option (AV×List (List AV)):=(cf (.f f) args [.rows true sz rs]).bind (qjV sz)
def EVx(cf:Orac)(f:Nat)(args:List AV)(sz:Nat)(rs:List (List AV)):Option (AV×List (List AV)):=(cf (.f f) args [.rows false sz rs]).bind (qiX sz)
open Classical in
def EVk (cf:Orac) (f:Nat) (args:List AV) (sz:Nat) (rs:List (List AV)):Option AV:=(EVx cf f args sz rs).bind λq=>if q.2=rs then some q.1 else none
theorem qkx{cf:Orac}{f:Nat}{args:List AV}{sz:Nat}{rs:List (List AV)}{v:AV}(h:EVx cf f args sz rs=some (v,rs)):EVk cf f args sz rs=some v:=by
 unfold EVk;rw[h];exact qAw rfl
theorem qvE{cf:Orac}{f:Nat}{args:List AV}{sz:Nat}{rs:List (List AV)}{v:AV}(h:EVk cf f args sz rs=some v):EVx cf f args sz rs=some (v,rs):=by
 unfold EVk at h;obtain⟨q,h1,h2⟩:=qzX.1 h;split at h2
 ·rename_i e;rw[h1,←Option.some.inj h2,←e]
 ·cases h2
def EVs(cf:Orac)(f:Nat)(args:List AV):Option AV:=(cf (.f f) args []).map λr=>r.1
def EVf(cf:Orac)(f:Nat)(args:List AV):Option AV:=(cf (.f f) args []).map λr=>(r.1.frz r.1.msIds r.2).fg
def EVo(cf:Orac)(f:Nat)(args:List AV):Option OV:=(cf (.f f) args []).bind ovOf
def EVg(cf:Orac)(f:Nat)(args:List AV):Option AV:=(cf (.f f) args []).bind λr=>qeo r.2 r.1
def EVz(cf:Orac)(f:Nat)(a:AV):Option Unit:=(cf (.f f) [a] [.spl]).bind qgX
def qjO(cf:Orac)(f:Nat):List AV->Option α->Option α
 |[],k=>k
 |a::l,k=>kOpt (EVz cf f a) λ_=>qjO cf f l k
def EVj(cf:Orac)(f k:Nat)(args:List AV)(G:AH):Option (AV×AH):=(cf (.f f) args G).bind (qjj k)
def qd(l:AH)(k:ABlk->AH->Option α):Option α:=
 match l with
 |b::bs=>k b bs
 |[]=>none
def qU(l:AH)(x:Option α):Option α:=
 match l with
 |[]=>x
 |_=>none
def qW(l:List (List AV))(k:List AV->List (List AV)->Option α):Option α:=
 match l with
 |b::bs=>k b bs
 |[]=>none
def vg(l:List (List AV))(x:Option α):Option α:=
 match l with
 |[]=>x
 |_=>none
def qf(b:ABlk)(k:Bool->Nat->List (List AV)->Option α):Option α:=
 match b with
 | .rows d n rs=>k d n rs
 |_=>none
def kMsE(v:AV)(k:Nat->Nat->Nat->Option α):Option α:=
 match v with
 | .ms a b c=>k a b c
 |_=>none
def kMpE(v:AV)(k:Nat->Option α):Option α:=
 match v with
 | .mp a=>k a
 |_=>none
def qrx(v:AV)(k:Nat->Nat->Nat->Option α):Option α:=
 match v with
 | .ptr a b c=>k a b c
 |_=>none
def beqB(a b:Bool):Bool:=cond a b (!b)
def kShB(s:BSh)(b:ABlk)(k:ABlk->Option α):Option α:=
 match s with
 | .row d cs=>qf b λd' n rs=>cond (beqB d d'&&qzP n cs.length) (qW rs λrow rest=>vg rest (k (.rows d cs.length [row]))) none
 | .rows d sz=>qf b λd' n rs=>cond (beqB d d'&&qzP n sz) (k (.rows d sz rs)) none
 | .mp d=>kMpB b λd' es=>cond (beqB d d') (k (.mp d es)) none
def kSh1:List BSh->AH->(AH->Option α)->Option α
 |[],l,k=>qU l (k [])
 |s::ss,l,k=>qd l λb bs=>kShB s b λb=>kSh1 ss bs λbs=>k (b::bs)
def kShC(G:AH)(s:CSh)(c:AV)(k:KV α):Option α:=
 match s with
 | .leaf s=>qaP s c k
 | .sl j=>kMsE c λid off len=>kBlk G j λ_ rs=>cond (qzP id j&&(qzP off 0&&qzP len rs.length)) (k (.ms j 0 rs.length)) none
 | .mp j=>kMpE c λid=>cond (qzP id j) (k (.mp j)) none
 | .is v=>cond (c.same v) (k v) none
 | .ptr j=>qrx c λid r off=>cond (qzP id j&&(qzP r 0&&qzP off 0)) (k (.ptr j 0 0)) none
def qmC(G:AH):List CSh->List AV->(List AV->Option α)->Option α
 |[],l,k=>kNil l (k [])
 |s::ss,l,k=>qa l λc cs=>kShC G s c λv=>qmC G ss cs λvs=>k (v::vs)
def kShD(G:AH)(s:BSh)(b:ABlk)(k:ABlk->Option α):Option α:=
 match s with
 | .row _ cs=>qf b λd' n rs=>qW rs λrow rest=>vg rest (qmC G cs row λcs'=>k (.rows d' n [cs']))
 |_=>k b
def kSh2(G:AH):List BSh->AH->(AH->Option α)->Option α
 |[],l,k=>qU l (k [])
 |s::ss,l,k=>qd l λb bs=>kShD G s b λb=>kSh2 G ss bs λbs=>k (b::bs)
def kShp(ss:List BSh)(l:AH)(k:AH->Option α):Option α:=kSh1 ss l λG=>kSh2 G ss G k
def EVq(cf:Orac)(f:Nat)(args:List AV):Option (OV×AV):=(cf (.f f) args []).bind qwK
def kOwn(o:OV)(x:Option α)(k:Nat->List (List AV)->Nat->Nat->Option α):Option α:=
 match o with
 | .nil=>x
 | .own sz rs off len=>k sz rs off len
inductive MV where
 |unit
 |nil
 |sl (off len:Nat)
 |int (k:IntKind) (n:Int)
 |bool (b:Bool)
def mvOf:AV->Option MV
 | .tup []=>some .unit
 | .nilS=>some .nil
 | .ms id off len=>if qzP id 0 then some (.sl off len)else none
 | .int k n=>some (.int k n)
 | .bool b=>some (.bool b)
 |_=>none
def MV.av(id:Nat):MV->AV
 | .unit=>.tup []
 | .nil=>.nilS
 | .sl off len=>.ms id off len
 | .int k n=>.int k n
 | .bool b=>.bool b
def EVm(cf:Orac)(f:Nat)(args:List AV)(sz:Nat)(rs:List (List AV)):Option (MV×List (List AV)):=
 (cf (.f f) args [.rows true sz rs]).bind λr=>(qjk sz r).bind λq=>(mvOf q.1).map λv=>(v,q.2)
def EVu(cf:Orac)(f:Nat)(args:List AV):Option MV:=(cf (.f f) args []).bind λr=>if r.1.refsLt 0 then mvOf r.1 else none
def kMSl(v:MV)(x:Option α)(k:Nat->Nat->Option α):Option α:=
 match v with
 | .nil=>x
 | .sl off len=>k off len
 |_=>none
def qnU(v:MV)(x:Option α):Option α:=
 match v with
 | .unit=>x
 |_=>none
def qbr(kd:IntKind)(v:MV)(k:Int->Option α):Option α:=
 match v with
 | .int q n=>cond (qai q kd) (k n) none
 |_=>none
def qaO(v:MV)(k:Bool->Option α):Option α:=
 match v with
 | .bool b=>k b
 |_=>none
def qtl(cfg:Cfg)(ty:TypeId):Nat:=
 match cfg.td ty with
 |some (.slice _)=>1
 |some (.int _)=>2
 |some .bool=>3
 |_=>0
def qwL(cfg:Cfg)(ty:TypeId):IntKind:=
 match cfg.td ty with
 |some (.int k)=>k
 |_=>.i64
def qmG(kd:Nat)(ik:IntKind)(id:Nat)(v:MV)(k:KV α):Option α:=
 match kd with
 |0=>qnU v (k (.tup []))
 |1=>kMSl v (k .nilS) λoff len=>k (.ms id off len)
 |2=>qbr ik v λn=>k (.int ik n)
 |_=>qaO v λb=>k (.bool b)
def qzE(cfg:Cfg)(f:FuncId):List Nat->List BSh
 |[]=>[]
 |_=>cfg.shp f
def qbu(cfg:Cfg)(cf:Orac)(kf:KF α)(nid:Option Nat)(ty:TypeId)(t:Tgt)(args:List AV)(H:AH)(k:KH α):Option α:=
 match t with
 | .y id=>kf (.y id) args H λr=>kOpt (qcg nid H.length r.1 r.2) λr=>kTy noTy cfg ty r.1 λv=>k v r.2
 | .f f=>
  match cfg.mode f with
  | .scal=>qmI H args λal=>cond (qE 0 al) (match cfg.inl f with
   |some _=>kf (.f f) al [] λr=>kTy noTy cfg ty r.1 λv=>cond v.scalar (k v H) none
   |none=>kOpt (EVs cf f al) λv=>kTy noTy cfg ty v λv=>cond v.scalar (k v H) none) none
  | .pfrz=>cond (qE 0 (args.map AV.fg)) (match cfg.inl f with
   |some _=>kf (.f f) (args.map AV.fg) [] λr=>qbW false r.2 r.1 λv=>kTy qdM cfg ty v λv=>cond (v.refsLt 0) (k v H) none
   |none=>kOpt (EVf cf f (args.map AV.fg)) λv=>kTy qdM cfg ty v λv=>cond (v.refsLt 0) (k v H) none) none
  | .pown=>match cfg.tup ty with
   |some [_,t2]=>cond (qE 0 args) (kOpt (EVq cf f args) λq=>kTy1 qdM cfg t2 q.2 λs=>kOwn q.1 (k (.tup [.nilS,s]) H) λsz rs off len=>kNew nid H (.rows true sz rs) λi H'=>k (.tup [.ms i off len,s]) H') none
   |_=>cond (qE 0 args) (match cfg.inl f with
   |some _=>kf (.f f) args [] λr=>kOpt (ovOf r) λo=>kOwn o (k .nilS H) λsz rs off len=>kNew nid H (.rows true sz rs) λi H'=>k (.ms i off len) H'
   |none=>kOpt (EVo cf f args) λo=>kOwn o (k .nilS H) λsz rs off len=>kNew nid H (.rows true sz rs) λi H'=>k (.ms i off len) H') none
  | .inpl=>
   match qY 0 args with
   |id::l=>cond (xo [id] l) (kOpt H[id]? λb=>match b with
     | .rows d sz rs=>cond (d||qN 0 rs) (kOpt (EVm cf f (renL (λ_=>0) args) sz rs) λq=>qmG (qtl cfg ty) (qwL cfg ty) id q.1 λv=>k v (H.set id (.rows true sz q.2))) none
     |_=>none) none
   |[]=>cond (qE 0 args) (kOpt (EVu cf f args) λv=>qmG (qtl cfg ty) (qwL cfg ty) 0 v λv=>k v H) none
  | .imp=>kf (.f f) args H λr=>kOpt (qcg nid H.length r.1 r.2) λr=>kTy noTy cfg ty r.1 λv=>k v r.2
  | .inpf=>
   match qY 0 args with
   |id::l=>cond (xo [id] l) (kOpt H[id]? λb=>match b with
     | .rows d sz rs=>cond (d||qN 0 rs) (kOpt (EVd cf f (renL (λ_=>0) args) sz rs) λq=>kTy qdM cfg ty q.1 λv=>k v (H.set id (.rows true sz q.2))) none
     |_=>none) none
   |[]=>none
  | .slf=>
   match qY 0 args with
   |id::l=>cond (xo [id] l) (kOpt H[id]? λb=>match b with
     | .rows _ sz rs=>cond (xo [id] (xI 0 rs)) (kOpt (EVk cf f (renL (λ_=>0) args) sz (renR (λ_=>0) rs)) λq=>kTy qdM cfg ty q λv=>k v (H.set id (.rows false sz (renR (λ_=>id) (renR (λ_=>0) rs))))) none
     |_=>none) none
   |[]=>none
  | .rgn=>cond (qE 0 (args.map AV.fg)) (kOpt (EVg cf f (args.map AV.fg)) λV=>kTy qdM cfg ty V λV=>kNew nid H .reg λi H'=>k (rgIn i V) H') none
  | .over=>
   match args with
   |[a]=>
    (match qY 0 a.alts with
    |id::l=>cond (xo [id] l) (kOpt H[id]? λb=>match b with
      | .reg=>qjO cf f (renL (λ_=>0) a.alts) (k (.tup []) (H.set id .spl))
      | .spl=>qjO cf f (renL (λ_=>0) a.alts) (k (.tup []) H)
      |_=>none) none
    |[]=>none)
   |_=>none
  | .obj=>kOpt (qdt H args) λs=>cond (qz8 (objK (cfg.okeep f) (renL (vo 0 s.1) args)) s.1.length)
    (kOpt (EVj cf f (objK (cfg.okeep f) (renL (vo 0 s.1) args)) (qmx (objK (cfg.okeep f) (renL (vo 0 s.1) args)) (cfg.olift f) (renL (vo 0 s.1) args) s.2).1 (qmx (objK (cfg.okeep f) (renL (vo 0 s.1) args)) (cfg.olift f) (renL (vo 0 s.1) args) s.2).2) λq=>
     kShp (qzE cfg f s.1) q.2 λG=>kOpt (yU nid H (G.length - objK (cfg.okeep f) (renL (vo 0 s.1) args))) λp=>kTy qdM cfg ty q.1 λv=>
      k ((v.ren (ya (objK (cfg.okeep f) (renL (vo 0 s.1) args)) s.1.length)).ren (yf (s.1++p.1))) (zK p.2 (s.1++p.1) (xV (objK (cfg.okeep f) (renL (vo 0 s.1) args)) s.1.length G))) none
open Classical in
def kEqR {β:Type} (a b:β) (x:Option α):Option α:=if a=b then x else none
theorem qdF{β:Type}(a:β)(x:Option α):kEqR a a x=x:=qAw rfl
def qbV(n:Nat)(x y:Option α):Option α:=match n with|0=>x|_+1=>y
def qjM(cfg:Cfg)(cf:Orac)(kf:KF α)(nid:Option Nat)(ty:TypeId)(t:Tgt)(args:List AV)(H:AH)(k:KH α):Option α:=
 match zM cfg t args with
 |some n=>qbV n (qbu cfg cf kf nid ty t [.nilS] H λv H1=>qbu cfg cf kf nid ty t [.em] H λv2 H2=>kEqR (v,H1) (v2,H2) (k v H1)) (qbu cfg cf kf nid ty t args H k)
 |none=>qbu cfg cf kf nid ty t args H k
def kTgt(f:AV)(args:List AV)(k:Tgt->List AV->Option α):Option α:=
 match f with
 | .fn (.func g) first caps=>k (.f g) (first++args++caps)
 | .yld id=>k (.y id) args
 |_=>none
def opEq:Operand->Operand->Bool
 | .tmp a,.tmp b=>qzP a b
 |_,_=>false
def frzX:List Operand->List AV->(Operand->AV)->Operand->AV
 |b::l,v::al,x,a=>cond (opEq b a) v (frzX l al x a)
 |_,_,x,a=>x a
def qmH(cfg:Cfg)(nid:Option Nat)(o:Oper)(x:Operand->AV)(H:AH)(k:KH α):Option α:=
 qgn H (o.op.operands.toList.map x) λal=>
  kOp cfg nid o.op o.type (frzX o.op.operands.toList al λa=>(x a).frz (o.op.operands.toList.flatMap λa=>(x a).msIds) H) (q8 (o.op.operands.toList.flatMap λa=>(x a).msIds) H) k
def qjA(cfg:Cfg)(cf:Orac)(kf:KF α)(frz:Bool)(nid:Option Nat)(o:Oper)(x:Operand->AV)(H:AH)(k:KH α):Option α:=
 cond frz
  (match o.op with
   | .call c=>
    match c.callee with
    | .value f=>qgn H (c.args.toList.map x) λal=>kTgt ((x f).frz (o.op.operands.toList.flatMap λa=>(x a).msIds) H) al λt al=>
      qjM cfg cf kf nid o.type t al (q8 (o.op.operands.toList.flatMap λa=>(x a).msIds) H) k
    |_=>qmH cfg nid o x H k
   |_=>qmH cfg nid o x H k)
  (match o.op with
   | .call c=>
    match c.callee with
    | .value f=>kTgt (x f) (c.args.toList.map x) λt al=>qjM cfg cf kf nid o.type t al H k
    |_=>kOp cfg nid o.op o.type x H k
   |_=>kOp cfg nid o.op o.type x H k)
def qet(ops:Array Oper)(fr:List AV)(o:Oper)(k:Bool->List AV->Option α):Option α:=
 match o.guard with
 |none=>k true fr
 |some (j,want)=>
  match(ops[j]?).bind (·.dst)with
  |some d=>kOpt fr[d]? λv=>match v with
   | .tup l=>(match l with|[]=>k false fr|_=>none)
   |v=>qq v λb=>cond b (k want (fr.set d (.bool true))) (k (!want) (fr.set d (.bool false)))
  |none=>none
def kOps(cfg:Cfg)(cf:Orac)(kf:KF α)(f rid:Nat)(ops:Array Oper):Nat->List Oper->List AV->AH->(List AV->AH->Option α)->Option α
 |_,[],fr,H,k=>k fr H
 |n,o::rest,fr,H,k=>qet ops fr o λb fr=>
   cond b (qjA cfg cf kf (cfg.frz f rid n) none o (opd fr) H λv H'=>kOps cfg cf kf f rid ops (n+1) rest (put fr o.dst v) H' k) (kOps cfg cf kf f rid ops (n+1) rest (put fr o.dst (.tup [])) H k)
def qjL(cfg:Cfg)(cf:Orac)(kf:KF α)(f rid:Nat)(ops:Array Oper):Nat->Nat->List Oper->List AV->AH->(List DR->List AV->AH->Option α)->Option α
 |_,_,[],fr,H,k=>k [] fr H
 |n,at_,o::rest,fr,H,k=>qet ops fr o λb fr=>
   cond b
    (qjA cfg cf kf (cfg.frz f rid n) (some at_) o (opd fr) H λv H'=>
     qjL cfg cf kf f rid ops (n+1) (at_+qcc cfg o) rest (put fr o.dst v) H' λfps fr' H''=>k (drOf cfg (cfg.frz f rid n) at_ o (opd fr) H v H'::fps) fr' H'')
    (qjL cfg cf kf f rid ops (n+1) (at_+qcc cfg o) rest (put fr o.dst (.tup [])) H λfps fr' H''=>k (drNo H::fps) fr' H'')
open Classical in
def CUT {β:Type} (p:β):Option β:=if ∃q:β,some q=some p then some p else none
theorem qzc{β:Type}(p:β):CUT p=some p:=qAw ⟨p,rfl⟩
def xR(ts:Option (List Tmp))(fr:List AV)(H:AH)(g:List AV->AH->Option α):Option α:=
 match ts with
 |none=>g fr H
 |some ks=>kOpt (CUT (vI (some ks) fr,H)) λp=>g p.1 p.2
theorem qpD{ts:Option (List Tmp)}{fr:List AV}{H:AH}{g:List AV->AH->Option α}{r:α}(h:xR ts fr H g=some r):g (vI ts fr) H=some r:=by
 cases ts with
 |none=>exact h
 |some ks=>
  have h:kOpt (CUT (vI (some ks) fr,H)) (λp=>g p.1 p.2)=some r:=h;rw[qzc]at h;exact h
def kSeq(nx:List AV->AH->Option α)(k:KE α):KE α:=λe fr H=>
 match e with
 | .normal=>nx fr H
 |e=>k e fr H
def xa(id:Nat)(k:KE α):KE α:=λe fr H=>
 match e with
 | .exit id'=>cond (qzP id' id) (k .normal fr H) (k (.exit id') fr H)
 |e=>k e fr H
def qgg(k:KE α):KE α:=λe fr H=>
 match e with
 | .goto _=>none
 |e=>k e fr H
def kAft(ts:Option (List Tmp))(k:KE α)(r:Ex×List AV×AH):Option α:=k r.1 (vI ts r.2.1) r.2.2
def known(fr:List AV)(c:Operand)(b:Bool):List AV:=
 match c with
 | .tmp d=>fr.set d (.bool b)
 |_=>fr
def qwP(b:ABlk)(k:Option Code->Option α):Option α:=
 match b with
 | .loop _ _ _ _ _ pend st=>(match st with| .busy=>none|_=>k pend)
 |_=>none
def qnP(pend:Option Code)(k:KE α)(fr:List AV)(H:AH):Option α:=
 match pend with
 |none=>k .normal fr H
 |some c=>(match c with| .ret=>k .ret fr H| .exit id=>k (.exit id) fr H|_=>none)
def qak(bs n:Nat)(fr:List AV)(k:KE α)(H:AH):Option α:=
 kOpt H[n]? λb=>qwP b λpend=>qnP pend k (gc bs fr (H.set n .dead)).1 (gc bs fr (H.set n .dead)).2
def qtG(cfg:Cfg)(_cf:Orac)(kf:KF α)(f:Nat)(rd:Option Nat)(bs:Nat)(g:AV)(ps:List Tmp)(assign body:Code)(fr:List AV)(H:AH)(k:KE α):Option α:=
 cond (qni rd H)
  (match g with
   | .fn (.func h) first caps=>cond (cfg.ext h).isNone
     (kf (.f h) (first++[.yld H.length]++caps) (H++[.loop f (vI (cfg.keepIn f (qm body)) fr) ps assign body none .ready]) λr=>
      qak bs H.length (vI (cfg.keepOut f (qm body)) fr) k r.2) none
   |_=>none) none
def kOrd(cfg:Cfg)(cf:Orac)(kf:KF α)(f rid:Nat)(ops:Array Oper):List (Nat×Oper)->List AV->AH->(List AV->AH->Option α)->Option α
 |[],fr,H,k=>k fr H
 |p::rest,fr,H,k=>qet ops fr p.2 λb fr=>
   cond b (qjA cfg cf kf (cfg.frz f rid p.1) none p.2 (opd fr) H λv H'=>kOrd cfg cf kf f rid ops rest (put fr p.2.dst v) H' k) (kOrd cfg cf kf f rid ops rest (put fr p.2.dst (.tup [])) H k)
def qrw{β:Type}(F:β->KE α->Option α)(g:Ex->List AV->AH->Ex×List AV×AH)(r:Ex×List AV×AH):List β->Option α->Option α
 |[],x=>x
 |q::l,x=>F q λe fr H=>kEqR r (g e fr H) (qrw F g r l x)
def qwT{β:Type}(F:β->KE α->Option α)(g:Ex->List AV->AH->Ex×List AV×AH)(k:KE α):List β->Option α
 |[]=>none
 |q::l=>F q λe fr H=>qrw F g (g e fr H) l (k (g e fr H).1 (g e fr H).2.1 (g e fr H).2.2)
def vA(cfg:Cfg)(cf:Orac)(kf:KF α)(f:Nat)(rd:Option Nat)(bs:Nat):Code->List AV->AH->KE α->Option α
 | .skip,fr,H,k=>k .normal fr H
 | .label _,fr,H,k=>k .normal fr H
 | .region id ops draw,fr,H,k=>
  cond draw
   (cond (qam ops)
    (qjL cfg cf kf f id ops 0 H.length ops.toList fr (H++qAf (places cfg ops.toList) .res) λfps fr' H'=>cond (qcR (ancs [] ops.toList) (H++qAf (places cfg ops.toList) .res) fps) (k .normal fr' H') none) none)
   (kOps cfg cf kf f id ops 0 ops.toList fr H λfr' H'=>k .normal fr' H')
 | .seq a b,fr,H,k=>
  match qcj a with
  |some p=>
   match qgY p.2 p.2.size []with
   |some O=>qwT (λo k=>kOrd cfg cf kf f p.1 p.2 o fr H λfr H=>vA cfg cf kf f rd bs b (vI (cfg.cut f (qm b)) fr) H k) (λe fr H=>qg8 bs (dsts a++dsts b) (e,fr,H)) k O
   |none=>none
  |none=>vA cfg cf kf f rd bs a fr H (kSeq (λfr H=>xR (cfg.cut f (qm b)) fr H λfr H=>vA cfg cf kf f rd bs b fr H k) k)
 | .cond c a b,fr,H,k=>qq (opd fr c) λt=>cond t (vA cfg cf kf f rd bs a (known fr c true) H k) (vA cfg cf kf f rd bs b (known fr c false) H k)
 | .block id a,fr,H,k=>vA cfg cf kf f rd bs a fr H (xa id k)
 | .loop a,fr,H,k=>kOpt (LOOP bs (cfg.keepIn f (qm a)) (cfg.lift f (qm a)) (evC cfg cf f rd bs a) (yr bs (cfg.keepIn f (qm a)) (cfg.lift f (qm a)) fr H)) (kAft (cfg.keepOut f (qm a)) k)
 | .scope a,fr,H,k=>vA cfg cf kf f rd bs a fr H (qgg k)
 | .exit id,fr,H,k=>k (.exit id) fr H
 | .goto _,_,_,_=>none
 | .ret,fr,H,k=>k .ret fr H
 | .rangeFunc g ps assign body,fr,H,k=>qtG cfg cf kf f rd bs (opd (vG (cfg.lift f (qm body)) fr H).1 g) ps.toList assign body (vG (cfg.lift f (qm body)) fr H).1 (vG (cfg.lift f (qm body)) fr H).2 k
 | .refuse _,_,_,_=>none
inductive Ko where
 |seq (c:Code)
 |block (id:Nat)
 |scope
def kRun(cfg:Cfg)(cf:Orac)(kf:KF α)(f:Nat)(rd:Option Nat)(bs:Nat)(k:KE α):List Ko->KE α
 |[]=>k
 | .seq c::s=>kSeq (λfr H=>xR (cfg.cut f (qm c)) fr H λfr H=>vA cfg cf kf f rd bs c fr H (kRun cfg cf kf f rd bs k s)) (kRun cfg cf kf f rd bs k s)
 | .block id::s=>xa id (kRun cfg cf kf f rd bs k s)
 | .scope::s=>qgg (kRun cfg cf kf f rd bs k s)
def kRes(cfg:Cfg)(fr:List AV)(H:AH):List ResultVar->(List AV->Option α)->Option α
 |[],k=>k []
 | .tmp t::l,k=>kRes cfg fr H l λvs=>k (fr.getD t .junk::vs)
 | .cell a t::l,k=>
  match cfg.ty t with
  |some ti=>qjE ti.d.agg ti.sz H (fr.getD a .junk) λv=>kTy noTy cfg t v λv=>kRes cfg fr H l λvs=>k (v::vs)
  |none=>none
variable {α : Type} {r : α} {H : AH}
theorem qh{b:Bool}{x:Option α}(h:cond b x none=some r):b=true∧x=some r:=by cases b<;>simp_all
theorem qr8{b:Bool}{x:Option α}(h:cond b none x=some r):b=false∧x=some r:=by cases b<;>simp_all
theorem xM{b:Bool}{x y:Option α}(h:cond b x y=some r):(b=true∧x=some r)∨(b=false∧y=some r):=by cases b<;>simp_all
theorem qgf{a b:IntKind}(h:qai a b=true):a=b:=by simpa [qai]using h
theorem vT{a b:Int}:qe a b=true↔a<=b:=by simp[qe]
theorem qah{a b:Int}:qu a b=true↔a<b:=by simp[qu]
theorem qcd{kd:IntKind}{v:AV}{k:Int->Option α}(h:kInt kd v k=some r):∃n,v= .int kd n∧k n=some r:=by
 unfold kInt at h;split at h
 ·obtain⟨h1,h2⟩:=qh h;rw[qgf h1];exact⟨_,rfl,h2⟩
 ·cases h
theorem qcH{v:AV}{k:Bool->Option α}(h:qq v k=some r):∃b,v= .bool b∧k b=some r:=by
 unfold qq at h;split at h
 ·exact⟨_,rfl,h⟩
 ·cases h
theorem qaj{v:AV}{k:List UInt8->Option α}(h:kStr v k=some r):∃b,v= .str b∧k b=some r:=by
 unfold kStr at h;split at h
 ·exact⟨_,rfl,h⟩
 ·cases h
theorem qdH{v:AV}{k:List AV->Option α}(h:kAgg v k=some r):∃b,v= .agg b∧k b=some r:=by
 unfold kAgg at h;split at h
 ·exact⟨_,rfl,h⟩
 ·cases h
theorem qB{β:Type}{o:Option β}{k:β->Option α}(h:kOpt o k=some r):∃b,o=some b∧k b=some r:=by
 unfold kOpt at h;split at h
 ·exact⟨_,rfl,h⟩
 ·cases h
theorem zB{l:List AV}{k:AV->List AV->Option α}(h:qa l k=some r):∃a b,l=a::b∧k a b=some r:=by
 unfold qa at h;split at h
 ·exact⟨_,_,rfl,h⟩
 ·cases h
theorem qdE{l:List AV}{x:Option α}(h:kNil l x=some r):l=[]∧x=some r:=by
 unfold kNil at h;split at h
 ·exact⟨rfl,h⟩
 ·cases h
theorem qd2{s:FK}{v:AV}{k:KV α}(h:qaP s v k=some r):k v=some r:=by
 cases s with
 |int kd=>obtain⟨n,rfl,h1⟩:=qcd h;exact h1
 |bool=>obtain⟨n,rfl,h1⟩:=qcH h;exact h1
 |str=>obtain⟨n,rfl,h1⟩:=qaj h;exact h1
 |sl=>
  have h:kSl v (λrows=>k (.sl rows))=some r:=h;unfold kSl at h;split at h
  ·exact h
  ·cases h
 |any=>exact h
theorem qd3:∀{ss:List FK} {l:List AV} {k:List AV->Option α},qbt ss l k=some r->k l=some r
 |[],l,k,h=>by
  obtain⟨rfl,h1⟩:=qdE h;exact h1
 |s::ss,l,k,h=>by
  obtain⟨a,b,rfl,h1⟩:=zB h;exact qd3 (k:=λvs=>k (a::vs)) (qd2 (k:=λv=>qbt ss b λvs=>k (v::vs)) h1)
theorem qrG{l0:List AV}{k:List AV->Option α}(h0:qbt [.int .i64,.int .i64,.str,.sl] l0 k=some r):qat l0=true∧k l0=some r:=by
 refine⟨?_,qd3 h0⟩;simp only[qbt]at h0;obtain⟨a,l1,rfl,h1⟩:=zB h0;obtain⟨n,rfl,h2⟩:=qcd (k:=λn=>qa l1 λc cs=>qaP (.int .i64) c λv=>qa cs λc cs=>qaP .str c λv1=>qa cs λc cs=>qaP .sl c λv2=>kNil cs (k [.int .i64 n,v,v1,v2])) h1;obtain⟨a,l2,rfl,h3⟩:=zB h2;obtain⟨m,rfl,h4⟩:=qcd (k:=λm=>qa l2 λc cs=>qaP .str c λv1=>qa cs λc cs=>qaP .sl c λv2=>kNil cs (k [.int .i64 n,.int .i64 m,v1,v2])) h3
 obtain⟨a,l3,rfl,h5⟩:=zB h4;obtain⟨s,rfl,h6⟩:=qaj (k:=λs=>qa l3 λc cs=>qaP .sl c λv2=>kNil cs (k [.int .i64 n,.int .i64 m,.str s,v2])) h5;obtain⟨a,l4,rfl,h7⟩:=zB h6;have h8:kSl a (λrows=>kNil l4 (k [.int .i64 n,.int .i64 m,.str s,.sl rows]))=some r:=h7;unfold kSl at h8;split at h8
 ·obtain⟨rfl,_⟩:=qdE h8;rfl
 ·cases h8
theorem qdC{p:TypeId->Bool}{cfg:Cfg}{t:TypeId}{v:AV}{k:KV α}(h:kTy1 p cfg t v k=some r):k v=some r:=by
 unfold kTy1 at h;have agg:∀{ss:List FK},(kAgg v λcs=>qbt ss cs λvs=>k (.agg vs))=some r->k v=some r:=by
  intro ss h;obtain⟨cs,rfl,h⟩:=qdH h;exact qd3 (k:=λvs=>k (.agg vs)) h
 split at h
 ·split at h
  ·split at h
   ·exact agg h
   ·exact h
  ·split at h
   ·exact agg h
   ·exact h
  ·exact qd2 h
 ·exact h
theorem qlH{p:TypeId->Bool}{cfg:Cfg}:∀{ts:List TypeId} {l:List AV} {k:List AV->Option α},kTys p cfg ts l k=some r->k l=some r
 |[],l,k,h=>by
  rw[kTys]at h;obtain⟨h1,h2⟩:=qdE h;rw[h1];exact h2
 |t::ts,l,k,h=>by
  rw[kTys]at h;obtain⟨a,b,rfl,h⟩:=zB h;have h1:=qdC (k:=λv=>kTys p cfg ts b λvs=>k (v::vs)) h;exact qlH (k:=λvs=>k (a::vs)) h1
theorem vQ{p:TypeId->Bool}{cfg:Cfg}{t:TypeId}{v:AV}{k:KV α}(h:kTy p cfg t v k=some r):k v=some r:=by
 unfold kTy at h;split at h
 ·unfold kTup at h;split at h
  ·exact qlH (k:=λvs=>k (.tup vs)) h
  ·cases h
 ·exact qdC h
theorem xN{nid:Option Nat}{b:ABlk}{k:Nat->AH->Option α}(h:kNew nid H b k=some r):∃i H',aNew nid H b=some (i,H')∧k i H'=some r:=by
 unfold kNew at h;unfold aNew;cases nid with
 |none=>exact⟨_,_,rfl,h⟩
 |some i=>
  simp only at h⊢;obtain⟨x,hx,h⟩:=qB h;rw[hx];split at h
  ·exact⟨_,_,rfl,h⟩
  ·cases h
theorem qn1{v:AV}(h:v.isCell=true):v.cells=some [v]:=by cases v<;>simp_all [AV.isCell,AV.cells]
theorem qa2{agg:Bool}{v:AV}{k:List AV->Option α}(h:qbK agg v k=some r):∃cs,v.cells=some cs∧k cs=some r:=by
 unfold qbK at h;rcases xM h with⟨_,h⟩|⟨_,h⟩
 ·obtain⟨cs,rfl,h⟩:=qdH h;obtain⟨h1,h2⟩:=qh h;exact⟨cs,by simp[AV.cells,h1],h2⟩
 ·obtain⟨h1,h2⟩:=qh h;exact⟨_,qn1 h1,h2⟩
theorem qry{t:Bool}{a b:AV}{k:KV α}(h:qrz t a b k=some r):k (if t then a else b)=some r:=by
 have sp:∀{a b:AV},cond t (k a) (k b)=some r->k (if t then a else b)=some r:=by
  intro a b h;cases t<;>simpa using h
 unfold qrz at h;split at h
 ·cases t<;>simpa using h
 ·rcases xM h with⟨h1,h⟩|⟨_,h⟩
  ·have:=qgf h1;subst this;cases t<;>simpa using h
  ·exact sp h
 ·exact sp h
theorem qe7{place:Nat->Option (Nat×Nat×Bool)}{place':Nat->Option (Nat×Nat)}(hp:∀i off n g,place i=some (off,n,g)->place' i=some (off,n)):∀{parts:List (Nat×AV)} {cells:List AV} {k:List AV->Option α},
  qjJ place cells parts k=some r->∃cs,qb5 place' cells parts=some cs∧k cs=some r
 |[],cells,k,h=>⟨cells,rfl,h⟩
 |(i,v)::rest,cells,k,h=>by
  rw[qjJ]at h;split at h
  ·rename_i off n g hi;obtain⟨cs,h1,h⟩:=qa2 h;obtain⟨h2,h⟩:=qh h;obtain⟨cs',h3,h4⟩:=qe7 hp h;refine⟨cs',?_,h4⟩;rw[qzR]at h2;rw[qb5,hp _ _ _ _ hi,h1];simp only;rw[qAw]
   ·exact h3
   ·rw[qzR,beq_iff_eq];exact⟨qzY h2.1,h2.2⟩
  ·cases h
theorem qjf{cfg:Cfg}:∀{fs:List (Nat×TypeId)} {ps:List (Nat×Nat×Bool)},qgW cfg fs=some ps->∃qs,qag cfg fs=some qs∧∀(i off n:Nat) (g:Bool),ps[i]? =some (off,n,g)->qs[i]? =some (off,n)
 |[],ps,h=>by cases h;exact⟨[],rfl,λi off n g h=>by simp at h⟩
 |(off,t)::l,ps,h=>by
  rw[qgW]at h;split at h
  ·rename_i n ps' h1 h2;cases h;obtain⟨qs,h3,h4⟩:=qjf h2;refine⟨(off,n)::qs,by rw[qag,h1,h3],λi o m g hi=>?_⟩;cases i with
   |zero=>simp at hi⊢;exact⟨hi.1,hi.2.1⟩
   |succ i=>simpa using h4 i o m g (by simpa using hi)
  ·cases h
theorem qjy{agg:Bool}{n:Nat}:∀{parts:List (Nat×AV)} {rows:List (List AV)} {k:List (List AV)->Option α},qmD agg n rows parts k=some r->∃rs,qbC n rows parts=some rs∧k rs=some r
 |[],rows,k,h=>⟨rows,rfl,h⟩
 |(i,v)::rest,rows,k,h=>by
  rw[qmD]at h;obtain⟨cs,h1,h⟩:=qa2 h;obtain⟨h2,h⟩:=qh h;obtain⟨rs,h3,h4⟩:=qjy h;refine⟨rs,?_,h4⟩;rw[qzR]at h2;rw[qbC,h1];simp only;rw[qAw]
  ·exact h3
  ·rw[qzR,beq_iff_eq];exact⟨qzY h2.1,h2.2⟩
theorem qal{id:Nat}{k:Nat->List (List AV)->Option α}(h:kBlk H id k=some r):∃sz rs,vm H id=some (sz,rs)∧k sz rs=some r:=by
 unfold kBlk at h;obtain⟨b,hb,h⟩:=qB h;unfold vm;rw[hb];split at h
 ·exact⟨_,_,rfl,h⟩
 ·exact⟨_,_,rfl,h⟩
 ·cases h
theorem qbs{g s:Bool}{v:AV}{k:KV α}(h:qjH g s H v k=some r):(∀ids,(∀id off len,v= .ms id off len->id∈ids)->s=false->k (cond g (v.frz1 ids H).fg1 (v.frz1 ids H))=some r)∧(s=true->k (cond g (v.snap1 H).fg1 (v.snap1 H))=some r):=by
 unfold qjH at h;split at h
 ·rename_i id off len;obtain⟨sz,rs,h1,h⟩:=qal h;rcases hc:(qz8 (off+len) rs.length&&(xD H id||qN 0 ((rs.drop off).take len)))with _|_
  ·rw[hc]at h;cases h
  ·rw[hc]at h;have h:k (.sl ((rs.drop off).take len))=some r:=h;have aux:∀ids:List Nat,id∈ids->(AV.ms id off len).frz1 ids H= .sl ((rs.drop off).take len):=by
    intro ids hi;simp only[AV.frz1,h1];rw[qAw];rw[Bool.and_assoc,hc,Bool.and_true];exact vK.2 hi
   refine⟨λids hi _=>?_,λ_=>?_⟩
   ·rw[aux ids (hi _ _ _ rfl)];cases g<;>exact h
   ·simp only[AV.snap1];rw[aux [id] (by simp)];cases g<;>exact h
 ·refine⟨λids _ _=>?_,λ_=>?_⟩<;>(cases g<;>exact h)
 ·refine⟨λids _ _=>?_,λ_=>?_⟩<;>(cases g<;>exact h)
 ·split at h
  ·refine⟨λids _ _=>?_,λ_=>?_⟩<;>(cases g<;>exact h)
  ·cases h
 ·rename_i id r' off;cases s with
  |false=>exact⟨λids _ _=>by cases g<;>exact h,λh=>by cases h⟩
  |true=>
   refine⟨λ_ _ h=>by(cases h),λ_=>?_⟩;obtain⟨sz,rs,h1,h⟩:=qal h;obtain⟨row,h2,h⟩:=qB h;obtain⟨h3,h⟩:=qh h;simp only[AV.snap1,h1,h2,qki,h3,if_true];cases g<;>exact h
 ·rename_i id rows;cases s with
  |false=>exact⟨λids _ _=>by cases g<;>exact h,λh=>by cases h⟩
  |true=>
   refine⟨λ_ _ h=>by(cases h),λ_=>?_⟩;obtain⟨b,h1,h⟩:=qB h;split at h
   ·simp only[AV.snap1,h1];cases rows<;>cases g<;>exact h
   ·cases h
 ·rename_i hn1 hn2 hn4 hn6 hn3 hn5;refine⟨λids _ _=>?_,λ_=>?_⟩
  ·have:v.frz1 ids H=v:=by
    cases v<;>first|rfl|exact absurd rfl (hn1 _ _ _)
   rw[this];have:v.fg1=v:=by
    cases v<;>first|rfl|exact absurd rfl hn2|exact absurd rfl hn4|exact absurd rfl (hn6 _ _)
   rw[this];cases g<;>exact h
  ·have:v.snap1 H=v:=by
    cases v<;>first|rfl|exact absurd rfl (hn1 _ _ _)|exact absurd rfl (hn3 _ _ _)|exact absurd rfl (hn5 _ _)
   rw[this];have:v.fg1=v:=by
    cases v<;>first|rfl|exact absurd rfl hn2|exact absurd rfl hn4|exact absurd rfl (hn6 _ _)
   rw[this];cases g<;>exact h
theorem qce{g:Bool}{ids:List Nat}:∀{l:List AV} {k:List AV->Option α},(∀v∈l,∀id off len,v= .ms id off len->id∈ids)->qa1 g false H l k=some r->k (l.map λv=>cond g (v.frz1 ids H).fg1 (v.frz1 ids H))=some r
 |[],k,_,h=>h
 |a::l,k,hi,h=>by
  rw[qa1]at h;have h1:=(qbs h).1 ids (hi a (by simp)) rfl;exact qce (k:=λl=>k (cond g (a.frz1 ids H).fg1 (a.frz1 ids H)::l)) (λv hv=>hi v (by simp[hv])) h1
theorem qcE{g:Bool}:∀{l:List AV} {k:List AV->Option α},qa1 g true H l k=some r->k (l.map λv=>cond g (v.snap1 H).fg1 (v.snap1 H))=some r
 |[],k,h=>h
 |a::l,k,h=>by
  rw[qa1]at h;have h1:=(qbs h).2 rfl;exact qcE (k:=λl=>k (cond g (a.snap1 H).fg1 (a.snap1 H)::l)) h1
theorem qdA{l:List AV}{v:AV}(hv:v∈l){id off len:Nat}(h:v= .ms id off len):id∈l.flatMap AV.msId:=by
 subst h;exact List.mem_flatMap.2 ⟨_,hv,by simp[AV.msId]⟩
theorem qcf{v:AV}{k:KV α}(h:qbW false H v k=some r):k (v.frz v.msIds H).fg=some r:=by
 unfold qbW at h;split at h
 ·rename_i cs;have:=qce (ids:=cs.flatMap AV.msId) (λv hv id off len e=>qdA hv e) h
  simpa [AV.frz,AV.fg,AV.msIds,Function.comp_def]using this
 ·rename_i cs;have:=qce (k:=λcs=>k (.tup cs)) (ids:=cs.flatMap AV.msId) (λv hv id off len e=>qdA hv e) h
  simpa [AV.frz,AV.fg,AV.msIds,Function.comp_def]using this
 ·exact h
 ·rename_i h1 h2 h3;have h4:=(qbs h).1 v.msIds (λid off len e=>by subst e;simp[AV.msIds,AV.msId]) rfl;have e1:v.frz v.msIds H=v.frz1 v.msIds H:=by
   cases v<;>first|rfl|exact absurd rfl (h1 _)|exact absurd rfl (h2 _)
  have e2:(v.frz1 v.msIds H).fg=(v.frz1 v.msIds H).fg1:=by
   cases v<;>first|rfl|exact absurd rfl (h1 _)|exact absurd rfl (h2 _)|skip
   simp only[AV.frz1];split
   ·split<;>rfl
   ·rfl
  rw[e1,e2];exact h4
theorem qrB{v:AV}{k:KV α}(h:qbW true H v k=some r):k (v.snap H).fg=some r:=by
 unfold qbW at h;split at h
 ·rename_i cs;have:=qcE h
  simpa [AV.snap,AV.fg,Function.comp_def]using this
 ·exact h
 ·rename_i f a b;have h2:=qcE (k:=λa=>qa1 false true H b λb=>k (.fn f a b)) h;have h3:=qcE (k:=λb=>k (.fn f (a.map (AV.snap1 H)) b)) h2;exact h3
 ·rename_i h1 h2 h3;have h4:=(qbs h).2 rfl;have e1:v.snap H=v.snap1 H:=by
   cases v<;>first|rfl|exact absurd rfl (h1 _)|exact absurd rfl (h3 _ _ _)
  have e2:(v.snap1 H).fg=(v.snap1 H).fg1:=by
   cases v<;>first|rfl|exact absurd rfl (h1 _)|exact absurd rfl (h2 _)|skip
   ·simp only[AV.snap1,AV.frz1];split
    ·split<;>rfl
    ·rfl
   ·simp only[AV.snap1];split
    ·split<;>rfl
    ·rfl
   ·simp only[AV.snap1];split<;>rfl
  rw[e1,e2];exact h4
theorem qjN:∀{l:List AV} {k:List AV->Option α},qmI H l k=some r->k (l.map λa=>(a.snap H).fg)=some r
 |[],k,h=>h
 |a::l,k,h=>by
  rw[qmI]at h;have h1:=qrB h;exact qjN (k:=λl=>k ((a.snap H).fg::l)) h1
theorem qaB{id:Nat}{k:Bool->Nat->List (List AV)->Option α}(h:qdG H id k=some r):∃d sz rs,H[id]? =some (.rows d sz rs)∧k d sz rs=some r:=by
 unfold qdG at h;obtain⟨b,hb,h⟩:=qB h;split at h
 ·exact⟨_,_,_,hb,h⟩
 ·cases h
theorem yX{agg:Bool}{n off:Nat}{cells:List AV}{k:KV α}(h:qbU agg n cells off k=some r):
  ∃v,(if agg then(if qz8 (off+n) cells.length then some (AV.agg ((cells.drop off).take n))else none)else cells[off]?)=some v∧k v=some r:=by
 unfold qbU at h;rcases xM h with⟨rfl,h⟩|⟨rfl,h⟩
 ·obtain⟨h1,h2⟩:=qh h;exact⟨_,by simp[h1],h2⟩
 ·obtain⟨v,h1,h2⟩:=qB h;exact⟨v,by simp[h1],h2⟩
theorem qe4{agg:Bool}{n:Nat}{p:AV}{k:KV α}(h:qjE agg n H p k=some r):∃v,zH agg n H p=some v∧k v=some r:=by
 unfold qjE at h;unfold zH;split at h
 ·obtain⟨sz,rs,h1,h⟩:=qal h;obtain⟨row,h2,h⟩:=qB h;obtain⟨v,h3,h4⟩:=yX h;exact⟨v,by simp only[h1,h2];exact h3,h4⟩
 ·obtain⟨v,h3,h4⟩:=yX h;exact⟨v,h3,h4⟩
 ·obtain⟨v,h3,h4⟩:=yX h;refine⟨v,?_,h4⟩;rw[←h3];simp only[List.length_map,List.map_take,List.map_drop,List.getElem?_map]
 ·obtain⟨b,h1,h⟩:=qB h;split at h
  ·obtain⟨v,h3,h4⟩:=yX h;refine⟨v,?_,h4⟩;simp only[h1];rw[←h3];simp only[List.length_map,List.map_take,List.map_drop,List.getElem?_map]
  ·simp only[h1];rcases xM h with⟨ha,h⟩|⟨ha,h⟩
   ·obtain⟨h2,h⟩:=qh h;obtain⟨h3,h⟩:=qrG h;exact⟨_,by rw[qAw ha,qAw (by rw[h2,h3];rfl)],h⟩
   ·obtain⟨rows,h2,h⟩:=qB h;exact⟨_,by rw[qAx (by rw[ha];simp)];unfold qkJ;rw[h2];rfl,h⟩
  ·cases h
 ·cases h
theorem qpw{agg:Bool}{n:Nat}{p v:AV}{k:AH->Option α}(h:qnK agg n H p v k=some r):∃H',zr n H p v=some H'∧k H'=some r:=by
 unfold qnK at h;unfold zr;split at h
 ·obtain⟨cs,h1,h⟩:=qa2 h;obtain⟨d,sz,rs,h2,h⟩:=qaB h;obtain⟨row,h3,h⟩:=qB h;obtain⟨h4,h⟩:=qh h;rw[qzR]at h4;refine⟨_,?_,h⟩;simp only[h1,h2,h3];rw[qAw];rw[qzR,beq_iff_eq];exact⟨qzY h4.1,h4.2⟩
 ·obtain⟨b,h1,h⟩:=qB h;split at h
  ·rcases xM h with⟨h4,h⟩|⟨h4,h⟩
   ·obtain⟨h2,h⟩:=qh h;refine⟨H,?_,h⟩;have h77:is77 v=true:=by rw[qzR]at h2;exact h2.2
    have hv:∃cs,v.cells=some cs:=by
     rcases qqf h77 with rfl|rfl
     ·exact⟨_,rfl⟩
     ·exact⟨_,rfl⟩
    obtain⟨cs,hv⟩:=hv;simp only[hv,h1];rw[qAw (by rw[h4,Bool.true_and];exact h2)]
   ·obtain⟨h2,h⟩:=qh h;refine⟨H,?_,h⟩;have h99:qcO v=true:=by rw[qzR]at h2;exact h2.2
    have hv:∃cs,v.cells=some cs:=by
     unfold qcO at h99;split at h99
     ·exact⟨_,rfl⟩
     ·exact⟨_,rfl⟩
     ·cases h99
    obtain⟨cs,hv⟩:=hv;simp only[hv,h1];rw[qAx (by rw[h4];simp),qAw h2]
  ·cases h
 ·cases h
theorem qd4{lo hi d:Nat}{x:Option AV}{k:Nat->Option α}(h:qgo lo hi x d k=some r):∃n,qbz lo hi x d=some n∧k n=some r:=by
 unfold qgo at h;unfold qbz;split at h
 ·exact⟨_,rfl,h⟩
 ·split at h
  ·obtain⟨h1,h⟩:=qh h;rw[qzR,vT,vT]at h1;exact⟨_,by simp only;rw[qAw h1],h⟩
  ·cases h
theorem qa0{n:Nat}{lo hi mx:Option AV}{k:Nat->Nat->Option α}(h:qbJ n lo hi mx k=some r):∃l h',qbb n lo hi mx=some (l,h')∧k l h'=some r:=by
 unfold qbJ at h;obtain⟨h0,h⟩:=qr8 h;obtain⟨a,h1,h⟩:=qd4 h;obtain⟨b,h2,h⟩:=qd4 h;obtain⟨c,h3,h⟩:=qd4 h;refine⟨c,a,?_,h⟩;unfold qbb;rw[qAx (by rw[h0];simp),h1];simp only[h2,h3]
theorem qpx{cfg:Cfg}{t:TypeId}{x:AV}{lo hi mx:Option AV}{k:KV α}(h:qnL cfg t H x lo hi mx k=some r):∃v,qbB cfg t H x lo hi mx=some v∧k v=some r:=by
 unfold qnL at h;unfold qbB;split at h
 ·rename_i ht;rw[ht];split at h
  ·split at h
   ·obtain⟨l,h',h1,h⟩:=qa0 h;exact⟨_,by simp only[h1],h⟩
   ·cases h
  ·cases h
 ·rename_i e ht;rw[ht];split at h
  ·rename_i n hn;split at h
   ·obtain⟨l,h',h1,h⟩:=qa0 h;exact⟨_,by simp only[hn,h1],h⟩
   ·rename_i rows;obtain⟨l,h',h1,h⟩:=qa0 h;obtain⟨h2,h⟩:=qh h;refine⟨slE (cfg.ems t) rows l h',by simp only[hn,h1,h2,if_true],?_⟩;split at h
    ·rename_i he;rw[he];exact h
    ·rename_i he;rw[he];exact h
   ·obtain⟨l,h',h1,h⟩:=qa0 h;obtain⟨sz,rs,h2,h⟩:=qal h;obtain⟨h3,hz⟩:=qh h;have:=qzY h3;subst this;exact⟨_,by simp[hn,h1,h2],hz⟩
   ·split at h
    ·split at h
     ·rename_i kd hh _;split at h
      ·obtain⟨h2,hz⟩:=qh h;rw[qzR,vT,vT]at h2;exact⟨_,by simp only[hn,AV.lenW];rw[qAw h2],hz⟩
      ·obtain⟨h2,hz⟩:=qh h;rw[qzR,vT,vT]at h2;exact⟨_,by simp only[hn,AV.lenW];rw[qAw h2],hz⟩
      ·cases h
     ·cases h
    ·cases h
   ·cases h
  ·cases h
 ·cases h
theorem qjF{cfg:Cfg}{t:TypeId}{x i:AV}{k:KV α}(h:qe5 cfg t H x i k=some r):∃v,yD cfg t H x i=some v∧k v=some r:=by
 unfold qe5 at h;unfold yD;split at h
 case h_2=>cases h
 rename_i kk i;split at h
 ·rename_i e ht;rw[ht];split at h
  case h_2=>cases h
  rename_i n hn;split at h
  ·obtain⟨sz,rs,h1,h⟩:=qal h;obtain⟨h2,hz⟩:=qh h;rw[qzR,qzR,vT,qah]at h2;have:=qzY h2.1.1;subst this;exact⟨_,by simp[hn,h1,h2.1.2,h2.2],hz⟩
  ·obtain⟨h2,h⟩:=qh h;rw[qzR,vT,qah]at h2;obtain⟨row,h3,h⟩:=qB h;obtain⟨h4,hz⟩:=qh h;refine⟨.cptr row 0,?_,hz⟩;have h5:=qzY h4;simp only[hn,qAw h2,h3];rw[qAw (by rw[h5];exact beq_self_eq_true n)]
  ·obtain⟨h2,h⟩:=qh h;rw[qzR,vT,qah]at h2;obtain⟨row,h3,h⟩:=qB h;obtain⟨h4,hz⟩:=qh h;refine⟨.lpt row 0,?_,hz⟩;have h5:=qzY h4;simp only[hn,qAw h2,h3];rw[qAw (by rw[h5];exact beq_self_eq_true n)]
  ·rename_i id rows;obtain⟨h2,h⟩:=qh h;rw[qzR,vT,qah]at h2;obtain⟨row,h3,h⟩:=qB h;obtain⟨h4,hz⟩:=qh h;refine⟨.rpt id row 0,?_,hz⟩;have h5:=qzY h4;simp only[hn,qAw h2,h3];rw[qAw (by rw[h5];exact beq_self_eq_true n)]
  ·cases h
 ·rename_i m e ht;rw[ht];split at h
  case h_2=>cases h
  rename_i n hn;split at h
  ·obtain⟨h2,h⟩:=qh h;rw[qzR,vT,qah]at h2;exact⟨_,by simp[hn,h2.1,h2.2],h⟩
  ·obtain⟨h2,h⟩:=qh h;rw[qzR,vT,qah]at h2;exact⟨_,by simp[hn,h2.1,h2.2],h⟩
  ·cases h
 ·cases h
theorem qwJ{cfg:Cfg}{t:TypeId}{ti:TI}(h:cfg.ty t=some ti):cfg.sz t=some ti.sz∧cfg.td t=some ti.d:=by
 unfold Cfg.sz Cfg.td;rw[h];exact⟨rfl,rfl⟩
theorem qpB{cfg:Cfg}{t:TypeId}{x i:AV}{k:KV α}(h:qnW cfg t x i k=some r):∃v,qeD cfg t x i=some v∧k v=some r:=by
 unfold qnW at h;unfold qeD;split at h
 case h_2=>cases h
 rename_i kk i;split at h
 ·rename_i n e ht;rw[ht];split at h
  case h_2=>cases h
  rename_i ti hti;obtain⟨cs,rfl,h⟩:=qdH h;obtain⟨h2,h⟩:=qh h;rw[qzR,vT,qah]at h2;obtain⟨v,h3,h⟩:=yX h;refine⟨v,?_,h⟩;simp only[(qwJ hti).1];rw[qAw h2];unfold qg9;rw[hti];exact h3
 ·rename_i ht;rw[ht];obtain⟨s,rfl,h⟩:=qaj h;obtain⟨h2,h⟩:=qh h;rw[vT]at h2;obtain⟨b,h3,h⟩:=qB h;exact⟨_,by simp[h2,h3],h⟩
 ·cases h
theorem qpC{cfg:Cfg}{t:TypeId}{x:AV}{f:Nat}{k:KV α}(h:qnX cfg t x f k=some r):∃v,qeE cfg t x f=some v∧k v=some r:=by
 unfold qnX at h;unfold qeE;split at h
 case h_2=>cases h
 rename_i fs ht;rw[ht];split at h
 case h_2=>cases h
 rename_i off ft hf;split at h
 case h_2=>cases h
 rename_i ti hti;obtain⟨cs,rfl,h⟩:=qdH h;obtain⟨v,h3,h⟩:=yX h;refine⟨v,?_,h⟩;simp only[hf];unfold qg9;rw[hti];exact h3
theorem qjK{cfg:Cfg}{t:TypeId}{x:AV}{f:Nat}{k:KV α}(h:qe8 cfg t x f k=some r):∃v,qaH cfg t x f=some v∧k v=some r:=by
 unfold qe8 at h;unfold qaH;split at h
 case h_2=>cases h
 rename_i fs ht;rw[ht];simp only;split at h
 case h_2=>cases h
 rename_i off ft hf;simp only[hf];split at h
 case h_2=>cases h
 rename_i n hn;split at h
 ·exact⟨_,by simp only[hn],h⟩
 ·exact⟨_,by simp only[hn],h⟩
 ·exact⟨_,by simp only[hn],h⟩
 ·cases h
variable {α : Type} {r : α} {H : AH}
theorem qnM{n:Nat}{x:AV}{k:List (List AV)->Option α}(h:qkX H n x k=some r):∃rows,yp H n x=some rows∧k rows=some r:=by
 unfold qkX at h;unfold yp;split at h
 ·exact⟨_,rfl,h⟩
 ·exact⟨_,rfl,h⟩
 ·obtain⟨h1,hz⟩:=qh h;exact⟨_,by simp only[h1,if_true],hz⟩
 ·obtain⟨sz,rs,h1,h⟩:=qal h;obtain⟨h2,hz⟩:=qh h;rw[qzR]at h2;refine⟨_,?_,hz⟩;simp only[h1];rw[qAw];rw[qzR,beq_iff_eq];exact⟨qzY h2.1,h2.2⟩
 ·cases h
theorem qlI{b:Bool}{n:Nat}{x:AV}{k:List (List AV)->Option α}(h:kSrc b H n x k=some r):∃rows,yg H n x=some rows∧k rows=some r:=by
 unfold kSrc at h;rcases xM h with⟨_,h⟩|⟨_,h⟩
 ·obtain⟨s,rfl,h⟩:=qaj h;obtain⟨h1,hz⟩:=qh h;exact⟨_,by simp only[yg,h1,if_true],hz⟩
 ·obtain⟨rows,h1,hz⟩:=qnM h;refine⟨rows,?_,hz⟩;unfold yg;split
  ·simp[yp]at h1
  ·exact h1
theorem qme{cfg:Cfg}{nid:Option Nat}{s d:TypeId}{x:AV}{k:KH α}(h:qic cfg nid s d x H k=some r):∃v H',zc cfg nid s d x H=some (v,H')∧k v H'=some r:=by
 unfold qic at h;unfold zc;split at h
 ·rename_i hs hd;split at h
  ·exact⟨_,_,by simp only[hs,hd],h⟩
  ·cases h
 ·rename_i hs hd;obtain⟨b,rfl,hz⟩:=qaj h;exact⟨_,_,by simp only[hs,hd],hz⟩
 ·rename_i e hs hd;split at h
  ·rename_i hte;obtain⟨b,rfl,h0⟩:=qaj h;obtain⟨i,H',h1,hz⟩:=xN h0;exact⟨_,_,by simp only[hs,hd,hte,h1],hz⟩
  ·cases h
 ·rename_i e hs hd;split at h
  ·rename_i hte;obtain⟨rows,h1,h⟩:=qB h;obtain⟨bs,h2,hz⟩:=qB h;refine⟨.str bs,H,?_,hz⟩;simp only[hs,hd];cases x<;>first|(simp only[hte,h1,h2];done)|(simp[yp]at h1)
  ·cases h
 ·cases h
theorem qnZ{cfg:Cfg}{nid:Option Nat}{t xt:TypeId}{s x:AV}{k:KH α}(h:qk2 cfg nid t xt s x H k=some r):∃v H',qbi cfg nid t xt s x H=some (v,H')∧k v H'=some r:=by
 unfold qk2 at h;unfold qbi;split at h
 case h_2=>cases h
 rename_i e xd ht hxt;split at h
 case h_2=>cases h
 rename_i ei hei;obtain⟨h1,h⟩:=qh h;obtain⟨news,h2,h⟩:=qlI h;simp only[ht,hxt,hei,h1,if_true,h2];split at h
 ·rcases xM h with⟨h3,hz⟩|⟨h3,h⟩
  ·exact⟨_,_,by simp only[h3,if_true],hz⟩
  ·obtain⟨h4,h⟩:=qh h;obtain⟨i,H',h5,hz⟩:=xN h;exact⟨_,_,by simp only[h3,qz1,if_false,h4,if_true,h5],hz⟩
 ·obtain⟨d,sz,rs,h3,h⟩:=qaB h;obtain⟨h4,h⟩:=qh h;obtain⟨i,H',h5,hz⟩:=xN h;exact⟨_,_,by simp only[h3,h4,if_true,h5],hz⟩
 ·cases h
theorem qtH{cfg:Cfg}{t:TypeId}{x:AV}{k:KV α}(h:kLen cfg t x H k=some r):∃v,aLen cfg t x H=some v∧k v=some r:=by
 unfold kLen at h;unfold aLen;split at h
 ·rename_i ht;obtain⟨s,rfl,hz⟩:=qaj h;exact⟨_,by simp only[ht],hz⟩
 ·rename_i e ht;split at h
  ·exact⟨_,by simp only[ht],h⟩
  ·exact⟨_,by simp only[ht],h⟩
  ·exact⟨_,by simp only[ht],h⟩
  ·exact⟨_,by simp only[ht],h⟩
  ·exact⟨_,by simp only[ht],h⟩
  ·exact⟨_,by simp only[ht],h⟩
  ·cases h
 ·rename_i n e ht;exact⟨_,by simp only[ht],h⟩
 ·rename_i a b ht;split at h
  ·exact⟨_,by simp only[ht],h⟩
  ·obtain⟨b,h1,h⟩:=qB h;split at h
   ·exact⟨_,by simp only[ht,h1],h⟩
   ·cases h
  ·cases h
 ·cases h
theorem qjD{cfg:Cfg}{nid:Option Nat}{t:TypeId}{l c:AV}{k:KH α}(h:qmF cfg nid t l c H k=some r):∃v H',qb4 cfg nid t l c H=some (v,H')∧k v H'=some r:=by
 unfold qmF at h;unfold qb4;split at h
 case h_2=>cases h
 rename_i e ht;split at h
 case h_2=>cases h
 rename_i ei hei;obtain⟨h1,h⟩:=qh h;obtain⟨n,rfl,ha⟩:=qcd h;obtain⟨m,rfl,hb⟩:=qcd ha;obtain⟨h2,hd⟩:=qh hb;obtain⟨i,H',h3,hz⟩:=xN hd;rw[qzR,qzR,qzR,vT,vT,vT,vT]at h2;exact⟨_,_,by simp only[ht,hei,h1,if_true];rw[qAw ⟨h2.1.1.1,h2.1.1.2,h2.1.2,h2.2⟩];simp only[h3],hz⟩
theorem qpA{cfg:Cfg}{nid:Option Nat}{t:TypeId}{l c:AV}{k:KH α}(h:qnS cfg nid t l c H k=some r):∃v H',qaS cfg nid t l c H=some (v,H')∧k v H'=some r:=by
 unfold qnS at h;unfold qaS;split at h
 ·rename_i hw;rw[hw];exact qjD h
 ·rename_i hw;rw[hw];split at h
  ·obtain⟨h1,h⟩:=qh h;obtain⟨v,H',h2,h⟩:=qjD h;split at h
   ·refine⟨_,_,?_,h⟩;simp only;rw[qAw h1,h2];rfl
   ·cases h
  ·cases h
theorem qtJ{cfg:Cfg}{t:TypeId}{x:AV}{k:KV α}(h:kCap cfg t x k=some r):∃v,aCap cfg t x=some v∧k v=some r:=by
 unfold kCap at h;unfold aCap;split at h
 ·rename_i e ht;split at h
  ·split at h
   ·exact⟨_,by simp only[ht,AV.lenW,qAe],h⟩
   ·exact⟨_,by simp only[ht,AV.lenW,qAe],h⟩
   ·cases h
  ·cases h
 ·cases h
theorem qkZ{v:AV}{k:KV α}{cfg:Cfg}{nid:Option Nat}{a:Operand}{ty:TypeId}{x:Operand->AV}(hx:x a=v)(h:qgj v k=some r):evOp cfg nid (.nilCheck a) ty x H=some (v,H)∧k v=some r:=by
 unfold qgj at h;simp only[evOp,hx];split at h<;>first|exact⟨rfl,h⟩|cases h
theorem qpE{cfg:Cfg}{t:TypeId}{x:AV}{k:AH->Option α}(h:qnY cfg t x H k=some r):∃H',qeF cfg t x H=some H'∧k H'=some r:=by
 unfold qnY at h;unfold qeF;split at h
 case h_2=>cases h
 rename_i e he;rw[he];split at h
 ·exact⟨H,rfl,h⟩
 ·rename_i id off len;split at h
  case h_2=>cases h
  rename_i ei hei;obtain⟨d,sz,rs,h1,h⟩:=qaB h;obtain⟨h2,hz⟩:=qh h;exact⟨_,by simp only[hei,h1,h2,if_true],hz⟩
 ·cases h
theorem qrD{cfg:Cfg}{t xt:TypeId}{d s:AV}{k:KH α}(h:qrE cfg t xt d s H k=some r):∃v H',qha cfg t d s H=some (v,H')∧k v H'=some r:=by
 unfold qrE at h;unfold qha;split at h
 case h_2=>cases h
 rename_i e he;rw[he];split at h
 case h_2=>cases h
 rename_i id off len;split at h
 case h_2=>cases h
 rename_i n hn;obtain⟨db,sz,rs,h1,h⟩:=qaB h;obtain⟨news,h2,h⟩:=qlI h;obtain⟨h3,hz⟩:=qh h;exact⟨_,_,by simp only[hn,h1,h2,h3,if_true],hz⟩
theorem qgk{b:ABlk}{k:Bool->List (AV×AV)->Option α}(h:kMpB b k=some r):∃d es,b= .mp d es∧k d es=some r:=by
 unfold kMpB at h;split at h
 ·exact⟨_,_,rfl,h⟩
 ·cases h
theorem qpz{x:AV}{k:Bool->List (AV×AV)->Option α}(h:qnR H x k=some r):∃d es,qdB H x=some es∧k d es=some r:=by
 unfold qnR at h;split at h
 ·exact⟨_,_,rfl,h⟩
 ·obtain⟨b,h1,h⟩:=qB h;obtain⟨d,es,rfl,h⟩:=qgk h;exact⟨d,es,by simp only[qdB,h1],h⟩
 ·cases h
theorem qhL{q:Option (Nat×AV)}{x:Option α}{y:Nat->AV->Option α}(h:yq q x y=some r):(q=none∧x=some r)∨∃p,q=some p∧y p.1 p.2=some r:=by
 unfold yq at h;split at h
 ·exact .inl ⟨rfl,h⟩
 ·exact .inr ⟨_,rfl,h⟩
theorem qnV{cfg:Cfg}{t:TypeId}{x key:AV}{ok:Bool}{k:KV α}(h:qk1 cfg t x key ok H k=some r):∃v,qaG cfg t x key ok H=some v∧k v=some r:=by
 unfold qk1 at h;split at h
 case h_2=>cases h
 rename_i kt et ht;split at h
 case h_2=>cases h
 rename_i d hd;obtain⟨df,es,h1,h⟩:=qpz h;obtain⟨h2,h⟩:=qh h;obtain⟨q,h3,h⟩:=qB h;rcases qhL h with⟨rfl,h⟩|⟨p,rfl,h⟩
 ·obtain⟨z,hz,h⟩:=qB h;exact⟨_,by simp only[qaG,ht,hd,h1,h2,if_true,h3,hz];cases ok<;>rfl,h⟩
 ·have h:=qdC (k:=λv=>k (cond ok (.tup [v,.bool true]) v)) h;exact⟨_,by simp only[qaG,ht,hd,h1,h2,if_true,h3];cases ok<;>rfl,h⟩
theorem qgl{cfg:Cfg}{t:TypeId}{m key v:AV}{k:AH->Option α}(h:qk0 cfg t m key v H k=some r):∃H',qbh cfg t m key v H=some H'∧k H'=some r:=by
 unfold qk0 at h;split at h
 case h_2=>cases h
 rename_i kt et ht;split at h
 case h_2=>cases h
 rename_i id;split at h
 case h_2=>cases h
 rename_i d hd;obtain⟨b,h1,h⟩:=qB h;obtain⟨d0,es,rfl,h⟩:=qgk h;obtain⟨h2,h⟩:=qh h;obtain⟨q,h3,h⟩:=qB h;rcases qhL h with⟨rfl,h⟩|⟨p,rfl,h⟩
 ·exact⟨_,by simp only[qbh,ht,hd,h1,h2,if_true,h3],h⟩
 ·exact⟨_,by simp only[qbh,ht,hd,h1,h2,if_true,h3],h⟩
theorem qnQ{cfg:Cfg}{nid:Option Nat}{o:Op}{ty:TypeId}{x:Operand->AV}{k:KH α}(h:kOp cfg nid o ty x H k=some r):∃v H',evOp cfg nid o ty x H=some (v,H')∧k v H'=some r:=by
 cases o with
 |move a=>exact⟨_,_,rfl,h⟩
 |assign a=>exact⟨_,_,rfl,h⟩
 |pick c a b=>
  simp only[kOp]at h;obtain⟨t,h1,h⟩:=qcH h;have:=qry (k:=λv=>k v H) h;exact⟨_,_,by simp only[evOp,h1],this⟩
 |alloc t=>
  simp only[kOp]at h;split at h
  ·rename_i ti hti;obtain⟨h1,h⟩:=qh h;obtain⟨i,H',h2,hz⟩:=xN h;exact⟨_,_,by simp only[evOp,hti,h1,if_true,h2],hz⟩
  ·cases h
 |box t a=>
  simp only[kOp]at h;obtain⟨cs,h1,h⟩:=qa2 h;obtain⟨i,H',h2,hz⟩:=xN h;exact⟨_,_,by simp only[evOp,h1,h2],hz⟩
 |build t parts=>
  simp only[kOp]at h;split at h
  case h_2=>cases h
  rename_i ti hti;obtain⟨h1,h⟩:=qh h;split at h
  ·rename_i fs hfs;split at h
   case h_2=>cases h
   rename_i ps hps;obtain⟨qs,h2,h3⟩:=qjf hps;obtain⟨cs,h4,hz⟩:=qe7 (place':=λi=>qs[i]?) (λi off n g hi=>h3 i off n g hi) h;exact⟨_,_,by simp only[evOp,hti,h1,if_true,hfs,h2,h4,qAe],hz⟩
  ·rename_i m e hfs;split at h
   case h_2=>cases h
   rename_i n hn;obtain⟨cs,h4,hz⟩:=qe7 (place':=λi=>some (i*n,n)) (λi off m g hi=>by cases hi;rfl) h;exact⟨_,_,by simp only[evOp,hti,h1,if_true,hfs,hn,h4,qAe],hz⟩
  ·cases h
 |buildSlice t len parts=>
  simp only[kOp]at h;split at h
  case h_2=>cases h
  rename_i e ht;split at h
  case h_2=>cases h
  rename_i ei hei;obtain⟨h1,h⟩:=qh h;obtain⟨rows,h2,h⟩:=qjy h;obtain⟨i,H',h3,hz⟩:=xN h;exact⟨_,_,by simp only[evOp,ht,hei,h1,if_true,h2,h3],hz⟩
 |load t a=>
  simp only[kOp]at h;split at h
  case h_2=>cases h
  rename_i ti hti;split at h
  ·rename_i cs off hx;obtain⟨v,h1,h⟩:=yX h;have h2:=vQ (k:=λv=>cond ti.d.agg (k v.lendA H) (k v.lend H)) h;rcases xM h2 with⟨ha,h2⟩|⟨ha,h2⟩
   ·rw[ha]at h1;simp only[if_true]at h1;split at h1
    ·rename_i hb;cases h1;refine⟨_,_,?_,h2⟩;simp only[evOp,hti,hx,zH,ha,if_true,hb,qAe,AV.lendA]
    ·cases h1
   ·rw[ha]at h1;simp only[qz1,if_false]at h1;refine⟨_,_,?_,h2⟩;simp only[evOp,hti,hx,zH,ha,qz1,if_false,h1,qAe]
  ·rename_i id cs off hx;obtain⟨b,hb0,h⟩:=qB h;split at h
   ·obtain⟨v,h1,h⟩:=yX h;have h2:=vQ (k:=λv=>cond ti.d.agg (k (v.regA id) H) (k (v.regn id) H)) h;rcases xM h2 with⟨ha,h2⟩|⟨ha,h2⟩
    ·rw[ha]at h1;simp only[if_true]at h1;split at h1
     ·rename_i hb;cases h1;refine⟨_,_,?_,h2⟩;simp only[evOp,hti,hx,zH,hb0,ha,if_true,hb,qAe,AV.regA]
     ·cases h1
    ·rw[ha]at h1;simp only[qz1,if_false]at h1;refine⟨_,_,?_,h2⟩;simp only[evOp,hti,hx,zH,hb0,ha,qz1,if_false,h1,qAe]
   ·obtain⟨v,h1,h⟩:=qe4 h;exact⟨_,_,by simp only[evOp,hti,hx,h1,qAe],h⟩
  ·obtain⟨v,h1,h⟩:=qe4 h;exact⟨_,_,by simp only[evOp,hti,h1,qAe],vQ (k:=λv=>k v H) h⟩
 |store t a v=>
  simp only[kOp]at h;split at h
  case h_2=>cases h
  rename_i ti hti;obtain⟨H',h1,hz⟩:=qpw h;exact⟨_,_,by simp only[evOp,(qwJ hti).1,h1,qAe],hz⟩
 |nilCheck a=>
  obtain⟨h1,h2⟩:=qkZ (cfg:=cfg) (nid:=nid) (ty:=ty) (H:=H) (x:=x) (a:=a) (k:=λv=>k v H) rfl h;exact⟨_,_,h1,h2⟩
 |binOp op t a b yt=>
  simp only[kOp]at h;obtain⟨v,h1,h⟩:=qB h;exact⟨_,_,by simp only[evOp,h1,qAe],vQ (k:=λv=>k v H) h⟩
 |unOp op t a=>
  simp only[kOp]at h;obtain⟨v,h1,h⟩:=qB h;exact⟨_,_,by simp only[evOp,h1,qAe],vQ (k:=λv=>k v H) h⟩
 |convert s d a=>exact qme h
 |makeFunc f first caps=>exact⟨_,_,rfl,h⟩
 |makeSlice t l c=>exact qpA h
 |makeMap t r=>
  simp only[kOp]at h;unfold qnT at h;split at h
  case h_2=>cases h
  rename_i kt et ht;cases r with
  |none=>
   simp only[Option.map_none]at h;obtain⟨i,H',h1,hz⟩:=xN h;exact⟨_,_,by simp only[evOp,ht,h1],hz⟩
  |some a=>
   simp only[qAe]at h;split at h
   ·rename_i hxa;obtain⟨i,H',h1,hz⟩:=xN h;exact⟨_,_,by simp only[evOp,ht,hxa,h1],hz⟩
   ·cases h
 |lookup t a key ok=>
  simp only[kOp]at h;obtain⟨v,h1,hz⟩:=qnV h;exact⟨_,_,by simp only[evOp,h1,qAe],hz⟩
 |mapUpdate t m key v=>
  simp only[kOp]at h;obtain⟨H',h1,hz⟩:=qgl h;exact⟨_,_,by simp only[evOp,h1,qAe],hz⟩
 |insert t m key v=>
  simp only[kOp]at h;obtain⟨H',h1,hz⟩:=qgl h;exact⟨_,_,by simp only[evOp,h1,qAe],hz⟩
 |slice t a lo hi mx=>
  simp only[kOp]at h;obtain⟨v,h1,hz⟩:=qpx h;exact⟨_,_,by simp only[evOp,h1,qAe],hz⟩
 |fieldAddr t a f=>
  simp only[kOp]at h;obtain⟨v,h1,hz⟩:=qjK h;exact⟨_,_,by simp only[evOp,h1,qAe],hz⟩
 |field t a f=>
  simp only[kOp]at h;obtain⟨v,h1,h⟩:=qpC h;exact⟨_,_,by simp only[evOp,h1,qAe],vQ (k:=λv=>k v H) h⟩
 |indexAddr t a i=>
  simp only[kOp]at h;obtain⟨v,h1,hz⟩:=qjF h;exact⟨_,_,by simp only[evOp,h1,qAe],hz⟩
 |index t a i=>
  simp only[kOp]at h;obtain⟨v,h1,h⟩:=qpB h;exact⟨_,_,by simp only[evOp,h1,qAe],vQ (k:=λv=>k v H) h⟩
 |extract t i=>
  simp only[kOp]at h;split at h
  ·rename_i vs hvs;obtain⟨v,h1,h⟩:=qB h;exact⟨_,_,by simp only[evOp,hvs,h1,qAe],vQ (k:=λv=>k v H) h⟩
  ·cases h
 |call c=>
  simp only[kOp]at h;obtain⟨callee,args,argTypes⟩:=c;simp only at h;simp only[evOp];split at h
  case h_2=>cases h
  generalize args.toList=al at *;generalize argTypes.toList=tl at *;split at h
  ·obtain⟨v,h1,hz⟩:=qtH h;exact⟨_,_,by simp only[h1,qAe],hz⟩
  ·obtain⟨v,h1,hz⟩:=qtJ h;exact⟨_,_,by simp only[h1,qAe],hz⟩
  ·exact qnZ h
  ·rename_i d s t xt;obtain⟨v,H',h1,hz⟩:=qrD h;exact⟨_,_,h1,hz⟩
  ·obtain⟨v,h1,hz⟩:=qpE h;exact⟨_,_,by simp only[h1,qAe],hz⟩
  ·obtain⟨v,h1,h⟩:=qB h;exact⟨_,_,by simp only[h1,qAe],vQ (k:=λv=>k v H) h⟩
  ·obtain⟨v,h1,h⟩:=qB h;exact⟨_,_,by simp only[h1,qAe],vQ (k:=λv=>k v H) h⟩
  ·cases h
 |_=>simp only[kOp]at h;cases h
def KfOk(cf:Orac)(kf:KF α):Prop:=∀t a H k r,kf t a H k=some r->∃q,cf t a H=some q∧k q=some r
theorem qfa{cf:Orac}{f:Nat}:∀{l:List AV} {k:Option α},qjO cf f l k=some r->zV cf f l=some ()∧k=some r
 |[],_,h=>⟨rfl,h⟩
 |a::l,k,h=>by
  rw[qjO]at h;obtain⟨u,h1,h⟩:=qB h;obtain⟨h2,hz⟩:=qfa h;refine⟨?_,hz⟩;unfold EVz at h1;obtain⟨q,h3,h4⟩:=qzX.1 h1;rw[zV,h3];simp only[qz3,h4,h2]
theorem qlb{a b:Bool}(h:beqB a b=true):a=b:=by cases a<;>cases b<;>first|rfl|cases h
theorem qd1{b:ABlk}{k:Bool->Nat->List (List AV)->Option α}(h:qf b k=some r):∃d n rs,b= .rows d n rs∧k d n rs=some r:=by
 unfold qf at h;split at h
 ·exact⟨_,_,_,rfl,h⟩
 ·cases h
theorem qhO{l:AH}{k:ABlk->AH->Option α}(h:qd l k=some r):∃a b,l=a::b∧k a b=some r:=by
 unfold qd at h;split at h
 ·exact⟨_,_,rfl,h⟩
 ·cases h
theorem qjC{l:AH}{x:Option α}(h:qU l x=some r):l=[]∧x=some r:=by
 unfold qU at h;split at h
 ·exact⟨rfl,h⟩
 ·cases h
theorem qhN{l:List (List AV)}{k:List AV->List (List AV)->Option α}(h:qW l k=some r):∃a b,l=a::b∧k a b=some r:=by
 unfold qW at h;split at h
 ·exact⟨_,_,rfl,h⟩
 ·cases h
theorem qjB{l:List (List AV)}{x:Option α}(h:vg l x=some r):l=[]∧x=some r:=by
 unfold vg at h;split at h
 ·exact⟨rfl,h⟩
 ·cases h
theorem qtF{s:BSh}{b:ABlk}{k:ABlk->Option α}(h:kShB s b k=some r):k b=some r:=by
 cases s with
 |row d cs=>
  obtain⟨d',n,rs,rfl,h⟩:=qd1 h;obtain⟨h1,h⟩:=qh h;obtain⟨row,rest,rfl,h⟩:=qhN h;obtain⟨rfl,h⟩:=qjB h;rw[qzR]at h1;rw[←qlb h1.1,qzY h1.2];exact h
 |rows d sz=>
  obtain⟨d',n,rs,rfl,h⟩:=qd1 h;obtain⟨h1,h⟩:=qh h;rw[qzR]at h1;rw[←qlb h1.1,qzY h1.2];exact h
 |mp d=>
  obtain⟨d',es,rfl,h⟩:=qgk h;obtain⟨h1,h⟩:=qh h;rw[←qlb h1];exact h
theorem qlK:∀{ss:List BSh} {l:AH} {k:AH->Option α},kSh1 ss l k=some r->k l=some r
 |[],l,k,h=>by
  obtain⟨rfl,h⟩:=qjC h;exact h
 |s::ss,l,k,h=>by
  obtain⟨b,bs,rfl,h⟩:=qhO h;have h:=qtF (k:=λb=>kSh1 ss bs λbs=>k (b::bs)) h;exact qlK (k:=λbs=>k (b::bs)) h
theorem qtE{G:AH}{s:CSh}{c:AV}{k:KV α}(h:kShC G s c k=some r):k c=some r:=by
 cases s with
 |leaf s=>exact qd2 h
 |sl j=>
  simp only[kShC]at h;unfold kMsE at h;split at h
  case h_2=>cases h
  obtain⟨sz,rs,_,h⟩:=qal h;obtain⟨h1,h⟩:=qh h;rw[qzR,qzR]at h1;rw[qzY h1.1,qzY h1.2.1,qzY h1.2.2];exact h
 |mp j=>
  simp only[kShC]at h;unfold kMpE at h;split at h
  case h_2=>cases h
  obtain⟨h1,h⟩:=qh h;rw[qzY h1];exact h
 |ptr j=>
  simp only[kShC]at h;unfold qrx at h;split at h
  case h_2=>cases h
  obtain⟨h1,h⟩:=qh h;rw[qzR,qzR]at h1;rw[qzY h1.1,qzY h1.2.1,qzY h1.2.2];exact h
 |is v=>
  simp only[kShC]at h;obtain⟨h1,h⟩:=qh h;rw[AV.same_eq h1];exact h
theorem qjw{G:AH}:∀{ss:List CSh} {l:List AV} {k:List AV->Option α},qmC G ss l k=some r->k l=some r
 |[],l,k,h=>by
  obtain⟨rfl,h⟩:=qdE h;exact h
 |s::ss,l,k,h=>by
  obtain⟨c,cs,rfl,h⟩:=zB h;have h:=qtE (k:=λv=>qmC G ss cs λvs=>k (v::vs)) h;exact qjw (k:=λvs=>k (c::vs)) h
theorem qtD{G:AH}{s:BSh}{b:ABlk}{k:ABlk->Option α}(h:kShD G s b k=some r):k b=some r:=by
 cases s with
 |row d cs=>
  obtain⟨d',n,rs,rfl,h⟩:=qd1 h;obtain⟨row,rest,rfl,h⟩:=qhN h;obtain⟨rfl,h⟩:=qjB h;exact qjw (k:=λcs'=>k (.rows d' n [cs'])) h
 |rows d sz=>exact h
 |mp d=>exact h
theorem qlJ{G:AH}:∀{ss:List BSh} {l:AH} {k:AH->Option α},kSh2 G ss l k=some r->k l=some r
 |[],l,k,h=>by
  obtain⟨rfl,h⟩:=qjC h;exact h
 |s::ss,l,k,h=>by
  obtain⟨b,bs,rfl,h⟩:=qhO h;have h:=qtD (k:=λb=>kSh2 G ss bs λbs=>k (b::bs)) h;exact qlJ (k:=λbs=>k (b::bs)) h
theorem qtC{ss:List BSh}{l:AH}{k:AH->Option α}(h:kShp ss l k=some r):k l=some r:=
 qlJ (qlK (k:=λG=>kSh2 G ss G k) h)
theorem qbX{cfg:Cfg}{cf:Orac}{kf:KF α}(hkf:KfOk cf kf){nid:Option Nat}{ty:TypeId}{t:Tgt}{args:List AV}{k:KH α}(h:qbu cfg cf kf nid ty t args H k=some r):∃v H',vj cfg cf nid t args H=some (v,H')∧k v H'=some r:=by
 cases t with
 |y id=>
  simp only[qbu]at h;obtain⟨q,h1,h⟩:=hkf _ _ _ _ _ h;obtain⟨p,h2,h⟩:=qB h;exact⟨_,_,by simp only[vj,h1,qz3];exact h2,vQ (k:=λv=>k v p.2) h⟩
 |f f=>
  simp only[qbu]at h;cases hm:cfg.mode f with
  |scal=>
   simp only[hm]at h;obtain⟨h1,h⟩:=qh (qjN h);split at h
   ·obtain⟨q,h5,h⟩:=hkf _ _ _ _ _ h;have h3:=vQ (k:=λv=>cond v.scalar (k v H) none) h;obtain⟨h4,hz⟩:=qh h3;exact⟨q.1,H,by simp only[vj,hm,h1,if_true,h5,qz3,h4],hz⟩
   obtain⟨v,h2,h⟩:=qB h;have h3:=vQ (k:=λv=>cond v.scalar (k v H) none) h;obtain⟨h4,hz⟩:=qh h3;unfold EVs at h2;obtain⟨q,h5,h6⟩:=qzZ.1 h2;exact⟨v,H,by simp only[vj,hm,h1,if_true,h5,qz3,h6,h4],hz⟩
  |pfrz=>
   simp only[hm]at h;obtain⟨h1,h⟩:=qh h;split at h
   ·obtain⟨q,h5,h⟩:=hkf _ _ _ _ _ h;have h2:=qcf (k:=λv=>kTy qdM cfg ty v λv=>cond (v.refsLt 0) (k v H) none) h;have h3:=vQ (k:=λv=>cond (v.refsLt 0) (k v H) none) h2;obtain⟨h4,hz⟩:=qh h3;exact⟨_,H,by simp only[vj,hm,h1,if_true,h5,qz3,h4],hz⟩
   obtain⟨v,h2,h⟩:=qB h;have h3:=vQ (k:=λv=>cond (v.refsLt 0) (k v H) none) h;obtain⟨h4,hz⟩:=qh h3;unfold EVf at h2;obtain⟨q,h5,h6⟩:=qzZ.1 h2;exact⟨v,H,by simp only[vj,hm,h1,if_true,h5,qz3,h6,h4],hz⟩
  |pown=>
   simp only[hm]at h;split at h
   ·rename_i t1 t2 _;obtain⟨h1,h⟩:=qh h;obtain⟨q,h2,h⟩:=qB h;obtain⟨p,h5,h6⟩:=qzX.1 h2;unfold qwK at h6;split at h6
    case h_2=>cases h6
    rename_i a sc hp;obtain⟨h7,h6⟩:=qh h6;split at h6
    case h_2=>cases h6
    rename_i o ho;cases h6;have h:=qdC (k:=λs=>kOwn o (k (.tup [.nilS,s]) H) λsz rs off len=>kNew nid H (.rows true sz rs) λi H'=>k (.tup [.ms i off len,s]) H') h;unfold ovOf at ho;split at ho
    ·rename_i hq;cases ho;refine⟨.tup [.nilS,(sc.frz sc.msIds p.2).fg],H,?_,h⟩;have hq:a= .nilS:=hq;simp only[vj,hm,h1,if_true,h5,qz3,qc7,hp,h7,hq,yS,AV.refsLt,qAe]
    ·rename_i id off len hq;split at ho
     case h_2=>cases ho
     rename_i sz rs hid;split at ho
     case isFalse=>cases ho
     rename_i hr;cases ho;simp only[kOwn]at h;obtain⟨i,H',h8,hz⟩:=xN h;have hq:a= .ms id off len:=hq;refine⟨_,_,?_,hz⟩;simp only[vj,hm,h1,if_true,h5,qz3,qc7,hp,h7,hq,yS,hid,hr,h8,qAe]
    ·cases ho
   ·obtain⟨h1,h⟩:=qh h;have key:∃q o,cf (.f f) args []=some q∧ovOf q=some o∧(kOwn o (k .nilS H) λsz rs off len=>kNew nid H (.rows true sz rs) λi H'=>k (.ms i off len) H')=some r:=by
     split at h
     ·obtain⟨q,h5,h⟩:=hkf _ _ _ _ _ h;obtain⟨o,h6,h⟩:=qB h;exact⟨q,o,h5,h6,h⟩
     ·obtain⟨o,h2,h⟩:=qB h;unfold EVo at h2;obtain⟨q,h5,h6⟩:=qzX.1 h2;exact⟨q,o,h5,h6,h⟩
    obtain⟨q,o,h5,h6,h⟩:=key;unfold ovOf at h6;split at h6
    ·rename_i hq;cases h6;exact⟨.nilS,H,by simp only[vj,hm,h1,if_true,h5,qz3,qc7,yS,hq,AV.refsLt],h⟩
    ·rename_i id off len hq;split at h6
     case h_2=>cases h6
     rename_i sz rs hid;split at h6
     case isFalse=>cases h6
     rename_i hr;cases h6;simp only[kOwn]at h;obtain⟨i,H',h7,hz⟩:=xN h;exact⟨_,_,by simp only[vj,hm,h1,if_true,h5,qz3,qc7,yS,hq,hid,hr,h7],hz⟩
    ·cases h6
  |inpl=>
   simp only[hm]at h;have res:∀(kd:Nat) (ik:IntKind) (id:Nat) (v:MV) (k:KV α),qmG kd ik id v k=some r->k (v.av id)=some r:=by
    intro kd ik id v k h;unfold qmG at h;split at h
    ·cases v<;>first|exact h|exact absurd h (by simp[qnU])
    ·cases v<;>first|exact h|exact absurd h (by simp[kMSl])
    ·cases v with
     |int q n=>
      obtain⟨h1,h2⟩:=qh h;rw[←qgf h1]at h2;exact h2
     |_=>exact absurd h (by simp[qbr])
    ·cases v<;>first|exact h|exact absurd h (by simp[qaO])
   split at h
   case h_2=>
    rename_i hids;obtain⟨h1,h⟩:=qh h;obtain⟨v1,h2,h⟩:=qB h;unfold EVu at h2;obtain⟨r1,h5,h6⟩:=qzX.1 h2;split at h6
    case isFalse=>cases h6
    rename_i hrf;have hav:r1.1=v1.av 0:=by
     unfold mvOf at h6;split at h6
     ·rename_i e;cases h6;rw[e];rfl
     ·rename_i e;cases h6;rw[e];rfl
     ·rename_i i off len e;rw[e]at hrf;simp[AV.refsLt,qAm]at hrf
     ·rename_i e;cases h6;rw[e];rfl
     ·rename_i e;cases h6;rw[e];rfl
     ·cases h6
    refine⟨v1.av 0,H,?_,res _ _ _ _ (λv=>k v H) h⟩;simp only[vj,hm,hids,h1,if_true,h5,qz3,hrf];rw[hav]
   rename_i id l hids;obtain⟨h1,h⟩:=qh h;obtain⟨b,h2,h⟩:=qB h;split at h
   case h_2=>cases h
   rename_i d sz rs;obtain⟨h3,h⟩:=qh h;obtain⟨q,h4,h⟩:=qB h;unfold EVm at h4;obtain⟨r1,h5,h6⟩:=qzX.1 h4;obtain⟨q1,h7,h8⟩:=qzX.1 h6;obtain⟨v1,h9,h10⟩:=qzZ.1 h8;cases h10;have hav:q1.1.ren (λ_=>id)=v1.av id:=by
    unfold mvOf at h9;split at h9
    ·rename_i e;cases h9;rw[e];simp[AV.ren,renL,MV.av]
    ·rename_i e;cases h9;rw[e];simp[AV.ren,MV.av]
    ·rename_i i off len e;split at h9
     ·cases h9;rw[e];simp[AV.ren,MV.av]
     ·cases h9
    ·rename_i e;cases h9;rw[e];simp[AV.ren,MV.av]
    ·rename_i e;cases h9;rw[e];simp[AV.ren,MV.av]
    ·cases h9
   have hk:k (v1.av id) (H.set id (.rows true sz q1.2))=some r:=res _ _ _ _ (λv=>k v (H.set id (.rows true sz q1.2))) h;refine⟨v1.av id,_,?_,hk⟩;simp only[vj,hm,hids,h1,if_true,h2,h3,h5,qz3,h7,qAe,hav]
  |inpf=>
   simp only[hm]at h;split at h
   case h_2=>cases h
   rename_i id l hids;obtain⟨h1,h⟩:=qh h;obtain⟨b,h2,h⟩:=qB h;split at h
   case h_2=>cases h
   rename_i d sz rs;obtain⟨h3,h⟩:=qh h;obtain⟨q,h4,h⟩:=qB h;unfold EVd at h4;obtain⟨r1,h5,h6⟩:=qzX.1 h4;have hk:=vQ (k:=λv=>k v (H.set id (.rows true sz q.2))) h;refine⟨q.1,_,?_,hk⟩;simp only[vj,hm,hids,h1,if_true,h2,h3,h5,qz3,h6,qAe]
  |slf=>
   simp only[hm]at h;split at h
   case h_2=>cases h
   rename_i id l hids;obtain⟨h1,h⟩:=qh h;obtain⟨b,h2,h⟩:=qB h;split at h
   case h_2=>cases h
   rename_i d sz rs;obtain⟨h3,h⟩:=qh h;obtain⟨q,h4,h⟩:=qB h;have h4:=qvE h4;unfold EVx at h4;obtain⟨r1,h5,h6⟩:=qzX.1 h4;have hk:=vQ (k:=λv=>k v (H.set id (.rows false sz (renR (λ_=>id) (renR (λ_=>0) rs))))) h;refine⟨q,_,?_,hk⟩;simp only[vj,hm,hids,h1,if_true,h2,h3,h5,qz3,h6,qAe]
  |rgn=>
   simp only[hm]at h;obtain⟨h1,h⟩:=qh h;obtain⟨V,h2,h⟩:=qB h;have h3:=vQ (k:=λV=>kNew nid H .reg λi H'=>k (rgIn i V) H') h;obtain⟨i,H',h4,hz⟩:=xN h3;unfold EVg at h2;obtain⟨q,h5,h6⟩:=qzX.1 h2;exact⟨_,_,by simp only[vj,hm,h1,if_true,h5,qz3,h6,h4,qAe],hz⟩
  |over=>
   simp only[hm]at h;split at h
   case h_2=>cases h
   rename_i a;split at h
   case h_2=>cases h
   rename_i id l hids;obtain⟨h1,h⟩:=qh h;obtain⟨b,h2,h⟩:=qB h;split at h
   ·obtain⟨h3,hz⟩:=qfa h;exact⟨_,_,by simp only[vj,hm,hids,h1,if_true,h2,h3,qAe],hz⟩
   ·obtain⟨h3,hz⟩:=qfa h;exact⟨_,_,by simp only[vj,hm,hids,h1,if_true,h2,h3,qAe],hz⟩
   ·cases h
  |imp=>
   simp only[hm]at h;obtain⟨q,h1,h⟩:=hkf _ _ _ _ _ h;obtain⟨p,h2,h⟩:=qB h;exact⟨_,_,by simp only[vj,hm,h1,qz3];exact h2,vQ (k:=λv=>k v p.2) h⟩
  |obj=>
   simp only[hm]at h;obtain⟨s,h0,h⟩:=qB h;obtain⟨hk,h⟩:=qh h;obtain⟨q,h1,h⟩:=qB h;have h:=qtC h;obtain⟨p2,h3,h⟩:=qB h;unfold EVj at h1;obtain⟨q0,h4,h5⟩:=qzX.1 h1;exact⟨_,_,by simp only[vj,hm,h0,hk,if_true,h4,h5,h3,qz3,qAe],vQ (k:=λv=>k ((v.ren (ya (objK (cfg.okeep f) (renL (vo 0 s.1) args)) s.1.length)).ren (yf (s.1++p2.1))) (zK p2.2 (s.1++p2.1) (xV (objK (cfg.okeep f) (renL (vo 0 s.1) args)) s.1.length q.2))) h⟩
theorem qrH{cfg:Cfg}{cf:Orac}{kf:KF α}(hkf:KfOk cf kf){nid:Option Nat}{ty:TypeId}{t:Tgt}{args:List AV}{k:KH α}(h:qjM cfg cf kf nid ty t args H k=some r):∃v H',xj cfg cf nid t args H=some (v,H')∧k v H'=some r:=by
 unfold qjM at h;unfold xj;cases hn:zM cfg t args with
 |none=>rw[hn]at h;exact qbX hkf h
 |some n=>
  rw[hn]at h;simp only at h;cases n with
  |zero=>
   have h:(qbu cfg cf kf nid ty t [.nilS] H λv H1=>qbu cfg cf kf nid ty t [.em] H λv2 H2=>kEqR (v,H1) (v2,H2) (k v H1))=some r:=h;obtain⟨v,H1,h1,h⟩:=qbX hkf h;obtain⟨v2,H2,h2,h⟩:=qbX hkf h;unfold kEqR at h;split at h
   case isFalse=>cases h
   rename_i he;exact⟨v,H1,by simp only[h1,h2,he,qog,if_true],h⟩
  |succ n=>exact qbX hkf h
theorem qtB{f:AV}{args:List AV}{k:Tgt->List AV->Option α}(h:kTgt f args k=some r):∃t,yT f args=some t∧k t.1 t.2=some r:=by
 unfold kTgt at h;unfold yT;split at h
 ·exact⟨_,rfl,h⟩
 ·exact⟨_,rfl,h⟩
 ·cases h
theorem qtI{ids:List Nat}{v:AV}{k:KV α}(hi:∀id∈v.msIds,id∈ids)(h:qrA H v k=some r):k (v.frz ids H)=some r:=by
 unfold qrA at h;split at h
 ·rename_i cs;have:=qce (ids:=ids) (λv hv id off len e=>hi id (qdA hv e)) h
  simpa [AV.frz,Function.comp_def]using this
 ·rename_i cs;have:=qce (k:=λcs=>k (.tup cs)) (ids:=ids) (λv hv id off len e=>hi id (qdA hv e)) h
  simpa [AV.frz,Function.comp_def]using this
 ·rename_i h1 h2;have h4:=(qbs h).1 ids (λid off len e=>hi id (by subst e;simp[AV.msIds,AV.msId])) rfl;have e1:v.frz ids H=v.frz1 ids H:=by
   cases v<;>first|rfl|exact absurd rfl (h1 _)|exact absurd rfl (h2 _)
  rw[e1];exact h4
theorem qe6{ids:List Nat}:∀{l:List AV} {k:List AV->Option α},(∀v∈l,∀id∈v.msIds,id∈ids)->qgn H l k=some r->k (l.map λv=>v.frz ids H)=some r
 |[],k,_,h=>h
 |a::l,k,hi,h=>by
  rw[qgn]at h;have h1:=qtI (ids:=ids) (hi a (by simp)) h;exact qe6 (k:=λl=>k (a.frz ids H::l)) (λv hv=>hi v (by simp[hv])) h1
theorem qxe{a b:Operand}(h:opEq a b=true):a=b:=by
 cases a<;>cases b<;>simp_all [opEq]
theorem qqh{y:Operand->AV}(a:Operand):∀l:List Operand,frzX l (l.map y) y a=y a
 |[]=>rfl
 |b::l=>by
  rw[List.map_cons,frzX];cases hb:opEq b a with
  |true=>rw[cond_true,qxe hb]
  |false=>rw[cond_false];exact qqh a l
theorem qjG{cfg:Cfg}{nid:Option Nat}{o:Oper}{x:Operand->AV}{k:KH α}(h:qmH cfg nid o x H k=some r):
  kOp cfg nid o.op o.type (λa=>(x a).frz (o.op.operands.toList.flatMap λa=>(x a).msIds) H) (q8 (o.op.operands.toList.flatMap λa=>(x a).msIds) H) k=some r:=by
 unfold qmH at h;have h1:=qe6 (ids:=o.op.operands.toList.flatMap λa=>(x a).msIds) (λv hv id hid=>by
  obtain⟨a,ha,rfl⟩:=List.mem_map.1 hv;exact List.mem_flatMap.2 ⟨a,ha,hid⟩) h
 rw[List.map_map]at h1;have e:frzX o.op.operands.toList (o.op.operands.toList.map ((λv=>v.frz (o.op.operands.toList.flatMap λa=>(x a).msIds) H)∘x)) (λa=>(x a).frz (o.op.operands.toList.flatMap λa=>(x a).msIds) H)=λa=>(x a).frz (o.op.operands.toList.flatMap λa=>(x a).msIds) H:=funext λa=>qqh a _
 rw[e]at h1;exact h1
theorem qe3{cfg:Cfg}{cf:Orac}{kf:KF α}(hkf:KfOk cf kf){frz:Bool}{nid:Option Nat}{o:Oper}{x:Operand->AV}{k:KH α}(h:qjA cfg cf kf frz nid o x H k=some r):∃v H',vw cfg cf frz nid o x H=some (v,H')∧k v H'=some r:=by
 have core:∀{x:Operand->AV} {H:AH},(match o.op with
   | .call c=>
    match c.callee with
    | .value f=>kTgt (x f) (c.args.toList.map x) λt al=>qjM cfg cf kf nid o.type t al H k
    |_=>kOp cfg nid o.op o.type x H k
   |_=>kOp cfg nid o.op o.type x H k)=some r->∃v H',(match o.op with
    | .call c=>
     match c.callee with
     | .value f=>(yT (x f) (c.args.toList.map x)).bind λt=>xj cfg cf nid t.1 t.2 H
     |_=>evOp cfg nid o.op o.type x H
    |_=>evOp cfg nid o.op o.type x H)=some (v,H')∧k v H'=some r:=by
  intro x H h;cases ho:o.op with
  |call c=>
   simp only[ho]at h⊢;cases hc:c.callee with
   |value f=>
    simp only[hc]at h⊢;obtain⟨t,h1,h⟩:=qtB h;obtain⟨v,H',h2,hz⟩:=qrH hkf h;exact⟨v,H',by rw[h1];exact h2,hz⟩
   |_=>simp only[hc]at h⊢;exact qnQ h
  |_=>simp only[ho]at h⊢;exact qnQ h
 unfold qjA at h;unfold vw;cases frz with
 |true=>
  simp only[cond_true]at h;simp only[if_true];refine core (x:=λa=>(x a).frz (o.op.operands.toList.flatMap λa=>(x a).msIds) H) (H:=q8 (o.op.operands.toList.flatMap λa=>(x a).msIds) H) ?_;cases ho:o.op with
  |call c=>
   simp only[ho]at h⊢;cases hc:c.callee with
   |value f=>
    simp only[hc]at h⊢;have h1:=qe6 (ids:=(Op.call c).operands.toList.flatMap λa=>(x a).msIds) (λv hv id hid=>by
     obtain⟨a,ha,rfl⟩:=List.mem_map.1 hv;refine List.mem_flatMap.2 ⟨a,?_,hid⟩;simp[Op.operands,Call.operands,hc,Array.mem_toList_iff.1 ha]) h
    rw[List.map_map]at h1;exact h1
   |_=>simp only[hc]at h⊢;have h:=qjG h;rw[ho]at h;exact h
  |_=>simp only[ho]at h⊢;have h:=qjG h;rw[ho]at h;exact h
 |false=>simp only[cond_false]at h;simp only[qz1,if_false];exact core h
theorem qh1{fr:List AV}{d:Nat}{v:AV}(h:fr[d]? =some v):fr.set d v=fr:=by
 obtain⟨hl,e⟩:=qzW.1 h;rw[←e];exact List.set_getElem_self hl
theorem qdc{ops:Array Oper}{fr:List AV}{o:Oper}{k:Bool->List AV->Option α}(h:qet ops fr o k=some r):∃b,xp ops fr o=some b∧k b fr=some r:=by
 unfold qet at h;unfold xp;split at h
 ·rename_i hg;rw[hg];exact⟨true,rfl,h⟩
 ·rename_i j want hg;rw[hg];simp only;split at h
  ·rename_i d hd;rw[hd];simp only;obtain⟨v,h1,h⟩:=qB h;rw[h1];split at h
   ·split at h
    ·exact⟨false,rfl,h⟩
    ·cases h
   ·obtain⟨b,rfl,h⟩:=qcH h;simp only;refine⟨_,rfl,?_⟩;rcases xM h with⟨rfl,h⟩|⟨rfl,h⟩
    ·rw[qh1 h1]at h;cases want<;>exact h
    ·rw[qh1 h1]at h;cases want<;>exact h
  ·cases h
theorem qgi{cfg:Cfg}{cf:Orac}{kf:KF α}(hkf:KfOk cf kf){f rid:Nat}{ops:Array Oper}:∀{l:List Oper} {n:Nat} {fr:List AV} {H:AH} {k:List AV->AH->Option α},kOps cfg cf kf f rid ops n l fr H k=some r->∃q,zf cfg cf f rid ops n l fr H=some q∧k q.1 q.2=some r
 |[],n,fr,H,k,h=>⟨(fr,H),rfl,h⟩
 |o::l,n,fr,H,k,h=>by
  rw[kOps]at h;obtain⟨b,h1,h⟩:=qdc h;rw[zf,h1];simp only[qz3];rcases xM h with⟨rfl,h⟩|⟨rfl,h⟩
  ·obtain⟨v,H',h2,h⟩:=qe3 hkf h;simp only[if_true,h2,qz3];exact qgi hkf h
  ·simp only[qz1,if_false];exact qgi hkf h
theorem qe9{cfg:Cfg}{cf:Orac}{kf:KF α}(hkf:KfOk cf kf){f rid:Nat}{ops:Array Oper}:∀{l:List Oper} {n at_:Nat} {fr:List AV} {H:AH} {k:List DR->List AV->AH->Option α},qjL cfg cf kf f rid ops n at_ l fr H k=some r ->
  ∃q,xS cfg cf f rid ops n at_ l fr H=some q∧k q.1 q.2.1 q.2.2=some r
 |[],n,at_,fr,H,k,h=>⟨([],fr,H),rfl,h⟩
 |o::l,n,at_,fr,H,k,h=>by
  rw[qjL]at h;obtain⟨b,h1,h⟩:=qdc h;rw[xS,h1];simp only[qz3];rcases xM h with⟨rfl,h9⟩|⟨rfl,h9⟩
  ·obtain⟨v,H',h2,h8⟩:=qe3 hkf h9;simp only[if_true,h2,qz3];obtain⟨q,h3,hz⟩:=qe9 hkf h8;exact⟨_,by rw[h3];rfl,hz⟩
  ·simp only[qz1,if_false];obtain⟨q,h3,hz⟩:=qe9 hkf h9;exact⟨_,by rw[h3];rfl,hz⟩
theorem qju{fr:List AV}{c:Operand}{b:Bool}(h:opd fr c= .bool b):known fr c b=fr:=by
 cases c with
 |tmp d=>
  simp only[known];have hg:fr[d]? =some (.bool b):=by
   have h':fr.getD d .junk= .bool b:=h;rw[List.getD_eq_getElem?_getD]at h';cases hd:fr[d]? with
   |none=>rw[hd]at h';cases h'
   |some v=>rw[hd]at h';simp at h';rw[h']
  exact qh1 hg
 |_=>rfl
theorem qgh{cfg:Cfg}{cf:Orac}{kf:KF α}(hkf:KfOk cf kf){f rid:Nat}{ops:Array Oper}:∀{l:List (Nat×Oper)} {fr:List AV} {H:AH} {k:List AV->AH->Option α},kOrd cfg cf kf f rid ops l fr H k=some r->∃q,qb2 cfg cf f rid ops l fr H=some q∧k q.1 q.2=some r
 |[],fr,H,k,h=>⟨(fr,H),rfl,h⟩
 |p::l,fr,H,k,h=>by
  rw[kOrd]at h;obtain⟨b,h1,h⟩:=qdc h;rw[qb2,qci,h1];simp only[qz3];rcases xM h with⟨rfl,h⟩|⟨rfl,h⟩
  ·obtain⟨v,H',h2,h⟩:=qe3 hkf h;simp only[if_true,h2,qAe,qz3];exact qgh hkf h
  ·simp only[qz1,if_false,qz3];exact qgh hkf h
theorem qjx{β:Type}{F:β->KE α->Option α}{E:β->Option (List AV×AH)}{G:List AV->AH->Option (Ex×List AV×AH)}(hF:∀o (k:KE α),F o k=some r->∃p q,E o=some p∧G p.1 p.2=some q∧k q.1 q.2.1 q.2.2=some r){g:Ex->List AV->AH->Ex×List AV×AH}{z:Ex×List AV×AH}{x:Option α}:∀{l:List β},qrw F g z l x=some r->∃L,l.map E=L.map some∧zq (λfr H=>(G fr H).map λq=>g q.1 q.2.1 q.2.2) z L=true∧x=some r
 |[],h=>⟨[],rfl,rfl,h⟩
 |o::l,h=>by
  obtain⟨p,q,h0,h1,h2⟩:=hF _ _ h;unfold kEqR at h2;split at h2
  case isFalse=>cases h2
  rename_i he;obtain⟨L,h3,h4,h5⟩:=qjx hF h2;refine⟨p::L,by rw[List.map_cons,List.map_cons,h0,h3],?_,h5⟩;simp only[zq,h1,qAe,←he,qog,Bool.or_true,h4,qz7]
theorem qrF{β:Type}{F:β->KE α->Option α}{E:β->Option (List AV×AH)}{G:List AV->AH->Option (Ex×List AV×AH)}(hF:∀o (k:KE α),F o k=some r->∃p q,E o=some p∧G p.1 p.2=some q∧k q.1 q.2.1 q.2.2=some r){g:Ex->List AV->AH->Ex×List AV×AH}{k:KE α}{O:List β}(h:qwT F g k O=some r):
  ∃L q,O.map E=L.map some∧zP (λfr H=>(G fr H).map λq=>g q.1 q.2.1 q.2.2) L=some q∧k q.1 q.2.1 q.2.2=some r:=by
 cases O with
 |nil=>cases h
 |cons o l=>
  obtain⟨p,q,h0,h1,h2⟩:=hF _ _ h;obtain⟨L,h3,h4,h5⟩:=qjx hF h2;refine⟨p::L,g q.1 q.2.1 q.2.2,by rw[List.map_cons,List.map_cons,h0,h3],?_,h5⟩;simp only[zP,h1,qAe,qz3,h4,if_true]
theorem qlO{cfg:Cfg}{cf:Orac}{f rid:Nat}{ops:Array Oper}{fr:List AV}{H:AH}:∀{O:List (List (Nat×Oper))} {L:List (List AV×AH)},O.map (λo=>qb2 cfg cf f rid ops o fr H)=L.map some->yM cfg cf f rid ops O fr H=some L
 |[],[],_=>rfl
 |[],_::_,h=>by cases h
 |_::_,[],h=>by cases h
 |o::O,q::L,h=>by
  rw[List.map_cons,List.map_cons,List.cons.injEq]at h;simp only[yM,h.1,qz3,qlO h.2,qAe]
theorem qcG{cfg:Cfg}{cf:Orac}{kf:KF α}(hkf:KfOk cf kf){f:Nat}{rd:Option Nat}{bs:Nat}:∀(c:Code) {fr:List AV} {H:AH} {k:KE α},vA cfg cf kf f rd bs c fr H k=some r->∃q,evC cfg cf f rd bs c fr H=some q∧k q.1 q.2.1 q.2.2=some r:=by
 intro c
 induction c with
 |skip=>intro fr H k h;exact⟨(.normal,fr,H),by simp only[evC],by simpa only[vA]using h⟩
 |label l=>intro fr H k h;exact⟨(.normal,fr,H),by simp only[evC],by simpa only[vA]using h⟩
 |exit id=>intro fr H k h;exact⟨(.exit id,fr,H),by simp only[evC],by simpa only[vA]using h⟩
 |ret=>intro fr H k h;exact⟨(.ret,fr,H),by simp only[evC],by simpa only[vA]using h⟩
 |goto l=>intro fr H k h;simp only[vA]at h;cases h
 |refuse s=>intro fr H k h;simp only[vA]at h;cases h
 |region id ops draw=>
  intro fr H k h;simp only[vA]at h;simp only[evC];cases draw with
  |true=>
   simp only[cond_true]at h;simp only[if_true];obtain⟨h1,h⟩:=qh h;obtain⟨q,h2,h⟩:=qe9 hkf h;obtain⟨h3,hz⟩:=qh h;exact⟨(.normal,q.2),by simp only[h1,if_true,h2,qz3,h3],hz⟩
  |false=>
   simp only[cond_false]at h;simp only[qz1,if_false];obtain⟨q,h2,hz⟩:=qgi hkf h;exact⟨(.normal,q),by simp only[h2,qAe],hz⟩
 |seq x y ihx ihy=>
  intro fr H k h;simp only[vA]at h;simp only[evC];cases hco:qcj x with
  |some p=>
   rw[hco]at h;simp only at h⊢;split at h
   case h_2=>cases h
   rename_i O hO;obtain⟨L,q,h0,hq1,hq2⟩:=qrF (E:=λo=>qb2 cfg cf f p.1 p.2 o fr H) (G:=λfr H=>evC cfg cf f rd bs y (vI (cfg.cut f (qm y)) fr) H) (λo k h=>by
    obtain⟨p',g1,g2⟩:=qgh hkf h;obtain⟨q',g3,g4⟩:=ihy g2;exact⟨p',q',g1,g3,g4⟩) h
   exact⟨q,by rw[qka _ _ hO (qlO h0)];exact hq1,hq2⟩
  |none=>?_
  rw[hco]at h;simp only at h⊢;obtain⟨q,h1,h⟩:=ihx h;rw[h1];simp only[qz3];unfold kSeq at h;cases hq:q.1 with
  |normal=>simp only[hq]at h⊢;exact ihy (qpD h)
  |exit id=>simp only[hq]at h⊢;exact⟨_,rfl,h⟩
  |goto l=>simp only[hq]at h⊢;exact⟨_,rfl,h⟩
  |ret=>simp only[hq]at h⊢;exact⟨_,rfl,h⟩
 |cond cnd x y ihx ihy=>
  intro fr H k h;simp only[vA]at h;simp only[evC];obtain⟨b,h1,h⟩:=qcH h;rw[h1];simp only;rcases xM h with⟨rfl,h⟩|⟨rfl,h⟩
  ·rw[qju h1]at h;simp only[if_true];exact ihx h
  ·rw[qju h1]at h;simp only[qz1,if_false];exact ihy h
 |block id x ih=>
  intro fr H k h;simp only[vA]at h;simp only[evC];obtain⟨q,h1,h⟩:=ih h;rw[h1];simp only[qz3];unfold xa at h;cases hq:q.1 with
  |normal=>simp only[hq]at h⊢;exact⟨_,rfl,by rw[hq];exact h⟩
  |exit id'=>
   simp only[hq]at h⊢;rcases xM h with⟨h2,hz⟩|⟨h2,hz⟩
   ·exact⟨_,by simp only[h2,if_true];rfl,hz⟩
   ·exact⟨q,by simp only[h2,qz1,if_false],by rw[hq];exact hz⟩
  |goto l=>simp only[hq]at h⊢;exact⟨_,rfl,by rw[hq];exact h⟩
  |ret=>simp only[hq]at h⊢;exact⟨_,rfl,by rw[hq];exact h⟩
 |loop x ih=>
  intro fr H k h;simp only[vA]at h;simp only[evC];obtain⟨q,h1,hz⟩:=qB h;exact⟨(q.1,vI (cfg.keepOut f (qm x)) q.2.1,q.2.2),by rw[h1];rfl,hz⟩
 |scope x ih=>
  intro fr H k h;simp only[vA]at h;simp only[evC];obtain⟨q,h1,h⟩:=ih h;rw[h1];simp only[qz3];unfold qgg at h;cases hq:q.1 with
  |goto l=>simp only[hq]at h;cases h
  |normal=>simp only[hq]at h⊢;exact⟨_,rfl,by rw[hq];exact h⟩
  |exit id=>simp only[hq]at h⊢;exact⟨_,rfl,by rw[hq];exact h⟩
  |ret=>simp only[hq]at h⊢;exact⟨_,rfl,by rw[hq];exact h⟩
 |rangeFunc g ps assign body=>
  intro fr H k h;simp only[vA]at h;simp only[evC];generalize (vG (cfg.lift f (qm body)) fr H).1=fr at h⊢;generalize (vG (cfg.lift f (qm body)) _ H).2=H at h⊢;unfold qtG at h;obtain⟨h1,h⟩:=qh h;split at h
  case h_2=>cases h
  rename_i g' first caps hg;obtain⟨h2,h⟩:=qh h;obtain⟨q,h3,h⟩:=hkf _ _ _ _ _ h;unfold qak at h;obtain⟨b,h4,h⟩:=qB h;unfold qwP at h;split at h
  case h_2=>cases h
  rename_i pend st;have hx:¬(cfg.ext g').isSome=true:=by
   cases he:cfg.ext g' with
   |none=>simp
   |some s=>rw[he]at h2;cases h2
  have hst:st≠.busy:=by
   intro e;subst e;simp at h
  have hpk:qnP pend k (gc bs (vI (cfg.keepOut f (qm body)) fr) (q.2.set H.length .dead)).1 (gc bs (vI (cfg.keepOut f (qm body)) fr) (q.2.set H.length .dead)).2=some r:=by
   cases st with
   |busy=>exact absurd rfl hst
   |_=>exact h
  unfold z4;rw[qAw h1,hg];simp only[hx,h3,qz3,h4];unfold qnP at hpk;cases st with
  |busy=>exact absurd rfl hst
  |_=>
   cases pend with
   |none=>exact⟨_,rfl,hpk⟩
   |some c=>
    cases c<;>first|exact⟨_,rfl,hpk⟩|cases hpk
theorem qdD{cfg:Cfg}{fr:List AV}:∀{rs:List ResultVar} {k:List AV->Option α},kRes cfg fr H rs k=some r->∃vs,xK rs cfg.ty fr H=some vs∧k vs=some r
 |[],k,h=>⟨[],rfl,h⟩
 | .tmp t::l,k,h=>by
  rw[kRes]at h;obtain⟨vs,h1,hz⟩:=qdD h;exact⟨_,by simp only[xK,h1,qAe],hz⟩
 | .cell a t::l,k,h=>by
  rw[kRes]at h;split at h
  ·rename_i ti hti;obtain⟨v,h1,h⟩:=qe4 h;have h2:=vQ (k:=λv=>kRes cfg fr H l λvs=>k (v::vs)) h;obtain⟨vs,h3,hz⟩:=qdD h2;exact⟨_,by simp only[xK,hti,h1,qz3,h3,qAe],hz⟩
  ·cases h
variable {α : Type}
def fxGo(i:Nat)(l:List (Nat×AV)):Nat->List AV
 |0=>[]
 |n+1=>match l with
  |[]=>.junk::fxGo (i+1) [] n
  |p::l'=>if qzP p.1 i then p.2::fxGo (i+1) l' n else .junk::fxGo (i+1) (p::l') n
def fx(n:Nat)(l:List (Nat×AV)):List AV:=fxGo 0 l n
def ql(fn:Func):Code:=match fn.body with|some c=>c|none=>.skip
def sub:Code->List Nat->Code
 |c,[]=>c
 | .seq a b,i::l=>match i with|0=>sub a l|_=>sub b l
 | .cond _ a b,i::l=>match i with|0=>sub a l|_=>sub b l
 | .block _ a,_::l=>sub a l
 | .loop a,_::l=>sub a l
 | .scope a,_::l=>sub a l
 | .rangeFunc _ _ a b,i::l=>match i with|0=>sub a l|_=>sub b l
 |c,_=>c
def rngB(fn:Func)(f:Nat)(p:List Nat)(fr:List AV)(pend:Option Code)(st:LoopState):ABlk:=
 match sub (ql fn) p with
 | .rangeFunc _ ps a b=>.loop f fr ps.toList a b pend st
 |_=>.dead
def kLp(k:Nat)(ts:Option (List Tmp))(ls:List (Tmp×Nat))(L:Den)(A:Ex×List AV×AH->Option α):KE α:=λe fr H=>
 match e with
 | .normal=>kOpt (LOOP k ts ls L (yr k ts ls fr H)) A
 |e=>A (e,fr,H)
theorem qrq{cfg:Cfg}{kf:KF α}(hkf:KfOk (EV cfg) kf){f:Nat}{rd:Option Nat}{bs:Nat}{c:Code}{k:Nat}{ts:Option (List Tmp)}{ls:List (Tmp×Nat)}{A:Ex×List AV×AH->Option α}{fr:List AV}{H:AH}{r:α}(h:vA cfg (EV cfg) kf f rd bs c fr H (kLp k ts ls (evC cfg (EV cfg) f rd bs c) A)=some r):kOpt (LOOP k ts ls (evC cfg (EV cfg) f rd bs c) (fr,H)) A=some r:=by
 obtain⟨⟨e,fr1,H1⟩,h1,h2⟩:=qcG hkf c h;cases e with
 |normal=>
  simp only[kLp]at h2;cases hl:LOOP k ts ls (evC cfg (EV cfg) f rd bs c) (yr k ts ls fr1 H1)with
  |none=>rw[hl]at h2;cases h2
  |some q=>
   rw[hl]at h2;rw[quf (p:=(fr,H)) h1 hl];exact h2
 |exit id=>rw[qgG (p:=(fr,H)) h1 (λx=>by intro h;cases h)];exact h2
 |goto l=>rw[qgG (p:=(fr,H)) h1 (λx=>by intro h;cases h)];exact h2
 |ret=>rw[qgG (p:=(fr,H)) h1 (λx=>by intro h;cases h)];exact h2
def yO(cfg:Cfg)(ls:List (Tmp×Nat))(g:AV->AH->Option α)(rs:List ResultVar):KE α:=λe fr H=>
 match e with
 | .normal=>kRes cfg (vG ls fr H).1 (vG ls fr H).2 rs λvs=>g (zk vs) (vG ls fr H).2
 | .ret=>kRes cfg (vG ls fr H).1 (vG ls fr H).2 rs λvs=>g (zk vs) (vG ls fr H).2
 |_=>none
def yx(cfg:Cfg)(ls:List (Tmp×Nat))(rs:List ResultVar):KE AV:=yO cfg ls (λv _=>some v) rs
def qcF(cfg:Cfg)(ls:List (Tmp×Nat))(rs:List ResultVar):KE AV:=yO cfg ls (λv H=>qbW false H v some) rs
def qwS(cfg:Cfg)(ls:List (Tmp×Nat))(rs:List ResultVar):KE OV:=yO cfg ls (λv H=>ovOf (v,H)) rs
def qzJ(cfg:Cfg)(sz:Nat)(ls:List (Tmp×Nat))(rs:List ResultVar):KE (MV×List (List AV)):=yO cfg ls (λv H=>(qjk sz (v,H)).bind λq=>(mvOf q.1).map λv=>(v,q.2)) rs
def qaA(cfg:Cfg)(cf:Orac)(kf:KF α)(f:Nat)(fn:Func)(c:Code)(args:List AV)(H:AH)(fin:KE α):Option α:=
 vA cfg cf kf f none H.length c (args++qAf (fn.ntmps - args.length) .junk) H fin
theorem qhM{cfg:Cfg}{kf:KF α}(hkf:KfOk (EV cfg) kf){g:AV->AH->Option α}{f:Nat}{fn:Func}{args:List AV}{H:AH}{r:α}(hx:cfg.ext f=none)(hk:cfg.known f=true)(hf:cfg.P.funcs[f]? =some fn)(hb:fn.body=some (ql fn))(h:qaA cfg (EV cfg) kf f fn (ql fn) args H (yO cfg (cfg.lift f 0) g fn.results.toList)=some r):∃v H',EV cfg (.f f) args H=some (v,H')∧g v H'=some r:=by
 unfold qaA at h;obtain⟨q,h1,h⟩:=qcG hkf _ h;have key:∀(vs:List AV),xK fn.results.toList cfg.ty (vG (cfg.lift f 0) q.2.1 q.2.2).1 (vG (cfg.lift f 0) q.2.1 q.2.2).2=some vs->(q.1= .normal∨q.1= .ret)->EV cfg (.f f) args H=some (zk vs,(vG (cfg.lift f 0) q.2.1 q.2.2).2):=by
  intro vs h2 hq;refine qky ?_;unfold xn;simp only[hx,hk,if_true,hf,hb,h1,qz3];unfold qch;rcases hq with hq|hq<;>simp only[hq,h2,qAe]
 unfold yO at h;split at h
 ·rename_i hq;obtain⟨vs,h2,h⟩:=qdD h;exact⟨_,_,key vs h2 (.inl hq),h⟩
 ·rename_i hq;obtain⟨vs,h2,h⟩:=qdD h;exact⟨_,_,key vs h2 (.inr hq),h⟩
 ·cases h
def kY2(id:Nat)(K:AV×AH->Option α):KE α:=λe _ H=>
 kOpt H[id]? λb=>match b with
  | .loop f fr ps a b _ _=>(match e with
   | .normal=>K (.bool true,H.set id (.loop f fr ps a b none .ready))
   | .ret=>K (.bool false,H.set id (.loop f fr ps a b (some .ret) .done))
   | .exit x=>K (.bool false,H.set id (.loop f fr ps a b (some (.exit x)) .done))
   | .goto _=>none)
  |_=>none
def kY1(cfg:Cfg)(cf:Orac)(kf:KF α)(bs f id:Nat)(body:Code)(K:AV×AH->Option α):KE α:=λe fr H=>
 match e with
 | .normal=>kOpt H[id]? λb=>match b with
  | .loop f' fr' ps' a' b' p' st=>(match st with
   | .ready=>vA cfg cf kf f (some id) bs body fr (H.set id (.loop f' fr' ps' a' b' p' .busy)) (kY2 id K)
   |_=>none)
  |_=>none
 |_=>none
def kY(cfg:Cfg)(cf:Orac)(kf:KF α)(id:Nat)(args:List AV)(H:AH)(K:AV×AH->Option α):Option α:=
 kOpt H[id]? λb=>match b with
  | .loop f fr ps assign body _ st=>(match st with
   | .ready=>cond (qzP args.length ps.length) (vA cfg cf kf f (some id) H.length assign (yE fr ps args) H (kY1 cfg cf kf H.length f id body K)) none
   |_=>none)
  |_=>none
theorem qu4{cfg:Cfg}{kf:KF α}(hkf:KfOk (EV cfg) kf){id:Nat}{args:List AV}{H:AH}{K:AV×AH->Option α}{r:α}(h:kY cfg (EV cfg) kf id args H K=some r):∃q,EV cfg (.y id) args H=some q∧K q=some r:=by
 unfold kY at h;obtain⟨b,h1,h⟩:=qB h;cases b with
 |loop f fr ps assign body pend st=>
  simp only at h;cases st with
  |ready=>
   simp only at h;obtain⟨h2,h⟩:=qh h;obtain⟨q,h3,h⟩:=qcG hkf _ h;unfold kY1 at h;cases hq:q.1 with
   |normal=>
    rw[hq]at h;simp only at h;obtain⟨b,h4,h⟩:=qB h;cases b with
    |loop f' fr' ps' a' b' p' st'=>
     simp only at h;cases st' with
     |ready=>
      simp only at h;obtain⟨q2,h5,h⟩:=qcG hkf _ h;unfold kY2 at h;obtain⟨b,h6,h⟩:=qB h;cases b with
      |loop f2 fr2 ps2 a2 b2 p2 st2=>
       have key:∀q',xn cfg (EV cfg) (.y id) args H=some q'->K q'=some r->∃q,EV cfg (.y id) args H=some q∧K q=some r:=λq' h8 h9=>⟨q',qky h8,h9⟩
       cases hq2:q2.1 with
       |normal=>
        rw[hq2]at h;refine key _ ?_ h;unfold xn;simp only[h1,qAw (qzY h2),h3,qz3,hq,h4,h5,h6,hq2]
       |ret=>
        rw[hq2]at h;refine key _ ?_ h;unfold xn;simp only[h1,qAw (qzY h2),h3,qz3,hq,h4,h5,h6,hq2]
       |exit x=>
        rw[hq2]at h;refine key _ ?_ h;unfold xn;simp only[h1,qAw (qzY h2),h3,qz3,hq,h4,h5,h6,hq2]
       |goto x=>rw[hq2]at h;cases h
      |_=>cases h
     |_=>cases h
    |_=>cases h
   |_=>rw[hq]at h;cases h
  |_=>cases h
 |_=>cases h
class InlOk (cfg:Cfg):Prop where
 ok:∀f fn,cfg.inl f=some fn->cfg.ext f=none∧cfg.known f=true∧cfg.P.funcs[f]? =some fn∧fn.body=some (ql fn)
def qbL(f:Nat):List (Nat×Func)->Option Func
 |[]=>none
 |p::l=>if qzP p.1 f then some p.2 else qbL f l
def qug(cfg:Cfg):List (Nat×Func)->Prop
 |[]=>True
 |p::l=>(cfg.ext p.1=none∧cfg.known p.1=true∧cfg.P.funcs[p.1]? =some p.2∧p.2.body=some (ql p.2))∧qug cfg l
theorem InlOk.of{cfg:Cfg}(tab:List (Nat×Func))(h:∀f,cfg.inl f=qbL f tab)(ha:qug cfg tab):InlOk cfg where
 ok:=by
  intro f fn hf;rw[h]at hf;clear h
  induction tab with
  |nil=>cases hf
  |cons p l ih=>
   rw[qbL]at hf;split at hf
   ·rename_i e;have e:=qzY e;cases hf;rw[←e];exact ha.1
   ·exact ih ha.2 hf
def kfN(cfg:Cfg):Nat->KF α
 |0=>λt a H k=>kOpt (EV cfg t a H) k
 |n+1=>λt a H k=>match t with
  | .f f=>(match cfg.inl f with
   |some fn=>qaA cfg (EV cfg) (kfN cfg n) f fn (ql fn) a H (yO cfg (cfg.lift f 0) (λv H=>k (v,H)) fn.results.toList)
   |none=>kOpt (EV cfg (.f f) a H) k)
  | .y id=>kY cfg (EV cfg) (kfN cfg n) id a H k
theorem qjv{cfg:Cfg}[InlOk cfg]:∀n,KfOk (α:=α) (EV cfg) (kfN cfg n)
 |0=>λt a H k r h=>qB h
 |n+1=>λt a H k r h=>by
  unfold kfN at h;cases t with
  |f f=>
   simp only at h;split at h
   ·rename_i fn hf;obtain⟨o1,o2,o3,o4⟩:=InlOk.ok f fn hf;obtain⟨v,H',h1,h2⟩:=qhM (qjv n) o1 o2 o3 o4 h;exact⟨_,h1,h2⟩
   ·exact qB h
  |y id=>exact qu4 (qjv n) h
theorem qM{cfg:Cfg}[InlOk cfg]{f:Nat}{rd:Option Nat}{bs:Nat}{c:Code}{k:Nat}{ts:Option (List Tmp)}{ls:List (Tmp×Nat)}{A:Ex×List AV×AH->Option α}{fr:List AV}{H:AH}{r:α}(h:vA cfg (EV cfg) (kfN cfg 6) f rd bs c fr H (kLp k ts ls (evC cfg (EV cfg) f rd bs c) A)=some r):kOpt (LOOP k ts ls (evC cfg (EV cfg) f rd bs c) (fr,H)) A=some r:=qrq (qjv 6) h
theorem yy{cfg:Cfg}[InlOk cfg]{g:AV->AH->Option α}{f:Nat}{fn:Func}{args:List AV}{H:AH}{r:α}(hx:cfg.ext f=none)(hk:cfg.known f=true)(hf:cfg.P.funcs[f]? =some fn)(hb:fn.body=some (ql fn))(h:qaA cfg (EV cfg) (kfN cfg 6) f fn (ql fn) args H (yO cfg (cfg.lift f 0) g fn.results.toList)=some r):∃v H',EV cfg (.f f) args H=some (v,H')∧g v H'=some r:=qhM (qjv 6) hx hk hf hb h
def Gets{β:Type}(o:Option β)(P:β->Prop):Prop:=∃r,o=some r∧P r
theorem Gets.ev{β:Type}{o o':Option β}{P:β->Prop}(h:∀r,o=some r->o'=some r)(hy:Gets o P):Gets o' P:=by
 obtain⟨r,h1,h2⟩:=hy;exact⟨r,h r h1,h2⟩
theorem Gets.eq{β:Type}{o o':Option β}{P:β->Prop}(h:o'=o)(hy:Gets o P):Gets o' P:=h▸hy
theorem gE{β:Type}{o o' x:Option β}{P:β->Prop}(f:∀r,o=some r->o'=some r)(e:o=x)(h:Gets x P):Gets o' P:=Gets.ev f (Gets.eq e h)
theorem Gets.mono{β:Type}{o:Option β}{P Q:β->Prop}(h:Gets o P)(hq:∀b,P b->Q b):Gets o Q:=by
 obtain⟨r,h1,h2⟩:=h;exact⟨r,h1,hq r h2⟩
theorem Gets.bind{β γ:Type}{o:Option β}{k:β->Option γ}{Q:β->Prop}{P:γ->Prop}(h:Gets o Q)(hk:∀b,Q b->Gets (k b) P):Gets (kOpt o k) P:=by
 obtain⟨r,h1,h2⟩:=h;subst h1;exact hk r h2
@[simp] theorem gets_some{β:Type}{a:β}{P:β->Prop}:Gets (some a) P↔P a:=⟨fun⟨r,h1,h2⟩=>by cases h1;exact h2,λh=>⟨a,rfl,h⟩⟩
theorem Gets.get{β:Type}{o:Option β}{a:β}(h:Gets o (·=a)):o=some a:=by
 obtain⟨r,h1,h2⟩:=h;rw[h1,h2]
theorem quh{cfg:Cfg}{f:Nat}{args:List AV}{v:AV}{H:AH}(h:EV cfg (.f f) args []=some (v,H)):EVs (EV cfg) f args=some v:=by unfold EVs;rw[h];rfl
theorem qzb{cfg:Cfg}{f:Nat}{args:List AV}{v v':AV}{H:AH}(h:EV cfg (.f f) args []=some (v',H))(e:(v'.frz v'.msIds H).fg=v):EVf (EV cfg) f args=some v:=by unfold EVf;rw[h];exact congrArg some e
theorem qza{cfg:Cfg}{f:Nat}{args:List AV}{v:OV}{r:AV×AH}(h:EV cfg (.f f) args []=some r)(e:ovOf r=some v):EVo (EV cfg) f args=some v:=by unfold EVo;rw[h];exact e
theorem funS{cfg:Cfg}[InlOk cfg]{f:Nat}{fn:Func}{args:List AV}{r:AV}(hx:cfg.ext f=none)(hk:cfg.known f=true)(hf:cfg.P.funcs[f]? =some fn)(hb:fn.body=some (ql fn))(h:qaA cfg (EV cfg) (kfN cfg 6) f fn (ql fn) args [] (yx cfg (cfg.lift f 0) fn.results.toList)=some r):EVs (EV cfg) f args=some r:=by
 obtain⟨v,H',h1,h2⟩:=yy hx hk hf hb h;cases h2;exact quh h1
theorem funF{cfg:Cfg}[InlOk cfg]{f:Nat}{fn:Func}{args:List AV}{r:AV}(hx:cfg.ext f=none)(hk:cfg.known f=true)(hf:cfg.P.funcs[f]? =some fn)(hb:fn.body=some (ql fn))(h:qaA cfg (EV cfg) (kfN cfg 6) f fn (ql fn) args [] (qcF cfg (cfg.lift f 0) fn.results.toList)=some r):EVf (EV cfg) f args=some r:=by
 obtain⟨v,H',h1,h2⟩:=yy hx hk hf hb h;exact qzb h1 (Option.some.inj (qcf h2))
theorem funO{cfg:Cfg}[InlOk cfg]{f:Nat}{fn:Func}{args:List AV}{r:OV}(hx:cfg.ext f=none)(hk:cfg.known f=true)(hf:cfg.P.funcs[f]? =some fn)(hb:fn.body=some (ql fn))(h:qaA cfg (EV cfg) (kfN cfg 6) f fn (ql fn) args [] (qwS cfg (cfg.lift f 0) fn.results.toList)=some r):EVo (EV cfg) f args=some r:=by
 obtain⟨v,H',h1,h2⟩:=yy hx hk hf hb h;exact qza h1 h2
theorem funM{cfg:Cfg}[InlOk cfg]{f sz:Nat}{fn:Func}{args:List AV}{rows:List (List AV)}{r:MV×List (List AV)}(hx:cfg.ext f=none)(hk:cfg.known f=true)(hf:cfg.P.funcs[f]? =some fn)(hb:fn.body=some (ql fn))(h:qaA cfg (EV cfg) (kfN cfg 6) f fn (ql fn) args [.rows true sz rows] (qzJ cfg sz (cfg.lift f 0) fn.results.toList)=some r):EVm (EV cfg) f args sz rows=some r:=by
 obtain⟨v,H',h1,h2⟩:=yy hx hk hf hb h;unfold EVm;rw[h1];exact h2
def qjI(cfg:Cfg)(sz:Nat)(ls:List (Tmp×Nat))(rs:List ResultVar):KE (AV×List (List AV)):=yO cfg ls (λv H=>qdG H 0 λd sz' rows=>
 cond (d&&qzP sz' sz&&qbG v.msIds) (qbW false H v λv'=>cond (v'.refsLt 0) (some (v',rows)) none) none) rs
theorem funD{cfg:Cfg}[InlOk cfg]{f sz:Nat}{fn:Func}{args:List AV}{rows:List (List AV)}{r:AV×List (List AV)}(hx:cfg.ext f=none)(hk:cfg.known f=true)(hf:cfg.P.funcs[f]? =some fn)(hb:fn.body=some (ql fn))(h:qaA cfg (EV cfg) (kfN cfg 6) f fn (ql fn) args [.rows true sz rows] (qjI cfg sz (cfg.lift f 0) fn.results.toList)=some r):EVd (EV cfg) f args sz rows=some r:=by
 obtain⟨v,H',h1,h2⟩:=yy hx hk hf hb h;unfold EVd;rw[h1];obtain⟨d,sz',rs',h3,h4⟩:=qaB h2;obtain⟨h5,h6⟩:=qh h4;have h7:=qcf (k:=λv'=>cond (v'.refsLt 0) (some (v',rs')) none) h6;obtain⟨h8,h9⟩:=qh h7;simp only[qzR]at h5;obtain⟨⟨hd,hs⟩,hn⟩:=h5;subst hd;cases H' with
 |nil=>simp at h3
 |cons b l=>
  simp only[List.getElem?_cons_zero,Option.some.injEq]at h3;subst h3;simp only[qz3,qjV,hs,hn,h8,qz7,if_true];exact h9
def qrC(cfg:Cfg)(sz:Nat)(ls:List (Tmp×Nat))(rs:List ResultVar):KE (AV×List (List AV)):=yO cfg ls (λv H=>qdG H 0 λd sz' rows=>
 cond (!d&&qzP sz' sz&&qbG v.msIds&&xo [0] (xI 0 rows)) (qbW false H v λv'=>cond (v'.refsLt 0) (some (v',rows)) none) none) rs
theorem funX{cfg:Cfg}[InlOk cfg]{f sz:Nat}{fn:Func}{args:List AV}{rows:List (List AV)}{r:AV×List (List AV)}(hx:cfg.ext f=none)(hk:cfg.known f=true)(hf:cfg.P.funcs[f]? =some fn)(hb:fn.body=some (ql fn))(h:qaA cfg (EV cfg) (kfN cfg 6) f fn (ql fn) args [.rows false sz rows] (qrC cfg sz (cfg.lift f 0) fn.results.toList)=some r):EVx (EV cfg) f args sz rows=some r:=by
 obtain⟨v,H',h1,h2⟩:=yy hx hk hf hb h;unfold EVx;rw[h1];obtain⟨d,sz',rs',h3,h4⟩:=qaB h2;obtain⟨h5,h6⟩:=qh h4;have h7:=qcf (k:=λv'=>cond (v'.refsLt 0) (some (v',rs')) none) h6;obtain⟨h8,h9⟩:=qh h7;simp only[qzR,Bool.not_eq_true']at h5;obtain⟨⟨⟨hd,hs⟩,hn⟩,ha⟩:=h5;subst hd;cases H' with
 |nil=>simp at h3
 |cons b l=>
  simp only[List.getElem?_cons_zero,Option.some.injEq]at h3;subst h3;simp only[qz3,qiX,hs,hn,h8,ha,qz7,if_true];exact h9
def qkY{α:Type}(G:AH)(c:AV)(k:List (List AV)->Option α):Option α:=
 match c with
 | .rsl id rows=>kOpt G[id]? λb=>match b with| .reg=>k rows|_=>none
 | .sl rows=>cond rows.isEmpty (k []) none
 | .nilS=>k []
 | .em=>k []
 |_=>none
def qmE{α:Type}(G:AH)(a:AV)(k:AV->Option α):Option α:=
 match a with
 | .agg [.int .i64 x,.int .i64 n,.str s,c]=>qkY G c λrows=>k (.agg [.int .i64 x,.int .i64 n,.str s,.sl rows])
 |_=>none
def kRgL{α:Type}(G:AH):List AV->(List AV->Option α)->Option α
 |[],_=>none
 |a::l,k=>cond a.plain (kRgL G l λq=>k (a::q)) (cond (qf1 l) (qmE G a λx=>k (x::l)) none)
def qg3{α:Type}(G:AH)(a:AV)(k:AV->Option α):Option α:=
 match a with
 | .tup l=>kRgL G l λq=>k (.tup q)
 |a=>qmE G a k
theorem qnO{α:Type}{G:AH}{c:AV}{k:List (List AV)->Option α}{r:α}(h:qkY G c k=some r):∃rows,qfV G c=some rows∧k rows=some r:=by
 unfold qkY at h;split at h
 ·obtain⟨b,h1,h⟩:=qB h;split at h
  ·exact⟨_,by simp only[qfV,h1],h⟩
  ·cases h
 ·rename_i rows;obtain⟨h1,h⟩:=qh h;cases rows with
  |nil=>exact⟨_,rfl,h⟩
  |cons=>cases h1
 ·exact⟨_,rfl,h⟩
 ·exact⟨_,rfl,h⟩
 ·cases h
theorem qjz{α:Type}{G:AH}{a:AV}{k:AV->Option α}{r:α}(h:qmE G a k=some r):∃V,rgTm G a=some V∧k V=some r:=by
 unfold qmE at h;split at h
 ·obtain⟨rows,h1,h⟩:=qnO h;exact⟨_,by simp only[rgTm,h1,qAe],h⟩
 ·cases h
theorem qlL{α:Type}{G:AH}:∀{l:List AV} {k:List AV->Option α} {r:α},kRgL G l k=some r->∃q,rgL G l=some q∧k q=some r
 |[],_,_,h=>by cases h
 |a::l,k,r,h=>by
  rw[kRgL]at h;rcases xM h with⟨hp,h⟩|⟨hp,h⟩
  ·obtain⟨q,h1,h2⟩:=qlL h;exact⟨_,by simp only[rgL,hp,if_true,h1,qAe],h2⟩
  ·obtain⟨hl,h⟩:=qh h;obtain⟨x,h1,h2⟩:=qjz h;exact⟨_,by simp only[rgL,hp,qz1,if_false,hl,if_true,h1,qAe],h2⟩
theorem qpy{α:Type}{G:AH}{a:AV}{k:AV->Option α}{r:α}(h:qg3 G a k=some r):∃V,qi4 G a=some V∧k V=some r:=by
 unfold qg3 at h;split at h
 ·obtain⟨q,h1,h2⟩:=qlL h;exact⟨_,by simp only[qi4,h1,qAe],h2⟩
 ·rename_i hn;obtain⟨V,h1,h2⟩:=qjz h;refine⟨V,?_,h2⟩;rw[←h1];cases a<;>first|rfl|exact absurd rfl (hn _)
theorem qnN{α:Type}{G:AH}{a:AV}{k:AV->Option α}{r:α}(h:qg3 G a k=some r):∃V,qeo G a=some V∧k V=some r:=by
 obtain⟨V,h1,h2⟩:=qpy h;exact⟨V,by unfold qeo;rw[h1],h2⟩
def qwR(cfg:Cfg)(ls:List (Tmp×Nat))(rs:List ResultVar):KE AV:=yO cfg ls (λv H=>qg3 H v some) rs
theorem funR{cfg:Cfg}[InlOk cfg]{f:Nat}{fn:Func}{args:List AV}{r:AV}(hx:cfg.ext f=none)(hk:cfg.known f=true)(hf:cfg.P.funcs[f]? =some fn)(hb:fn.body=some (ql fn))(h:qaA cfg (EV cfg) (kfN cfg 6) f fn (ql fn) args [] (qwR cfg (cfg.lift f 0) fn.results.toList)=some r):EVg (EV cfg) f args=some r:=by
 obtain⟨v,H',h1,h2⟩:=yy hx hk hf hb h;obtain⟨V,h3,h4⟩:=qnN h2;cases h4;unfold EVg;rw[h1];exact h3
def qwQ(cfg:Cfg)(ls:List (Tmp×Nat))(rs:List ResultVar):KE Unit:=yO cfg ls (λv H=>qgX (v,H)) rs
theorem funZ{cfg:Cfg}[InlOk cfg]{f:Nat}{fn:Func}{a:AV}{r:Unit}(hx:cfg.ext f=none)(hk:cfg.known f=true)(hf:cfg.P.funcs[f]? =some fn)(hb:fn.body=some (ql fn))(h:qaA cfg (EV cfg) (kfN cfg 6) f fn (ql fn) [a] [.spl] (qwQ cfg (cfg.lift f 0) fn.results.toList)=some r):EVz (EV cfg) f a=some r:=by
 obtain⟨v,H',h1,h2⟩:=yy hx hk hf hb h;unfold EVz;rw[h1];exact h2
def yY(cfg:Cfg)(k:Nat)(ls:List (Tmp×Nat))(rs:List ResultVar):KE (AV×AH):=yO cfg ls (λv H=>qbW false H v λv'=>qgZ k v' (q8 v.msIds H)) rs
theorem funJ{cfg:Cfg}[InlOk cfg]{f k:Nat}{fn:Func}{args:List AV}{G:AH}{r:AV×AH}(hx:cfg.ext f=none)(hk:cfg.known f=true)(hf:cfg.P.funcs[f]? =some fn)(hb:fn.body=some (ql fn))(h:qaA cfg (EV cfg) (kfN cfg 6) f fn (ql fn) args G (yY cfg k (cfg.lift f 0) fn.results.toList)=some r):EVj (EV cfg) f k args G=some r:=by
 obtain⟨v,H',h1,h2⟩:=yy hx hk hf hb h;unfold EVj;rw[h1];exact qcf (k:=λv'=>qgZ k v' (q8 v.msIds H')) h2
@[simp] theorem nble(a b:Nat):qz8 a b=decide (a<=b):=by
 rcases h:qz8 a b with _|_
 ·rw[eq_comm,decide_eq_false_iff_not];intro h';rw[Nat.ble_eq_true_of_le h']at h;cases h
 ·rw[eq_comm,decide_eq_true_eq];exact Nat.le_of_ble_eq_true h
@[simp] theorem nbeq(a b:Nat):qzP a b=decide (a=b):=by
 rcases h:qzP a b with _|_
 ·rw[eq_comm,decide_eq_false_iff_not];intro h';rw[h',qAq]at h;cases h
 ·rw[eq_comm,decide_eq_true_eq];exact qzY h
@[simp] theorem leInt_eq(a b:Int):qe a b=decide (a<=b):=rfl
@[simp] theorem ltInt_eq(a b:Int):qu a b=decide (a<b):=rfl
theorem beqD{β:Type}[BEq β][LawfulBEq β][DecidableEq β](a b:β):(a==b)=decide (a=b):=by
 by_cases h:a=b
 ·subst h;simp
 ·simp[h]
theorem bneD{β:Type}[BEq β][LawfulBEq β][DecidableEq β](a b:β):(a != b)= !decide (a=b):=by rw[bne,beqD]
def AV.IsInt(v:AV):Prop:=∃n,v= .int .i64 n
def AV.IsBool(v:AV):Prop:=∃b,v= .bool b
@[simp] theorem isInt_int(n:Int):(AV.int .i64 n).IsInt:=⟨n,rfl⟩
@[simp] theorem isBool_bool(b:Bool):(AV.bool b).IsBool:=⟨b,rfl⟩
@[simp] theorem qc{β:Type}(b:β)(k:β->Option α):kOpt (some b) k=k b:=rfl
@[simp] theorem kOptNone{β:Type}(k:β->Option α):kOpt none k=none:=rfl
@[simp] theorem qgm(kd:IntKind)(n:Int)(k:Int->Option α):qbr kd (.int kd n) k=k n:=by simp[qbr,qai]
@[simp] theorem qi(kd:IntKind)(n:Int)(k:Int->Option α):kInt kd (.int kd n) k=k n:=by simp[kInt,qai]
@[simp] theorem qg(b:Bool)(k:Bool->Option α):qq (.bool b) k=k b:=rfl
@[simp] theorem qD(s:List UInt8)(k:List UInt8->Option α):kStr (.str s) k=k s:=rfl
@[simp] theorem kAgg_agg(cs:List AV)(k:List AV->Option α):kAgg (.agg cs) k=k cs:=rfl
@[simp] theorem qn(c:AV)(cs:List AV)(k:AV->List AV->Option α):qa (c::cs) k=k c cs:=rfl
@[simp] theorem qp(c:ABlk)(cs:AH)(k:ABlk->AH->Option α):qd (c::cs) k=k c cs:=rfl
@[simp] theorem qx(x:Option α):qU [] x=x:=rfl
@[simp] theorem qt(c:List AV)(cs:List (List AV))(k:List AV->List (List AV)->Option α):qW (c::cs) k=k c cs:=rfl
@[simp] theorem qz(x:Option α):vg [] x=x:=rfl
@[simp] theorem qo(d:Bool)(n:Nat)(rs:List (List AV))(k:Bool->Nat->List (List AV)->Option α):qf (.rows d n rs) k=k d n rs:=rfl
@[simp] theorem vS(d:Bool)(es:List (AV×AV))(k:Bool->List (AV×AV)->Option α):kMpB (.mp d es) k=k d es:=rfl
@[simp] theorem qG(a b c:Nat)(k:Nat->Nat->Nat->Option α):kMsE (.ms a b c) k=k a b c:=rfl
@[simp] theorem vR(a:Nat)(k:Nat->Option α):kMpE (.mp a) k=k a:=rfl
@[simp] theorem kPtrE_ptr(a b c:Nat)(k:Nat->Nat->Nat->Option α):qrx (.ptr a b c) k=k a b c:=rfl
@[simp] theorem zY(x:Option α)(y:Nat->AV->Option α):yq none x y=x:=rfl
@[simp] theorem yb(p:Nat×AV)(x:Option α)(y:Nat->AV->Option α):yq (some p) x y=y p.1 p.2:=rfl
@[simp] theorem qu5(cs:List AV)(k:List AV->Option α):kTup (.tup cs) k=k cs:=rfl
@[simp] theorem qI:beqB false false=true:=rfl
@[simp] theorem qF:beqB true true=true:=rfl
@[simp] theorem qy(n:Nat):qzP n n=true:=qAq n
@[simp] theorem qC(x:Option α):kNil [] x=x:=rfl
@[simp] theorem kMSl_nil(x:Option α)(k:Nat->Nat->Option α):kMSl .nil x k=x:=rfl
@[simp] theorem kMSl_sl(off len:Nat)(x:Option α)(k:Nat->Nat->Option α):kMSl (.sl off len) x k=k off len:=rfl
@[simp] theorem kMUnit_unit(x:Option α):qnU .unit x=x:=rfl
@[simp] theorem zX(b:Bool)(k:Bool->Option α):qaO (.bool b) k=k b:=rfl
@[simp] theorem kOwn_nil(x:Option α)(k:Nat->List (List AV)->Nat->Nat->Option α):kOwn .nil x k=x:=rfl
@[simp] theorem kOwn_own(sz:Nat)(rs:List (List AV))(off len:Nat)(x:Option α)(k:Nat->List (List AV)->Nat->Nat->Option α):kOwn (.own sz rs off len) x k=k sz rs off len:=rfl
@[simp] theorem qJ(rs:List (List AV))(k:List (List AV)->Option α):kSl (.sl rs) k=k rs:=rfl
@[simp] theorem q9{β:Type}(l:List β)(i:Nat):qzU l i=l[i]? :=rfl
noncomputable section
variable {α β : Type}
def qb1(b:Bool)(k:Bool->α):α:=match b with|true=>k true|false=>k false
def fNat(n:Nat)(k:Nat->α):α:=match n with|0=>k 0|m+1=>k (m+1)
def fInt(n:Int)(k:Int->α):α:=match n with| .ofNat m=>fNat m λm=>k (.ofNat m)| .negSucc m=>fNat m λm=>k (.negSucc m)
def fL(g:β->(β->α)->α):List β->(List β->α)->α
 |[],k=>k []
 |a::l,k=>g a λa'=>fL g l λl'=>k (a'::l')
def qrX(kd:IntKind)(k:IntKind->α):α:=match kd with
 | .i64=>k .i64
 | .u64=>k .u64
 | .u8=>k .u8
 | .i32=>k .i32
 | .u32=>k .u32
 |x=>k x
def qj3(b:UInt8)(k:UInt8->α):α:=fNat b.toNat λn=>k (UInt8.ofNat n)
def fAV:Nat->AV->(AV->α)->α
 |0,v,k=>k v
 |n+1,v,k=>match v with
  | .int kd m=>qrX kd λkd=>fInt m λm=>k (.int kd m)
  | .bool b=>qb1 b λb=>k (.bool b)
  | .str s=>fL qj3 s λs=>k (.str s)
  | .agg cs=>fL (fAV n) cs λcs=>k (.agg cs)
  | .tup cs=>fL (fAV n) cs λcs=>k (.tup cs)
  | .nilS=>k .nilS
  | .sl rows=>fL (fL (fAV n)) rows λrows=>k (.sl rows)
  | .em=>k .em
  | .ms a b c=>fNat a λa=>fNat b λb=>fNat c λc=>k (.ms a b c)
  | .nilP=>k .nilP
  | .ptr a b c=>fNat a λa=>fNat b λb=>fNat c λc=>k (.ptr a b c)
  | .cptr cs o=>fL (fAV n) cs λcs=>fNat o λo=>k (.cptr cs o)
  | .fn f a b=>fL (fAV n) a λa=>fL (fAV n) b λb=>k (.fn f a b)
  | .yld a=>fNat a λa=>k (.yld a)
  | .nilF=>k .nilF
  | .nilM=>k .nilM
  | .mp a=>fNat a λa=>k (.mp a)
  | .nilI=>k .nilI
  | .ifc t v=>fAV n v λv=>k (.ifc t v)
  | .junk=>k .junk
  | .lsl r=>k (.lsl r)
  | .lpt c o=>k (.lpt c o)
  | .rsl i r=>k (.rsl i r)
  | .rpt i c o=>k (.rpt i c o)
  | .alt l=>k (.alt l)
  | .wr a b=>k (.wr a b)
def fB(b:ABlk)(k:ABlk->α):α:=match b with
 | .rows d sz rs=>qb1 d λd=>fNat sz λsz=>fL (fL (fAV 1)) rs λrs=>k (.rows d sz rs)
 | .froz d sz rs=>qb1 d λd=>fNat sz λsz=>fL (fL (fAV 1)) rs λrs=>k (.froz d sz rs)
 | .mp d es=>qb1 d λd=>fL (fun(e:AV×AV) k=>k e) es λes=>k (.mp d es)
 | .loop f fr ps a b p s=>fL (fAV 1) fr λfr=>k (.loop f fr ps a b p s)
 | .dead=>k .dead
 | .res=>k .res
 | .reg=>k .reg
 | .spl=>k .spl
 | .bld T e s=>k (.bld T e s)
def fH(H:AH)(k:AH->α):α:=fL fB H k
theorem qbx{g:β->(β->α)->α}(hg:∀b k,g b k=k b):∀(l:List β) (k:List β->α),fL g l k=k l
 |[],_=>rfl
 |a::l,k=>by rw[fL,hg,qbx hg l]
theorem qdh(b:Bool)(k:Bool->α):qb1 b k=k b:=by cases b<;>rfl
theorem yK(b:Nat)(k:Nat->α):fNat b k=k b:=by cases b<;>rfl
theorem qqi(b:Int)(k:Int->α):fInt b k=k b:=by cases b<;>simp only[fInt,yK]
theorem qoc(b:IntKind)(k:IntKind->α):qrX b k=k b:=by cases b<;>rfl
theorem qid(b:UInt8)(k:UInt8->α):qj3 b k=k b:=by simp[qj3,yK]
theorem qj4:∀(n:Nat) (v:AV) (k:AV->α),fAV n v k=k v
 |0,_,_=>rfl
 |n+1,v,k=>by
  have e1:∀(l:List AV) (k:List AV->α),fL (fAV n) l k=k l:=qbx (qj4 n);have e2:∀(l:List (List AV)) (k:List (List AV)->α),fL (fL (fAV n)) l k=k l:=qbx e1;cases v<;>simp only[fAV,qoc,qqi,qdh,yK,e1,e2,qbx qid,qj4 n]
theorem qzL(b:ABlk)(k:ABlk->α):fB b k=k b:=by
 have e1:∀(l:List AV) (k:List AV->α),fL (fAV 1) l k=k l:=qbx (qj4 1);have e2:∀(l:List (List AV)) (k:List (List AV)->α),fL (fL (fAV 1)) l k=k l:=qbx e1;cases b<;>simp only[fB,qdh,yK,e1,e2,qbx (g:=fun(e:AV×AV) (k:AV×AV->α)=>k e) (λ_ _=>rfl)]
theorem qmK(H:AH)(k:AH->α):fH H k=k H:=qbx qzL H k
def fFr(fr:List AV)(k:List AV->α):α:=fL (λv k=>match v with| .junk=>k .junk|v=>k v) fr k
theorem qdg(fr:List AV)(k:List AV->α):fFr fr k=k fr:=qbx (λv k=>by cases v<;>rfl) fr k
def qzy(c a b:AV)(H:AH):Option (AV×AH):=
 match c with
 | .bool t=>some (if t then a else b,H)
 |_=>none
def qxW(cfg:Cfg)(nid:Option Nat)(t:TypeId)(H:AH):Option (AV×AH):=
 match cfg.ty t with
 |some ti=>
  if xh ti.zero then
   match aNew nid H (qa7 cfg t ti.zero)with
   |some (k,H')=>some (.ptr k 0 0,H')
   |none=>none
  else none
 |none=>none
def xBox(cfg:Cfg)(t:TypeId)(nid:Option Nat)(a:AV)(H:AH):Option (AV×AH):=
 match a.cells with
 |some cs=>
  match aNew nid H (qdn cfg t cs)with
  |some (k,H')=>some (.ptr k 0 0,H')
  |none=>none
 |none=>none
def qxV(cfg:Cfg)(t:TypeId)(parts:List (Nat×AV))(H:AH):Option (AV×AH):=
 match cfg.ty t with
 |some ti=>
  if xh ti.zero then
   match ti.d with
   | .struct fs=>
    match qag cfg fs with
    |some ps=>(qb5 (λi=>ps[i]?) ti.zero parts).map λcs=>(.agg (cfg.fga t cs),H)
    |none=>none
   | .array _ e=>
    match cfg.sz e with
    |some n=>(qb5 (λi=>some (i*n,n)) ti.zero parts).map λcs=>(.agg cs,H)
    |none=>none
   |_=>none
  else none
 |none=>none
def qhe(cfg:Cfg)(nid:Option Nat)(t:TypeId)(len:Nat)(parts:List (Nat×AV))(H:AH):Option (AV×AH):=
 match cfg.td t with
 |some (.slice e)=>
  match cfg.ty e with
  |some ei=>
   if zj ei&&qz8 (len*ei.sz) 16777216 then
    match qbC ei.sz (qAf len ei.zero) parts with
    |some rows=>
     match aNew nid H (.rows (qN 0 rows) ei.sz rows)with
     |some (k,H')=>some (.ms k 0 len,H')
     |none=>none
    |none=>none
   else none
  |none=>none
 |_=>none
def qzz(cfg:Cfg)(t:TypeId)(a:AV)(H:AH):Option (AV×AH):=
 match cfg.ty t with
 |some ti=>(zH ti.d.agg ti.sz H a).map λv=>(v,H)
 |none=>none
def qxT(cfg:Cfg)(t:TypeId)(a v:AV)(H:AH):Option (AV×AH):=
 match cfg.sz t with
 |some n=>(zr n H a v).map λH'=>(.junk,H')
 |none=>none
def xNil(a:AV)(H:AH):Option (AV×AH):=
 match a with
 | .ptr id r off=>some (.ptr id r off,H)
 | .cptr cs off=>some (.cptr cs off,H)
 | .fn (.func f) a b=>some (.fn (.func f) a b,H)
 | .mp id=>some (.mp id,H)
 | .yld id=>some (.yld id,H)
 |_=>none
def qul(t:AV)(i:Nat)(H:AH):Option (AV×AH):=
 match t with
 | .tup vs=>(vs[i]?).map λv=>(v,H)
 |_=>none
def xOp(cfg:Cfg)(nid:Option Nat)(o:Op)(ty:TypeId)(x:Operand->AV)(H:AH):Option (AV×AH):=
 match o with
 | .move a| .assign a=>some (x a,H)
 | .pick c a b=>qzy (x c) (x a) (x b) H
 | .alloc t=>qxW cfg nid t H
 | .box t a=>xBox cfg t nid (x a) H
 | .build t parts=>qxV cfg t (parts.toList.map λp=>(p.1,x p.2)) H
 | .buildSlice t len parts=>qhe cfg nid t len (parts.toList.map λp=>(p.1,x p.2)) H
 | .load t a=>qzz cfg t (x a) H
 | .store t a v=>qxT cfg t (x a) (x v) H
 | .nilCheck a=>xNil (x a) H
 | .binOp op t a b _=>(aBin cfg (litN a b) op t (x a) (x b)).map λv=>(v,H)
 | .unOp op _ a=>(aUn op (x a)).map λv=>(v,H)
 | .convert s d a=>zc cfg nid s d (x a) H
 | .makeFunc f first caps=>some (.fn f (first.toList.map x) (caps.toList.map x),H)
 | .makeSlice t l c=>qaS cfg nid t (x l) (x c) H
 | .slice t a lo hi mx=>(qbB cfg t H (x a) (lo.map x) (hi.map x) (mx.map x)).map λv=>(v,H)
 | .fieldAddr t a f=>(qaH cfg t (x a) f).map λv=>(v,H)
 | .field t a f=>(qeE cfg t (x a) f).map λv=>(v,H)
 | .indexAddr t a i=>(yD cfg t H (x a).unwr (x i)).map λv=>(v,H)
 | .index t a i=>(qeD cfg t (x a) (x i)).map λv=>(v,H)
 | .extract t i=>qul (x t) i H
 |o=>evOp cfg nid o ty x H
theorem qst(cfg:Cfg)(nid:Option Nat)(o:Op)(ty:TypeId)(x:Operand->AV)(H:AH):xOp cfg nid o ty x H=evOp cfg nid o ty x H:=by cases o<;>rfl
def qxU(cfg:Cfg)(cf:Orac)(nid:Option Nat)(f:AV)(args:List AV)(H:AH):Option (AV×AH):=(yT f args).bind λt=>xj cfg cf nid t.1 t.2 H
def qzB(cfg:Cfg)(cf:Orac)(nid:Option Nat)(o:Op)(c:Call)(ty:TypeId)(x:Operand->AV)(H:AH):Option (AV×AH):=
 match c.callee with
 | .value f=>qxU cfg cf nid (x f) (c.args.toList.map x) H
 |_=>evOp cfg nid o ty x H
def qss(cfg:Cfg)(cf:Orac)(nid:Option Nat)(o:Op)(ty:TypeId)(x:Operand->AV)(H:AH):Option (AV×AH):=
 match o with
 | .call c=>qzB cfg cf nid (.call c) c ty x H
 |o=>xOp cfg nid o ty x H
def qmt(cfg:Cfg)(cf:Orac)(frz:Bool)(nid:Option Nat)(o:Oper)(x:Operand->AV)(H:AH):Option (AV×AH):=
 match frz with
 |false=>qss cfg cf nid o.op o.type x H
 |true=>vw cfg cf true nid o x H
theorem qmP(cfg:Cfg)(cf:Orac)(frz:Bool)(nid:Option Nat)(o:Oper)(x:Operand->AV)(H:AH):qmt cfg cf frz nid o x H=vw cfg cf frz nid o x H:=by
 cases frz with
 |true=>rfl
 |false=>
  obtain⟨dst,op,ty,pos,after,guard⟩:=o;unfold qmt qss vw;simp only[qz1,if_false,qst];cases op with
  |call c=>
   obtain⟨callee,args,argTypes⟩:=c;cases callee<;>rfl
  |_=>rfl
def qqb(o:Op):Bool:=match o with
 | .alloc _| .box _ _| .buildSlice _ _ _| .store _ _ _| .convert _ _ _| .makeSlice _ _ _| .call _=>false
 |_=>true
def xRes(q:Bool)(o:Option (AV×AH))(k:AV->AH->Option β):Option β:=
 match o with
 |none=>none
 |some r=>fAV 12 r.1 λv=>cond q (k v r.2) (fH r.2 λH=>k v H)
theorem qp6(q:Bool)(o:Option (AV×AH))(k:AV->AH->Option β):xRes q o k=o.bind λr=>k r.1 r.2:=by
 cases o with
 |none=>rfl
 |some r=>cases q<;>simp[xRes,qj4,qmK]
def xOps(cfg:Cfg)(cf:Orac)(f rid:Nat)(ops:Array Oper):Nat->List Oper->List AV->AH->Option (List AV×AH)
 |_,[],fr,H=>some (fr,H)
 |k,o::rest,fr,H=>
  match xp ops fr o with
  |none=>none
  |some b=>
   cond b (xRes (qqb o.op&& !cfg.frz f rid k) (qmt cfg cf (cfg.frz f rid k) none o (opd fr) H) λv H'=>fFr (put fr o.dst v) λfr'=>xOps cfg cf f rid ops (k+1) rest fr' H')
    (fFr (put fr o.dst (.tup [])) λfr'=>xOps cfg cf f rid ops (k+1) rest fr' H)
theorem qp7(cfg:Cfg)(cf:Orac)(f rid:Nat)(ops:Array Oper):∀(l:List Oper) (k:Nat) (fr:List AV) (H:AH),xOps cfg cf f rid ops k l fr H=zf cfg cf f rid ops k l fr H
 |[],_,_,_=>rfl
 |o::l,k,fr,H=>by
  rw[xOps,zf];cases xp ops fr o with
  |none=>rfl
  |some b=>cases b<;>simp[qp6,qmP,qdg,qp7 cfg cf f rid ops l]
def qiv(cfg:Cfg)(cf:Orac)(f rid:Nat)(ops:Array Oper):Nat->Nat->List Oper->List AV->AH->Option (List DR×List AV×AH)
 |_,_,[],fr,H=>some ([],fr,H)
 |k,at_,o::rest,fr,H=>
  match xp ops fr o with
  |none=>none
  |some b=>
   fNat (at_+qcc cfg o) λat'=>
   cond b (xRes (qqb o.op&& !cfg.frz f rid k) (qmt cfg cf (cfg.frz f rid k) (some at_) o (opd fr) H) λv H'=>fFr (put fr o.dst v) λfr'=>
     match qiv cfg cf f rid ops (k+1) at' rest fr' H' with
     |none=>none
     |some q=>some (drOf cfg (cfg.frz f rid k) at_ o (opd fr) H v H'::q.1,q.2))
    (fFr (put fr o.dst (.tup [])) λfr'=>
     match qiv cfg cf f rid ops (k+1) at' rest fr' H with
     |none=>none
     |some q=>some (drNo H::q.1,q.2))
theorem qmR(cfg:Cfg)(cf:Orac)(f rid:Nat)(ops:Array Oper):∀(l:List Oper) (k at_:Nat) (fr:List AV) (H:AH),qiv cfg cf f rid ops k at_ l fr H=xS cfg cf f rid ops k at_ l fr H
 |[],_,_,_,_=>rfl
 |o::l,k,at_,fr,H=>by
  have em:∀(x:Option (List DR×List AV×AH)) (g:List DR×List AV×AH->List DR×List AV×AH),(match x with|none=>none|some q=>some (g q))=x.map g:=λx g=>by cases x<;>rfl
  rw[qiv,xS];cases xp ops fr o with
  |none=>rfl
  |some b=>cases b<;>simp[qp6,qmP,qdg,yK,qmR cfg cf f rid ops l,em]
def qmu(k:Nat)(ts:Option (List Tmp))(ls:List (Tmp×Nat))(body:Den):Nat->List AV->AH->Option (Ex×List AV×AH)
 |0,_,_=>none
 |n+1,fr,H=>
  match body fr H with
  |none=>none
  |some r=>
   match r.1 with
   | .normal=>fFr (yr k ts ls r.2.1 r.2.2).1 λfr'=>fH (yr k ts ls r.2.1 r.2.2).2 λH'=>qmu k ts ls body n fr' H'
   |e=>some (e,r.2)
theorem qmQ(k:Nat)(ts:Option (List Tmp))(ls:List (Tmp×Nat))(body:Den):∀(n:Nat) (fr:List AV) (H:AH),qmu k ts ls body n fr H=yh k ts ls body n (fr,H)
 |0,_,_=>rfl
 |n+1,fr,H=>by
  rw[qmu,yh];show _=(body fr H).bind _;cases body fr H with
  |none=>rfl
  |some r=>
   simp only[qz3];cases hr:r.1<;>simp[qdg,qmK,qmQ k ts ls body n]
def xC(cfg:Cfg)(cf:Orac)(m:Nat)(f:Nat)(rd:Option Nat)(bs:Nat):Code->List AV->AH->Option (Ex×List AV×AH)
 | .skip,fr,H=>some (.normal,fr,H)
 | .label _,fr,H=>some (.normal,fr,H)
 | .region id ops draw,fr,H=>
  if draw then
   if qam ops then
    match qiv cfg cf f id ops 0 H.length ops.toList fr (H++qAf (places cfg ops.toList) .res)with
    |none=>none
    |some q=>if qcR (ancs [] ops.toList) (H++qAf (places cfg ops.toList) .res) q.1 then some (.normal,q.2)else none
   else none
  else match xOps cfg cf f id ops 0 ops.toList fr H with
   |none=>none
   |some q=>some (.normal,q)
 | .seq a b,fr,H=>
  match xC cfg cf m f rd bs a fr H with
  |none=>none
  |some r=>
   match r.1 with
   | .normal=>fFr (vI (cfg.cut f (qm b)) r.2.1) λfr'=>xC cfg cf m f rd bs b fr' r.2.2
   |e=>some (e,r.2)
 | .cond c a b,fr,H=>
  match opd fr c with
  | .bool t=>if t then xC cfg cf m f rd bs a fr H else xC cfg cf m f rd bs b fr H
  |_=>none
 | .block id a,fr,H=>
  match xC cfg cf m f rd bs a fr H with
  |none=>none
  |some r=>
   match r.1 with
   | .exit id'=>some (if qzP id' id then(.normal,r.2)else r)
   |_=>some r
 | .loop a,fr,H=>
  match fFr (yr bs (cfg.keepIn f (qm a)) (cfg.lift f (qm a)) fr H).1 λfr'=>fH (yr bs (cfg.keepIn f (qm a)) (cfg.lift f (qm a)) fr H).2 λH'=>qmu bs (cfg.keepIn f (qm a)) (cfg.lift f (qm a)) (xC cfg cf m f rd bs a) m fr' H' with
  |none=>none
  |some r=>fFr (vI (cfg.keepOut f (qm a)) r.2.1) λfr'=>some (r.1,fr',r.2.2)
 | .scope a,fr,H=>
  match xC cfg cf m f rd bs a fr H with
  |none=>none
  |some r=>
   match r.1 with
   | .goto _=>none
   |_=>some r
 | .exit id,fr,H=>some (.exit id,fr,H)
 | .goto _,_,_=>none
 | .ret,fr,H=>some (.ret,fr,H)
 | .rangeFunc g ps assign body,fr,H=>fFr (vG (cfg.lift f (qm body)) fr H).1 λfr'=>fH (vG (cfg.lift f (qm body)) fr H).2 λH'=>z4 cfg cf f rd bs g ps assign body fr' H'
 | .refuse _,_,_=>none
theorem qzC(cfg:Cfg){cf cf':Orac}(hcf:∀t a H r,cf t a H=some r->cf' t a H=some r)(m:Nat)(f:Nat)(rd:Option Nat)(bs:Nat):∀(cd:Code) (fr:List AV) (H:AH) (r),xC cfg cf m f rd bs cd fr H=some r->evC cfg cf' f rd bs cd fr H=some r:=by
 have hev:Ev (λ_=>cf') cf:=λt a H r h=>⟨0,λ_ _=>hcf t a H r h⟩
 have key:∀{γ:Type} {G:Orac->Option γ},EvG (λ_=>cf') cf G->∀r,G cf=some r->G cf'=some r:=λh r hr=>by
  obtain⟨n,hn⟩:=h r hr;exact hn n (qz0 _)
 intro cd
 induction cd with
 |skip=>intro fr H r h;exact h
 |label l=>intro fr H r h;exact h
 |exit id=>intro fr H r h;exact h
 |ret=>intro fr H r h;exact h
 |goto l=>intro fr H r h;cases h
 |refuse s=>intro fr H r h;cases h
 |region id ops draw=>
  intro fr H r h;simp only[xC,evC]at h⊢;cases draw with
  |true=>
   simp only[if_true]at h⊢;split at h
   ·rename_i hd;rw[qAw hd];rw[qmR]at h;cases hq:xS cfg cf f id ops 0 H.length ops.toList fr (H++qAf (places cfg ops.toList) .res)with
    |none=>rw[hq]at h;cases h
    |some q=>
     rw[hq]at h;have h2:=key (G:=λo=>xS cfg o f id ops 0 H.length ops.toList fr (H++qAf (places cfg ops.toList) .res)) (qdJ hev cfg f id ops _ _ _ _ _) q hq;rw[h2];exact h
   ·cases h
  |false=>
   simp only[qz1,if_false]at h⊢;rw[qp7]at h;refine key (G:=λq=>(zf cfg q f id ops 0 ops.toList fr H).map λq=>(Ex.normal,q)) ((qfg hev cfg f id ops _ _ _ _).map _) r ?_;rw[←h];cases zf cfg cf f id ops 0 ops.toList fr H<;>rfl
 |seq x y ihx ihy=>
  intro fr H r h;simp only[xC,evC]at h⊢;cases hco:qcj x with
  |some p=>
   obtain⟨rfl,hcc⟩:=qhR hco;have h1:qam p.2=false:=by unfold qam;rw[hcc];rfl
   simp only[xC,if_true,h1,qz1,if_false]at h;cases h
  |none=>?_
  simp only;split at h
  ·cases h
  ·rename_i q hq;rw[ihx _ _ _ hq];simp only[qz3];cases hq1:q.1 with
   |normal=>rw[hq1]at h;rw[qdg]at h;exact ihy _ _ _ h
   |exit id=>rw[hq1]at h;exact h
   |goto l=>rw[hq1]at h;exact h
   |ret=>rw[hq1]at h;exact h
 |cond cnd x y ihx ihy=>
  intro fr H r h;simp only[xC,evC]at h⊢;split at h
  ·rename_i t ht;rw[ht];cases t with
   |true=>exact ihx _ _ _ h
   |false=>exact ihy _ _ _ h
  ·cases h
 |block id x ih=>
  intro fr H r h;simp only[xC,evC]at h⊢;split at h
  ·cases h
  ·rename_i q hq;rw[ih _ _ _ hq];exact h
 |loop x ih=>
  intro fr H r h;simp only[xC,evC]at h⊢;split at h
  ·cases h
  ·rename_i q hq;rw[qdg,qmK,qmQ]at hq;rw[qdg]at h;have hl:LOOP bs (cfg.keepIn f (qm x)) (cfg.lift f (qm x)) (evC cfg cf' f rd bs x) (yr bs (cfg.keepIn f (qm x)) (cfg.lift f (qm x)) fr H)=some q:=by
    refine qeG (n:=m) ?_;have up:∀(n:Nat) (p:List AV×AH) (r),yh bs (cfg.keepIn f (qm x)) (cfg.lift f (qm x)) (xC cfg cf m f rd bs x) n p=some r->yh bs (cfg.keepIn f (qm x)) (cfg.lift f (qm x)) (evC cfg cf' f rd bs x) n p=some r:=by
     intro n
     induction n with
     |zero=>intro p r h;cases h
     |succ n ihn=>
      intro p r h;rw[yh]at h⊢;obtain⟨q,h1,h2⟩:=qzX.1 h;rw[ih _ _ _ h1];simp only[qz3];cases hq:q.1 with
      |normal=>rw[hq]at h2;exact ihn _ _ h2
      |exit id=>rw[hq]at h2;exact h2
      |goto l=>rw[hq]at h2;exact h2
      |ret=>rw[hq]at h2;exact h2
    exact up _ _ _ hq
   rw[hl];exact h
 |scope x ih=>
  intro fr H r h;simp only[xC,evC]at h⊢;split at h
  ·cases h
  ·rename_i q hq;rw[ih _ _ _ hq];exact h
 |rangeFunc g ps assign body=>
  intro fr H r h;simp only[xC,evC,qdg,qmK]at h⊢;unfold z4 at h⊢;split at h
  ·rename_i hl;rw[qAw hl];split at h
   ·split at h
    ·cases h
    ·rename_i hx;rw[qAx hx];obtain⟨q,hq,h⟩:=qzX.1 h;rw[hcf _ _ _ _ hq];exact h
   ·cases h
  ·cases h
end
noncomputable section
variable {α β : Type}
def gL(g:β->(β->α)->α)(l:List β):(List β->α)->α:=
 List.rec (motive:=λ_=>(List β->α)->α) (λk=>k []) (λa _ ih k=>g a λa'=>ih λl'=>k (a'::l')) l
def gS(l:List β):(List β->α)->α:=
 List.rec (motive:=λ_=>(List β->α)->α) (λk=>k []) (λa _ ih k=>ih λl'=>k (a::l')) l
theorem zC{g:β->(β->α)->α}(hg:∀b k,g b k=k b):∀(l:List β) (k:List β->α),gL g l k=k l
 |[],_=>rfl
 |a::l,k=>by
  have:gL g (a::l) k=g a λa'=>gL g l λl'=>k (a'::l'):=rfl
  rw[this,hg,zC hg l]
theorem y3:∀(l:List β) (k:List β->α),gS l k=k l
 |[],_=>rfl
 |a::l,k=>by
  have:gS (a::l) k=gS l λl'=>k (a::l'):=rfl
  rw[this,y3 l]
def gA1(v:AV)(k:AV->α):α:=match v with
 | .int kd m=>qrX kd λkd=>fInt m λm=>k (.int kd m)
 | .bool b=>qb1 b λb=>k (.bool b)
 | .str s=>fL qj3 s λs=>k (.str s)
 | .ms a b c=>fNat a λa=>fNat b λb=>fNat c λc=>k (.ms a b c)
 | .ptr a b c=>fNat a λa=>fNat b λb=>fNat c λc=>k (.ptr a b c)
 |v=>k v
theorem qn8(v:AV)(k:AV->α):gA1 v k=k v:=by
 cases v<;>simp only[gA1,qoc,qqi,qdh,yK,qbx qid]
def gA2(v:AV)(k:AV->α):α:=match v with
 | .agg cs=>gL gA1 cs λcs=>k (.agg cs)
 | .sl rows=>gL (gL gA1) rows λrows=>k (.sl rows)
 | .cptr cs o=>gL gA1 cs λcs=>fNat o λo=>k (.cptr cs o)
 | .fn f a b=>gL gA1 a λa=>gL gA1 b λb=>k (.fn f a b)
 |v=>gA1 v k
theorem qtM(v:AV)(k:AV->α):gA2 v k=k v:=by
 have e1:∀(l:List AV) (k:List AV->α),gL gA1 l k=k l:=zC qn8;cases v<;>simp only[gA2,qn8,e1,yK,zC e1]
def gA(v:AV)(k:AV->α):α:=match v with
 | .tup cs=>gL gA2 cs λcs=>k (.tup cs)
 | .ifc t v=>gA2 v λv=>k (.ifc t v)
 |v=>gA2 v k
theorem qbZ(v:AV)(k:AV->α):gA v k=k v:=by
 cases v<;>simp only[gA,qtM,zC qtM]
def gW(v:AV)(k:AV->α):α:=match v with
 | .int a b=>k (.int a b)
 | .bool a=>k (.bool a)
 | .str a=>k (.str a)
 | .agg a=>k (.agg a)
 | .tup a=>k (.tup a)
 | .nilS=>k .nilS
 | .sl a=>k (.sl a)
 | .em=>k .em
 | .ms a b c=>k (.ms a b c)
 | .nilP=>k .nilP
 | .ptr a b c=>k (.ptr a b c)
 | .cptr a b=>k (.cptr a b)
 | .fn a b c=>k (.fn a b c)
 | .yld a=>k (.yld a)
 | .nilF=>k .nilF
 | .nilM=>k .nilM
 | .mp a=>k (.mp a)
 | .nilI=>k .nilI
 | .ifc a b=>k (.ifc a b)
 | .junk=>k .junk
 | .lsl r=>k (.lsl r)
 | .lpt c o=>k (.lpt c o)
 | .rsl i r=>k (.rsl i r)
 | .rpt i c o=>k (.rpt i c o)
 | .alt l=>k (.alt l)
 | .wr a b=>k (.wr a b)
theorem qg6(v:AV)(k:AV->α):gW v k=k v:=by cases v<;>rfl
def gB(b:ABlk)(k:ABlk->α):α:=match b with
 | .rows d sz rs=>qb1 d λd=>fNat sz λsz=>gL (gL gA1) rs λrs=>k (.rows d sz rs)
 | .froz d sz rs=>qb1 d λd=>fNat sz λsz=>gL (gL gA1) rs λrs=>k (.froz d sz rs)
 | .mp d es=>qb1 d λd=>gS es λes=>k (.mp d es)
 | .loop f fr ps a b p s=>gL gA1 fr λfr=>k (.loop f fr ps a b p s)
 | .dead=>k .dead
 | .res=>k .res
 | .reg=>k .reg
 | .spl=>k .spl
 | .bld T e s=>fL qj3 s λs=>k (.bld T e s)
theorem qrS(b:ABlk)(k:ABlk->α):gB b k=k b:=by
 have e1:∀(l:List AV) (k:List AV->α),gL gA1 l k=k l:=zC qn8;cases b<;>simp only[gB,qdh,yK,e1,zC e1,y3,qbx qid]
def gP(p:Nat×AV)(k:Nat×AV->α):α:=gA p.2 λv=>k (p.1,v)
theorem qrR(p:Nat×AV)(k:Nat×AV->α):gP p k=k p:=by unfold gP;rw[qbZ]
def gH(H:AH)(k:AH->α):α:=gL gB H k
theorem qfe(H:AH)(k:AH->α):gH H k=k H:=zC qrS H k
abbrev Ov:=List (Nat×AV)
def den(n:Nat)(ov:Ov):List AV:=ov.foldr (λp fr=>fr.set p.1 p.2) (qAf n .junk)
def xx(t:Nat)(ov:Ov):AV:=List.rec (motive:=λ_=>AV) .junk (λp _ ih=>cond (qzP p.1 t) p.2 ih) ov
theorem qf2(t:Nat):xx t []= .junk:=rfl
theorem qbp(t:Nat)(p:Nat×AV)(ov:Ov):xx t (p::ov)=cond (qzP p.1 t) p.2 (xx t ov):=rfl
def OvOk(n:Nat)(ov:Ov):Prop:=∀p∈ov,p.1<n
theorem qew(n:Nat)(ov:Ov):(den n ov).length=n:=by
 induction ov with
 |nil=>simp[den]
 |cons p l ih=>simp only[den,List.foldr_cons,List.length_set];exact ih
theorem qex{n:Nat}{ov:Ov}(h:OvOk n ov)(t:Nat):(den n ov)[t]? =if t<n then some (xx t ov)else none:=by
 induction ov with
 |nil=>
  simp only[den,List.foldr_nil,qf2,List.getElem?_replicate]
 |cons p l ih=>
  have hl:OvOk n l:=λq hq=>h q (List.mem_cons_of_mem _ hq)
  have hp:p.1<n:=h p (List.mem_cons_self ..);have:(den n (p::l))[t]? =((den n l).set p.1 p.2)[t]? :=rfl;rw[this,qz9,ih hl,qew,qbp]
  by_cases e:p.1=t
  ·subst e;simp[hp]
  ·have:qzP p.1 t=false:=by rw[←Bool.not_eq_true];intro h';exact e (qzY h')
   rw[qAx e,this];rfl
theorem qf3{n:Nat}{ov:Ov}(h:OvOk n ov){t:Nat}(ht:¬t<n):xx t ov= .junk:=by
 induction ov with
 |nil=>rfl
 |cons p l ih=>
  have hp:p.1<n:=h p (List.mem_cons_self ..);have:qzP p.1 t=false:=by rw[←Bool.not_eq_true];intro h';have:=qzY h';omega
  rw[qbp,this];exact ih λq hq=>h q (List.mem_cons_of_mem _ hq)
theorem qk8{n:Nat}{ov:Ov}(h:OvOk n ov){fr:List AV}(hl:fr.length=n)(hg:∀t,t<n->fr[t]? =some (xx t ov)):den n ov=fr:=by
 apply List.ext_getElem?;intro t;rw[qex h];split
 ·rename_i ht;exact(hg t ht).symm
 ·rename_i ht;exact(List.getElem?_eq_none (by omega)).symm
def opdO(ov:Ov):Operand->AV
 | .tmp t=>xx t ov
 | .const v=>ofValue v
 | .global _=>.junk
 | .func f=>.fn (.func f) [] []
theorem qeq{n:Nat}{ov:Ov}(h:OvOk n ov):opd (den n ov)=opdO ov:=by
 funext o
 cases o with
 |tmp t=>
  show(den n ov).getD t .junk=xx t ov;rw[List.getD_eq_getElem?_getD,qex h];split
  ·rfl
  ·rename_i ht;exact(qf3 h ht).symm
 |_=>rfl
def putO(n:Nat)(ov:Ov)(dst:Option Tmp)(v:AV):Ov:=
 match dst with
 |some d=>cond (Nat.blt d n) ((d,v)::ov) ov
 |none=>ov
theorem qgV{n:Nat}{ov:Ov}(h:OvOk n ov)(dst:Option Tmp)(v:AV):OvOk n (putO n ov dst v):=by
 cases dst with
 |none=>exact h
 |some d=>
  simp only[putO];cases hd:Nat.blt d n with
  |false=>exact h
  |true=>
   intro p hp;rw[cond_true]at hp;rcases qAd.1 hp with rfl|hp
   ·simpa [qAm]using hd
   ·exact h p hp
theorem qeX{n:Nat}{ov:Ov}(dst:Option Tmp)(v:AV):den n (putO n ov dst v)=put (den n ov) dst v:=by
 cases dst with
 |none=>rfl
 |some d=>
  simp only[putO,put];cases hd:Nat.blt d n with
  |true=>rfl
  |false=>
   have hd:¬d<n:=by rw[←Bool.not_eq_true,qAm]at hd;exact hd
   show den n ov=_;rw[List.set_eq_of_length_le (by rw[qew];exact Nat.le_of_not_lt hd)]
def qcM(ops:Array Oper)(ov:Ov)(o:Oper):Option Bool:=
 match o.guard with
 |none=>some true
 |some (j,want)=>
  match(ops[j]?).bind (·.dst)with
  |some d=>
   match xx d ov with
   | .bool b=>some (b==want)
   | .tup []=>some false
   |_=>none
  |none=>none
theorem qiQ{n:Nat}{ov:Ov}(h:OvOk n ov)(ops:Array Oper)(o:Oper):xp ops (den n ov) o=qcM ops ov o:=by
 unfold xp qcM;cases o.guard with
 |none=>rfl
 |some p=>
  obtain⟨j,want⟩:=p;simp only;cases(ops[j]?).bind (·.dst)with
  |none=>rfl
  |some d=>
   simp only;rw[qex h]
   by_cases hd:d<n
   ·rw[qAw hd];cases xx d ov<;>try rfl
    rename_i vs;cases vs<;>rfl
   ·rw[qAx hd,qf3 h hd]
def qmN(n:Nat)(H:AH)(p v:AV)(k:AH->Option β):Option β:=
 match p with
 | .ptr id r off=>
  match v.cells with
  |some cs=>
   match H[id]? with
   |some (.rows d sz rs)=>
    match rs[r]? with
    |some row=>if cs.length==n&&qz8 (off+n) row.length then
      gS (row.take off++cs++row.drop (off+n)) λrow'=>gS (rs.set r row') λrs'=>qb1 (d&&qE 0 cs) λd'=>gS (H.set id (.rows d' sz rs')) k
     else none
    |none=>none
   |_=>none
  |none=>none
 | .rpt id cs o=>(zr n H (.rpt id cs o) v).bind k
 |_=>none
theorem qsm(n:Nat)(H:AH)(p v:AV)(k:AH->Option β):qmN n H p v k=(zr n H p v).bind k:=by
 unfold qmN zr;cases p with
 |ptr id r off=>
  simp only;cases hv:v.cells with
  |none=>simp
  |some cs=>
   simp only;cases hH:H[id]? with
   |none=>simp
   |some b=>
    cases b<;>simp only[Option.bind_none]
    rename_i d sz rs;cases hr:rs[r]? with
    |none=>simp
    |some row=>
     simp only;split<;>simp[y3,qdh]
 |rpt id cs o=>rfl
 |_=>simp
def yNew(nid:Option Nat)(H:AH)(b:ABlk)(k:Nat->AH->Option β):Option β:=
 match nid with
 |none=>fNat H.length λi=>gS (H++[b]) λH'=>k i H'
 |some i=>
  match H[i]? with
  |some .res=>gS (H.set i b) λH'=>k i H'
  |_=>none
theorem qp5(nid:Option Nat)(H:AH)(b:ABlk)(k:Nat->AH->Option β):yNew nid H b k=(aNew nid H b).bind λr=>k r.1 r.2:=by
 cases nid with
 |none=>simp[yNew,aNew,yK,y3]
 |some i=>
  simp only[yNew,aNew];cases H[i]? with
  |none=>rfl
  |some b=>cases b<;>simp[y3]
def qsr(cfg:Cfg)(nid:Option Nat)(t:TypeId)(H:AH)(k:AV->AH->Option β):Option β:=
 match cfg.ty t with
 |some ti=>if xh ti.zero then gB (qa7 cfg t ti.zero) λb=>yNew nid H b λi H'=>k (.ptr i 0 0) H' else none
 |none=>none
def yBox(cfg:Cfg)(t:TypeId)(nid:Option Nat)(a:AV)(H:AH)(k:AV->AH->Option β):Option β:=
 match a.cells with
 |some cs=>gS cs λcs=>gB (qdn cfg t cs) λb=>yNew nid H b λi H'=>k (.ptr i 0 0) H'
 |none=>none
def yOp(cfg:Cfg)(nid:Option Nat)(o:Op)(ty:TypeId)(x:Operand->AV)(H:AH)(k:AV->AH->Option β):Option β:=
 match o with
 | .move a| .assign a=>gW (x a) λv=>k v H
 | .alloc t=>qsr cfg nid t H k
 | .box t a=>yBox cfg t nid (x a) H k
 | .store t a v=>
  match cfg.sz t with
  |some n=>qmN n H (x a) (x v) λH'=>k .junk H'
  |none=>none
 | .buildSlice t len parts=>(match qhe cfg nid t len (parts.toList.map λp=>(p.1,x p.2)) H with|some r=>gA r.1 λv=>gH r.2 λH'=>k v H'|none=>none)
 | .convert s d a=>(match zc cfg nid s d (x a) H with|some r=>gA r.1 λv=>gH r.2 λH'=>k v H'|none=>none)
 | .makeSlice t l c=>(match qaS cfg nid t (x l) (x c) H with|some r=>gA r.1 λv=>gH r.2 λH'=>k v H'|none=>none)
 | .call c=>(match evOp cfg nid (.call c) ty x H with|some r=>gA r.1 λv=>gH r.2 λH'=>k v H'|none=>none)
 |o=>(match xOp cfg nid o ty x H with|some r=>gA r.1 λv=>k v r.2|none=>none)
theorem qxS(cfg:Cfg)(nid:Option Nat)(o:Op)(ty:TypeId)(x:Operand->AV)(H:AH)(k:AV->AH->Option β):yOp cfg nid o ty x H k=(evOp cfg nid o ty x H).bind λr=>k r.1 r.2:=by
 have em:∀(q:Option (AV×AH)),(match q with|some r=>gA r.1 λv=>gH r.2 λH'=>k v H'|none=>none)=q.bind λr=>k r.1 r.2:=λq=>by cases q<;>simp[qbZ,qfe]
 have em':∀(q:Option (AV×AH)),(match q with|some r=>gA r.1 λv=>k v r.2|none=>none)=q.bind λr=>k r.1 r.2:=λq=>by cases q<;>simp[qbZ]
 cases o with
 |move a=>simp[yOp,evOp,qg6]
 |assign a=>simp[yOp,evOp,qg6]
 |alloc t=>
  simp only[yOp,evOp,qsr];cases cfg.ty t with
  |none=>rfl
  |some ti=>
   simp only;split
   ·simp only[qrS,qp5];cases aNew nid H (qa7 cfg t ti.zero)<;>rfl
   ·rfl
 |box t a=>
  simp only[yOp,evOp,yBox];cases(x a).cells with
  |none=>rfl
  |some cs=>
   simp only[y3,qrS,qp5];cases aNew nid H (qdn cfg t cs)<;>rfl
 |store t a v=>
  simp only[yOp,evOp];cases cfg.sz t with
  |none=>rfl
  |some n=>
   simp only[qsm];cases zr n H (x a) (x v)<;>rfl
 |buildSlice t len parts=>simp only[yOp];rw[em];rfl
 |convert s d a=>simp only[yOp];rw[em];rfl
 |makeSlice t l c=>simp only[yOp];rw[em];rfl
 |call c=>simp only[yOp];rw[em]
 |_=>simp only[yOp];rw[em',qst]
structure Fact where
 frz:Bool
 f:Nat
 args:List AV
 v:AV
def Fact.Ok(cfg:Cfg)(e:Fact):Prop:=(if e.frz then EVf (EV cfg) e.f e.args else EVs (EV cfg) e.f e.args)=some e.v
def xr(cfg:Cfg):List Fact->Prop
 |[]=>True
 |e::l=>e.Ok cfg∧xr cfg l
theorem xr.nil{cfg:Cfg}:xr cfg []:=trivial
theorem xr.consF{cfg:Cfg}{f:Nat}{args:List AV}{v:AV}{l:List Fact}(h:EVf (EV cfg) f args=some v)(t:xr cfg l):xr cfg (⟨true,f,args,v⟩::l):=⟨h,t⟩
def qdf(frz:Bool)(f:Nat)(args:List AV)(fs:List Fact):Option AV:=
 List.rec (motive:=λ_=>Option AV) none (λe _ ih=>cond (qzP e.f f&&(e.frz==frz&&zd e.args args)) (some e.v) ih) fs
theorem qd7{cfg:Cfg}{frz:Bool}{f:Nat}{args:List AV}{v:AV}:∀{fs:List Fact},xr cfg fs->qdf frz f args fs=some v->(if frz then EVf (EV cfg) f args else EVs (EV cfg) f args)=some v
 |[],_,h=>by cases h
 |e::l,hok,h=>by
  have hd:qdf frz f args (e::l)=cond (qzP e.f f&&(e.frz==frz&&zd e.args args)) (some e.v) (qdf frz f args l):=rfl;rw[hd]at h;cases hc:(qzP e.f f&&(e.frz==frz&&zd e.args args))with
  |true=>
   rw[hc]at h;simp only[qzR,beq_iff_eq]at hc;cases h;have:=hok.1;unfold Fact.Ok at this;rw[←qzY hc.1,←hc.2.1,←y4 hc.2.2];exact this
  |false=>
   rw[hc]at h;exact qd7 hok.2 h
def qiu(cfg:Cfg)(cf:Orac)(nid:Option Nat)(t:Tgt)(args:List AV)(H:AH)(k:AV->AH->Option β):Option β:=
 match xj cfg cf nid t args H with
 |some r=>gA r.1 λv=>gH r.2 λH'=>k v H'
 |none=>none
def qsp(_cfg:Cfg)(cf:Orac)(fs:List Fact)(f:Nat)(al:List AV)(k:AV->Option β):Option β:=
 cond (qE 0 al)
  (match qdf false f al fs with
  |some v=>cond v.scalar (k v) none
  |none=>(match cf (.f f) al []with|some r=>gA r.1 λv=>cond v.scalar (k v) none|none=>none)) none
def qsq(_cfg:Cfg)(cf:Orac)(fs:List Fact)(f:Nat)(al:List AV)(k:AV->Option β):Option β:=
 cond (qE 0 al)
  (match qdf true f al fs with
  |some v=>cond (v.refsLt 0) (k v) none
  |none=>(match cf (.f f) al []with|some r=>gA (r.1.frz r.1.msIds r.2).fg λv=>cond (v.refsLt 0) (k v) none|none=>none)) none
def qmO(cfg:Cfg)(cf:Orac)(fs:List Fact)(nid:Option Nat)(t:Tgt)(args:List AV)(H:AH)(k:AV->AH->Option β):Option β:=
 match t with
 | .y id=>qiu cfg cf nid (.y id) args H k
 | .f f=>
  match cfg.mode f with
  | .scal=>gL gA (args.map λa=>(a.snap H).fg) λal=>qsp cfg cf fs f al λv=>k v H
  | .pfrz=>gL gA (args.map AV.fg) λal=>qsq cfg cf fs f al λv=>k v H
  |_=>qiu cfg cf nid (.f f) args H k
def qso(cfg:Cfg)(cf:Orac)(fs:List Fact)(nid:Option Nat)(f:AV)(args:List AV)(H:AH)(k:AV->AH->Option β):Option β:=
 match yT f args with
 |some t=>qmO cfg cf fs nid t.1 t.2 H k
 |none=>none
def Le(cf cf':Orac):Prop:=∀t a H r,cf t a H=some r->cf' t a H=some r
theorem qoG{cfg:Cfg}{cf:Orac}(hcf:Le cf (EV cfg)){fs:List Fact}(hfs:xr cfg fs){nid:Option Nat}{t:Tgt}{args:List AV}{H:AH}{k:AV->AH->Option β}{r:β}(h:qmO cfg cf fs nid t args H k=some r):∃q,xj cfg (EV cfg) nid t args H=some q∧k q.1 q.2=some r:=by
 have hev:Ev (λ_=>EV cfg) cf:=λt a H r h=>⟨0,λ_ _=>hcf t a H r h⟩
 have gen:∀(t:Tgt),qiu cfg cf nid t args H k=some r->∃q,xj cfg (EV cfg) nid t args H=some q∧k q.1 q.2=some r:=by
  intro t h;unfold qiu at h;split at h
  ·rename_i q hq;rw[qbZ,qfe]at h;obtain⟨n,hn⟩:=qos hev cfg nid t args H q hq;exact⟨q,hn n (qz0 _),h⟩
  ·cases h
 cases t with
 |y id=>exact gen _ h
 |f f=>
  simp only[qmO]at h;cases hm:cfg.mode f with
  |scal=>
   simp only[hm,zC qbZ]at h;unfold qsp at h;obtain⟨h1,h⟩:=qh h;simp only[xj,zM,vj,hm,h1,if_true];split at h
   ·rename_i v hv;obtain⟨h2,h⟩:=qh h;have:=qd7 hfs hv;simp only[qz1,if_false]at this;unfold EVs at this;obtain⟨q,hq,rfl⟩:=qzZ.1 this;rw[hq];exact⟨(q.1,H),by simp only[qz3,h2,if_true],h⟩
   ·split at h
    ·rename_i q hq;rw[qbZ]at h;obtain⟨h2,h⟩:=qh h;rw[hcf _ _ _ _ hq];exact⟨(q.1,H),by simp only[qz3,h2,if_true],h⟩
    ·cases h
  |pfrz=>
   simp only[hm,zC qbZ]at h;unfold qsq at h;obtain⟨h1,h⟩:=qh h;simp only[xj,zM,vj,hm,h1,if_true];split at h
   ·rename_i v hv;obtain⟨h2,h⟩:=qh h;have:=qd7 hfs hv;simp only[if_true]at this;unfold EVf at this;obtain⟨q,hq,rfl⟩:=qzZ.1 this;rw[hq];exact⟨((q.1.frz q.1.msIds q.2).fg,H),by simp only[qz3,h2,if_true],h⟩
   ·split at h
    ·rename_i q hq;rw[qbZ]at h;obtain⟨h2,h⟩:=qh h;rw[hcf _ _ _ _ hq];exact⟨((q.1.frz q.1.msIds q.2).fg,H),by simp only[qz3,h2,if_true],h⟩
    ·cases h
  |_=>simp only[hm]at h;exact gen _ h
def qcT(cfg:Cfg)(cf:Orac)(fs:List Fact)(nid:Option Nat)(o:Op)(ty:TypeId)(x:Operand->AV)(H:AH)(k:AV->AH->Option β):Option β:=
 match o with
 | .call c=>
  (match c.callee with
  | .value f=>gL gW (c.args.toList.map x) λargs=>qso cfg cf fs nid (x f) args H k
  |_=>yOp cfg nid (.call c) ty x H k)
 |o=>yOp cfg nid o ty x H k
def qmr(cfg:Cfg)(cf:Orac)(fs:List Fact)(frz:Bool)(nid:Option Nat)(o:Oper)(x:Operand->AV)(H:AH)(k:AV->AH->Option β):Option β:=
 match frz with
 |false=>qcT cfg cf fs nid o.op o.type x H k
 |true=>gS (o.op.operands.toList.flatMap λa=>(x a).msIds) λids=>gH (q8 ids H) λH'=>qcT cfg cf fs nid o.op o.type (λa=>(x a).frz ids H) H' k
theorem qhd{cfg:Cfg}{cf:Orac}(hcf:Le cf (EV cfg)){fs:List Fact}(hfs:xr cfg fs){nid:Option Nat}{o:Oper}{x:Operand->AV}{H:AH}{k:AV->AH->Option β}{r:β}(h:qcT cfg cf fs nid o.op o.type x H k=some r):∃q,vw cfg (EV cfg) false nid o x H=some q∧k q.1 q.2=some r:=by
 obtain⟨dst,op,ty,pos,after,guard⟩:=o;unfold vw;simp only[qz1,if_false]at h⊢;have plain:∀(op:Op),yOp cfg nid op ty x H k=some r->∃q,evOp cfg nid op ty x H=some q∧k q.1 q.2=some r:=by
  intro op h;rw[qxS]at h;exact qzX.1 h
 cases op with
 |call c=>
  obtain⟨callee,args,argTypes⟩:=c;cases callee with
  |value f=>
   simp only[qcT,zC qg6]at h⊢;unfold qso at h;split at h
   ·rename_i t ht;rw[ht];exact qoG hcf hfs h
   ·cases h
  |builtin b=>simp only[qcT]at h⊢;exact plain _ h
  |invoke rv nm=>simp only[qcT]at h⊢;exact plain _ h
 |_=>simp only[qcT]at h⊢;exact plain _ h
theorem qip{cfg:Cfg}{cf:Orac}(hcf:Le cf (EV cfg)){fs:List Fact}(hfs:xr cfg fs){frz:Bool}{nid:Option Nat}{o:Oper}{x:Operand->AV}{H:AH}{k:AV->AH->Option β}{r:β}(h:qmr cfg cf fs frz nid o x H k=some r):∃q,vw cfg (EV cfg) frz nid o x H=some q∧k q.1 q.2=some r:=by
 cases frz with
 |false=>exact qhd hcf hfs h
 |true=>
  simp only[qmr,y3,qfe]at h;obtain⟨q,h1,h2⟩:=qhd hcf hfs h;refine⟨q,?_,h2⟩;unfold vw at h1⊢
  simpa using h1
def yOps(cfg:Cfg)(cf:Orac)(fs:List Fact)(f rid:Nat)(ops:Array Oper)(n:Nat):Nat->List Oper->Ov->AH->(Ov->AH->Option β)->Option β
 |_,[],ov,H,K=>K ov H
 |i,o::rest,ov,H,K=>
  match qcM ops ov o with
  |none=>none
  |some b=>
   cond b (qmr cfg cf fs (cfg.frz f rid i) none o (opdO ov) H λv H'=>yOps cfg cf fs f rid ops n (i+1) rest (putO n ov o.dst v) H' K)
    (yOps cfg cf fs f rid ops n (i+1) rest (putO n ov o.dst (.tup [])) H K)
theorem qfE{cfg:Cfg}{cf:Orac}(hcf:Le cf (EV cfg)){fs:List Fact}(hfs:xr cfg fs){f rid n:Nat}{ops:Array Oper}{r:β}:∀{l:List Oper} {i:Nat} {ov:Ov} {H:AH} {K:Ov->AH->Option β},OvOk n ov->yOps cfg cf fs f rid ops n i l ov H K=some r ->
  ∃ov' H',OvOk n ov'∧zf cfg (EV cfg) f rid ops i l (den n ov) H=some (den n ov',H')∧K ov' H'=some r
 |[],i,ov,H,K,hok,h=>⟨ov,H,hok,rfl,h⟩
 |o::l,i,ov,H,K,hok,h=>by
  rw[yOps]at h;rw[zf,qiQ hok];cases hw:qcM ops ov o with
  |none=>rw[hw]at h;cases h
  |some b=>
   rw[hw]at h;simp only[qz3];cases b with
   |true=>
    simp only[cond_true]at h;obtain⟨q,h1,h2⟩:=qip hcf hfs h;simp only[if_true,qeq hok,h1,qz3];obtain⟨ov',H',h3,h4,h5⟩:=qfE hcf hfs (qgV hok _ _) h2;rw[qeX]at h4;exact⟨ov',H',h3,h4,h5⟩
   |false=>
    simp only[cond_false]at h;simp only[qz1,if_false];obtain⟨ov',H',h3,h4,h5⟩:=qfE hcf hfs (qgV hok _ _) h;rw[qeX]at h4;exact⟨ov',H',h3,h4,h5⟩
def qit(cfg:Cfg)(cf:Orac)(fs:List Fact)(f rid:Nat)(ops:Array Oper)(n:Nat):Nat->Nat->List Oper->Ov->AH->(List DR->Ov->AH->Option β)->Option β
 |_,_,[],ov,H,K=>K [] ov H
 |i,at_,o::rest,ov,H,K=>
  match qcM ops ov o with
  |none=>none
  |some b=>
   fNat (at_+qcc cfg o) λat'=>
   cond b (qmr cfg cf fs (cfg.frz f rid i) (some at_) o (opdO ov) H λv H'=>qit cfg cf fs f rid ops n (i+1) at' rest (putO n ov o.dst v) H' λfps ov' H''=>K (drOf cfg (cfg.frz f rid i) at_ o (opdO ov) H v H'::fps) ov' H'')
    (qit cfg cf fs f rid ops n (i+1) at' rest (putO n ov o.dst (.tup [])) H λfps ov' H''=>K (drNo H::fps) ov' H'')
theorem qeL{cfg:Cfg}{cf:Orac}(hcf:Le cf (EV cfg)){fs:List Fact}(hfs:xr cfg fs){f rid n:Nat}{ops:Array Oper}{r:β}:∀{l:List Oper} {i at_:Nat} {ov:Ov} {H:AH} {K:List DR->Ov->AH->Option β},OvOk n ov->qit cfg cf fs f rid ops n i at_ l ov H K=some r ->
  ∃fps ov' H',OvOk n ov'∧xS cfg (EV cfg) f rid ops i at_ l (den n ov) H=some (fps,den n ov',H')∧K fps ov' H'=some r
 |[],i,at_,ov,H,K,hok,h=>⟨[],ov,H,hok,rfl,h⟩
 |o::l,i,at_,ov,H,K,hok,h=>by
  rw[qit]at h;rw[xS,qiQ hok];cases hw:qcM ops ov o with
  |none=>rw[hw]at h;cases h
  |some b=>
   rw[hw]at h;simp only[qz3];simp only[yK]at h;cases b with
   |true=>
    simp only[cond_true]at h;obtain⟨q,h1,h2⟩:=qip hcf hfs h;simp only[if_true,qeq hok,h1,qz3];obtain⟨fps,ov',H',h3,h4,h5⟩:=qeL hcf hfs (qgV hok _ _) h2;rw[qeX]at h4;exact⟨_,ov',H',h3,by rw[h4];rfl,h5⟩
   |false=>
    simp only[cond_false]at h;simp only[qz1,if_false];obtain⟨fps,ov',H',h3,h4,h5⟩:=qeL hcf hfs (qgV hok _ _) h;rw[qeX]at h4;exact⟨_,ov',H',h3,by rw[h4];rfl,h5⟩
def qcb:Nat->List Nat->Bool
 |_,[]=>true
 |i,k::ks=>qz8 i k&&qcb (k+1) ks
def qmy(ks:List Nat)(ov:Ov):(Ov->α)->α:=
 List.rec (motive:=λ_=>(Ov->α)->α) (λK=>K []) (λt _ ih K=>gW (xx t ov) λv=>ih λl=>K ((t,v)::l)) ks
theorem quU(ks:List Nat)(ov:Ov):∀(K:Ov->α),qmy ks ov K=K (ks.map λt=>(t,xx t ov)):=by
 induction ks with
 |nil=>intro K;rfl
 |cons t l ih=>
  intro K;have:qmy (t::l) ov K=gW (xx t ov) λv=>qmy l ov λl=>K ((t,v)::l):=rfl
  rw[this,qg6,ih,List.map_cons]
theorem qcD:∀(ks:List Nat) (fr:List AV) (i t:Nat),qcb i ks=true->(xQ i ks fr)[t]? =if t<fr.length then some (if i+t∈ks then(fr[t]?).getD .junk else .junk)else none
 |ks,[],i,t,_=>by cases ks<;>simp[xQ]
 |[],a::fr,i,t,h=>by
  rw[xQ];cases t with
  |zero=>simp
  |succ t=>
   simp only[List.getElem?_cons_succ];rw[qcD [] fr i t rfl];simp
 |k::ks,a::fr,i,t,h=>by
  rw[qcb,qzR,Nat.ble_eq]at h;rw[xQ];have hge:∀(l:List Nat) (j:Nat),qcb j l=true->∀x∈l,j<=x:=by
   intro l
   induction l with
   |nil=>intro j _ x hx;cases hx
   |cons y l ih=>
    intro j hj x hx;rw[qcb,qzR,Nat.ble_eq]at hj;rcases qAd.1 hx with rfl|hx
    ·exact hj.1
    ·have:=ih _ hj.2 x hx;omega
  split
  ·rename_i e;have e:=qzY e;subst e;cases t with
   |zero=>simp
   |succ t=>
    simp only[List.getElem?_cons_succ];rw[qcD ks fr (i+1) t h.2];have e1:i+(t+1)=i+1+t:=by omega
    have e2:¬i+1+t=i:=by omega
    simp only[List.length_cons,Nat.add_lt_add_iff_right,e1,qAd,e2,false_or]
  ·rename_i e;have hne:i≠k:=λh'=>e (by rw[h'];exact qAq _)
   cases t with
   |zero=>
    have:i ∉ k::ks:=by
     intro hm;rcases qAd.1 hm with rfl|hm
     ·exact hne rfl
     ·have:=hge _ _ h.2 i hm;omega
    simp[this]
   |succ t=>
    simp only[List.getElem?_cons_succ];rw[qcD (k::ks) fr (i+1) t (by rw[qcb,qzR,Nat.ble_eq];exact⟨by omega,h.2⟩)];have e1:i+(t+1)=i+1+t:=by omega
    simp only[List.length_cons,Nat.add_lt_add_iff_right,e1]
theorem qte(ks:List Nat)(g:Nat->AV)(t:Nat):xx t (ks.map λt=>(t,g t))=if t∈ks then g t else .junk:=by
 induction ks with
 |nil=>rfl
 |cons k l ih=>
  rw[List.map_cons,qbp,ih]
  by_cases e:k=t
  ·subst e;simp
  ·have h1:qzP k t=false:=by rw[←Bool.not_eq_true];intro h';exact e (qzY h')
   have h2:¬t=k:=λh=>e h.symm
   rw[h1,cond_false];simp only[qAd,h2,false_or]
def qiq(n:Nat)(ts:Option (List Nat))(ov:Ov)(K:Ov->Option β):Option β:=
 match ts with
 |none=>K ov
 |some ks=>cond (qcb 0 ks&&ks.all λt=>Nat.blt t n) (qmy ks ov K) none
theorem qeK{n:Nat}{ts:Option (List Nat)}{ov:Ov}{K:Ov->Option β}{r:β}(hok:OvOk n ov)(h:qiq n ts ov K=some r):∃ov',OvOk n ov'∧vI ts (den n ov)=den n ov'∧K ov'=some r:=by
 cases ts with
 |none=>exact⟨ov,hok,rfl,h⟩
 |some ks=>
  simp only[qiq,quU]at h;cases hc:(qcb 0 ks&&ks.all λt=>Nat.blt t n)with
  |false=>rw[hc]at h;cases h
  |true=>
   rw[hc]at h;rw[qzR,List.all_eq_true]at hc;have hok':OvOk n (ks.map λt=>(t,xx t ov)):=by
    intro p hp;obtain⟨t,ht,rfl⟩:=List.mem_map.1 hp;have:=hc.2 t ht
    simpa [qAm]using this
   refine⟨_,hok',(qk8 hok' ?_ λt ht=>?_).symm,h⟩
   ·show(xQ 0 ks (den n ov)).length=n;rw[(qbq (ts:=ks) (fr:=den n ov) (k:=0)).1,qew]
   ·show(xQ 0 ks (den n ov))[t]? =_;rw[qcD _ _ _ _ hc.1,qew,qAw ht,Nat.zero_add,qte,qex hok,qAw ht];rfl
def qct(n:Nat):List (Tmp×Nat)->Ov->AH->(Ov->AH->Option β)->Option β
 |[],ov,H,K=>K ov H
 |p::l,ov,H,K=>
  match xx p.1 ov with
  | .nilS=>fNat H.length λi=>cond (Nat.blt p.1 n) (gS (H++[.rows true p.2 []]) λH'=>qct n l ((p.1,.ms i 0 0)::ov) H' K) none
  | .ptr _ _ _=>(match yj p.1 p.2 (den n ov) H with|q=>gH q.2 λH'=>qct n l ov H' K)
  |_=>qct n l ov H K
theorem qtv{t sz:Nat}{fr:List AV}{H:AH}{id r off:Nat}(h:fr[t]? =some (.ptr id r off)):(yj t sz fr H).1=fr:=by
 unfold yj;rw[h];simp only;split
 ·split
  ·split
   ·rfl
   ·split
    ·split<;>rfl
    ·rfl
   ·rfl
  ·rfl
 ·rfl
theorem qaq{n:Nat}{r:β}:∀{ls:List (Tmp×Nat)} {ov:Ov} {H:AH} {K:Ov->AH->Option β},OvOk n ov->qct n ls ov H K=some r->∃ov' H',OvOk n ov'∧vG ls (den n ov) H=(den n ov',H')∧K ov' H'=some r
 |[],ov,H,K,hok,h=>⟨ov,H,hok,rfl,h⟩
 |p::l,ov,H,K,hok,h=>by
  rw[qct]at h;rw[vG];have hget:(den n ov)[p.1]? =if p.1<n then some (xx p.1 ov)else none:=qex hok p.1
  split at h
  ·rename_i hv;simp only[yK]at h;cases hb:Nat.blt p.1 n with
   |false=>rw[hb]at h;cases h
   |true=>
    rw[hb]at h;simp only[cond_true,y3]at h;have hlt:p.1<n:=by simpa [qAm]using hb
    have hl1:yj p.1 p.2 (den n ov) H=(den n ((p.1,.ms H.length 0 0)::ov),H++[.rows true p.2 []]):=by
     unfold yj;rw[hget,qAw hlt,hv];rfl
    rw[hl1];exact qaq (λq hq=>(qAd.1 hq).elim (λe=>by subst e;exact hlt) (hok q)) h
  ·rename_i id r' off hv;simp only[qfe]at h
   by_cases hlt:p.1<n
   ·rw[qtv (by rw[hget,qAw hlt,hv])];exact qaq hok h
   ·rw[qf3 hok hlt]at hv;cases hv
  ·rename_i h1 h2;have hl1:yj p.1 p.2 (den n ov) H=(den n ov,H):=by
    unfold yj;rw[hget]
    by_cases hlt:p.1<n
    ·rw[qAw hlt];split
     ·rename_i e;exact absurd (Option.some.inj e) h1
     ·rename_i a b c e;exact absurd (Option.some.inj e) (h2 a b c)
     ·rfl
    ·rw[qAx hlt]
   rw[hl1];exact qaq hok h
def spGo:Nat->List AV->Ov
 |_,[]=>[]
 |i,.junk::l=>spGo (i+1) l
 |i,v::l=>(i,v)::spGo (i+1) l
theorem qm6:∀(l:List AV) (i t:Nat),xx t (spGo i l)=if i<=t then(l[t - i]?).getD .junk else .junk
 |[],i,t=>by simp[spGo,qf2]
 |a::l,i,t=>by
  have ih:=qm6 l (i+1) t;have key:∀(ov:Ov),ov=(i,a)::spGo (i+1) l->xx t ov=if i<=t then((a::l)[t - i]?).getD .junk else .junk:=by
   intro ov e;rw[e,qbp,ih]
   by_cases e2:i=t
   ·subst e2;simp
   ·have h1:qzP i t=false:=by rw[←Bool.not_eq_true];intro h';exact e2 (qzY h')
    simp only[h1,cond_false]
    by_cases h3:i+1<=t
    ·have h4:t - i=(t - (i+1))+1:=by omega
     rw[qAw h3,qAw (by omega),h4,List.getElem?_cons_succ]
    ·rw[qAx h3,qAx (by omega)]
  cases a with
  |junk=>
   show xx t (spGo (i+1) l)=_;rw[ih]
   by_cases h3:i+1<=t
   ·have h4:t - i=(t - (i+1))+1:=by omega
    rw[qAw h3,qAw (by omega),h4,List.getElem?_cons_succ]
   ·rw[qAx h3]
    by_cases e2:i=t
    ·subst e2;simp
    ·rw[qAx (by omega)]
  |_=>exact key _ rfl
theorem qcN:∀(l:List AV) (i n:Nat),i+l.length<=n->OvOk n (spGo i l)
 |[],i,n,_=>λp hp=>by cases hp
 |a::l,i,n,h=>by
  simp only[List.length_cons]at h;have ih:=qcN l (i+1) n (by omega);have key:OvOk n ((i,a)::spGo (i+1) l):=λp hp=>by
   rcases qAd.1 hp with rfl|hp
   ·show i<n;omega
   ·exact ih p hp
  cases a<;>first|exact key|exact ih
theorem qkh(l:List AV):den l.length (spGo 0 l)=l:=by
 have hok:=qcN l 0 l.length (by omega);refine qk8 hok rfl λt ht=>?_
 rw[qm6,qAw (Nat.zero_le _),Nat.sub_zero,qzS ht];rfl
def yGc(n k:Nat)(ov:Ov)(H:AH)(K:Ov->AH->Option β):Option β:=
 cond (qz8 H.length k) (K ov H) (match qbw k (den n ov) H with|q=>gS (spGo 0 q.1) λov'=>gL gP ov' λov'=>gH q.2 λH'=>K ov' H')
theorem quF(ρ:Nat->Nat)(l:List AV):(renL ρ l).length=l.length:=by rw[y7];simp
theorem qtL(k:Nat)(fr:List AV)(H:AH):(qbw k fr H).1.length=fr.length:=by
 unfold qbw;simp only;cases yc H (x7 k H (2*H.length+16) [] (qY k fr++xm k (H.take k)))with
 |none=>rfl
 |some bs=>
  simp only;split
  ·exact quF _ _
  ·rfl
theorem quk{n k:Nat}{ov:Ov}{H:AH}{K:Ov->AH->Option β}{r:β}(hok:OvOk n ov)(h:yGc n k ov H K=some r):∃ov' H',OvOk n ov'∧gc k (den n ov) H=(den n ov',H')∧K ov' H'=some r:=by
 unfold yGc at h;unfold gc;cases hb:qz8 H.length k with
 |true=>rw[hb]at h;exact⟨ov,H,hok,by simp,h⟩
 |false=>
  rw[hb]at h;simp only[cond_false]at h;rw[y3,zC qrR,qfe]at h;have hl:(qbw k (den n ov) H).1.length=n:=by rw[qtL,qew]
  have:=qkh (qbw k (den n ov) H).1;rw[hl]at this;refine⟨_,_,?_,?_,h⟩
  ·exact qcN _ _ _ (by omega)
  ·simp only[qz1,if_false,this]
def qqw(n k:Nat)(ts:Option (List Tmp))(ls:List (Tmp×Nat))(ov:Ov)(H:AH)(K:Ov->AH->Option β):Option β:=
 qiq n ts ov λov=>qct n ls ov H λov H=>yGc n k ov H K
theorem qis{n k:Nat}{ts:Option (List Tmp)}{ls:List (Tmp×Nat)}{ov:Ov}{H:AH}{K:Ov->AH->Option β}{r:β}(hok:OvOk n ov)(h:qqw n k ts ls ov H K=some r):
  ∃ov' H',OvOk n ov'∧yr k ts ls (den n ov) H=(den n ov',H')∧K ov' H'=some r:=by
 obtain⟨ov1,h1,h2,h⟩:=qeK hok h;obtain⟨ov2,H2,h3,h4,h⟩:=qaq h1 h;obtain⟨ov3,H3,h5,h6,h⟩:=quk h3 h;refine⟨ov3,H3,h5,?_,h⟩;unfold yr;rw[h2,h4];exact h6
abbrev YE(β:Type):=Ex->Ov->AH->Option β
def qms(n k:Nat)(ts:Option (List Tmp))(ls:List (Tmp×Nat))(body:Ov->AH->YE β->Option β):Nat->Ov->AH->YE β->Option β
 |0,_,_,_=>none
 |m+1,ov,H,K=>body ov H λe ov' H'=>
  match e with
  | .normal=>qqw n k ts ls ov' H' λov2 H2=>qms n k ts ls body m ov2 H2 K
  |e=>K e ov' H'
def qsn(cfg:Cfg)(cf:Orac)(f:Nat)(rd:Option Nat)(n bs:Nat)(g:Operand)(ps:Array Tmp)(assign body:Code)(ov:Ov)(H:AH)(K:YE β):Option β:=
 gL gW (den n ov) λfr=>
 match z4 cfg cf f rd bs g ps assign body fr H with
 |none=>none
 |some q=>gS (spGo 0 q.2.1) λov'=>gL gP ov' λov'=>gH q.2.2 λH'=>cond (qzP q.2.1.length n) (K q.1 ov' H') none
def yC(cfg:Cfg)(cf:Orac)(fs:List Fact)(m f:Nat)(rd:Option Nat)(n bs:Nat):Code->Ov->AH->YE β->Option β
 | .skip,ov,H,K=>K .normal ov H
 | .label _,ov,H,K=>K .normal ov H
 | .region id ops draw,ov,H,K=>
  match draw with
  |true=>cond (qam ops) (gS (H++qAf (places cfg ops.toList) .res) λH1=>qit cfg cf fs f id ops n 0 H.length ops.toList ov H1 λfps ov' H'=>cond (qcR (ancs [] ops.toList) H1 fps) (K .normal ov' H') none) none
  |false=>yOps cfg cf fs f id ops n 0 ops.toList ov H λov' H'=>K .normal ov' H'
 | .seq a b,ov,H,K=>
  match qcj a with
  |some p=>
   gL gW (den n ov) λfr=>
   match(zD cfg cf f p.1 p.2 p.2.size [] fr H).bind λL=>zP (λfr H=>(xC cfg cf m f rd bs b (vI (cfg.cut f (qm b)) fr) H).map (qg8 bs (dsts a++dsts b))) L with
   |none=>none
   |some q=>gS (spGo 0 q.2.1) λov'=>gL gP ov' λov'=>gH q.2.2 λH'=>cond (qzP q.2.1.length n) (K q.1 ov' H') none
  |none=>yC cfg cf fs m f rd n bs a ov H λe ov' H'=>
   match e with
   | .normal=>qiq n (cfg.cut f (qm b)) ov' λov2=>yC cfg cf fs m f rd n bs b ov2 H' K
   |e=>K e ov' H'
 | .cond c a b,ov,H,K=>
  match opdO ov c with
  | .bool t=>(match t with|true=>yC cfg cf fs m f rd n bs a ov H K|false=>yC cfg cf fs m f rd n bs b ov H K)
  |_=>none
 | .block id a,ov,H,K=>yC cfg cf fs m f rd n bs a ov H λe ov' H'=>
  match e with
  | .exit id'=>cond (qzP id' id) (K .normal ov' H') (K (.exit id') ov' H')
  |e=>K e ov' H'
 | .loop a,ov,H,K=>qqw n bs (cfg.keepIn f (qm a)) (cfg.lift f (qm a)) ov H λov H=>
   qms n bs (cfg.keepIn f (qm a)) (cfg.lift f (qm a)) (yC cfg cf fs m f rd n bs a) m ov H λe ov H=>qiq n (cfg.keepOut f (qm a)) ov λov=>K e ov H
 | .scope a,ov,H,K=>yC cfg cf fs m f rd n bs a ov H λe ov' H'=>
  match e with
  | .goto _=>none
  |e=>K e ov' H'
 | .exit id,ov,H,K=>K (.exit id) ov H
 | .goto _,_,_,_=>none
 | .ret,ov,H,K=>K .ret ov H
 | .rangeFunc g ps assign body,ov,H,K=>qct n (cfg.lift f (qm body)) ov H λov H=>qsn cfg cf f rd n bs g ps assign body ov H K
 | .refuse _,_,_,_=>none
theorem qir{n k:Nat}{ts:Option (List Tmp)}{ls:List (Tmp×Nat)}{body:Ov->AH->YE β->Option β}{den':Den}{r:β}(hb:∀{ov H K},OvOk n ov->body ov H K=some r->∃e ov' H',OvOk n ov'∧den' (den n ov) H=some (e,den n ov',H')∧K e ov' H'=some r):
  ∀(m:Nat) {ov:Ov} {H:AH} {K:YE β},OvOk n ov->qms n k ts ls body m ov H K=some r->∃e ov' H',OvOk n ov'∧yh k ts ls den' m (den n ov,H)=some (e,den n ov',H')∧K e ov' H'=some r
 |0,ov,H,K,_,h=>by cases h
 |m+1,ov,H,K,hok,h=>by
  rw[qms]at h;obtain⟨e,ov1,H1,h1,h2,h3⟩:=hb hok h;rw[yh];simp only[h2,qz3];cases e with
  |normal=>
   simp only at h3⊢;obtain⟨ov2,H2,h4,h5,h6⟩:=qis h1 h3;rw[h5];exact qir hb m h4 h6
  |exit id=>exact⟨_,ov1,H1,h1,rfl,h3⟩
  |goto l=>exact⟨_,ov1,H1,h1,rfl,h3⟩
  |ret=>exact⟨_,ov1,H1,h1,rfl,h3⟩
theorem qkA{cfg:Cfg}{cf:Orac}(hcf:Le cf (EV cfg)){fs:List Fact}(hfs:xr cfg fs){m f:Nat}{rd:Option Nat}{n bs:Nat}{r:β}:∀(c:Code) {ov:Ov} {H:AH} {K:YE β},OvOk n ov->yC cfg cf fs m f rd n bs c ov H K=some r ->
  ∃e ov' H',OvOk n ov'∧evC cfg (EV cfg) f rd bs c (den n ov) H=some (e,den n ov',H')∧K e ov' H'=some r:=by
 intro c
 induction c with
 |skip=>intro ov H K hok h;exact⟨_,ov,H,hok,by simp only[evC],h⟩
 |label l=>intro ov H K hok h;exact⟨_,ov,H,hok,by simp only[evC],h⟩
 |exit id=>intro ov H K hok h;exact⟨_,ov,H,hok,by simp only[evC],h⟩
 |ret=>intro ov H K hok h;exact⟨_,ov,H,hok,by simp only[evC],h⟩
 |goto l=>intro ov H K hok h;cases h
 |refuse s=>intro ov H K hok h;cases h
 |region id ops draw=>
  intro ov H K hok h;simp only[yC]at h;simp only[evC];cases draw with
  |true=>
   simp only at h;obtain⟨h1,h⟩:=qh h;rw[y3]at h;obtain⟨fps,ov',H',h2,h3,h⟩:=qeL hcf hfs hok h;obtain⟨h4,h⟩:=qh h;exact⟨_,ov',H',h2,by simp only[if_true,h1,h3,qz3,h4],h⟩
  |false=>
   simp only at h;obtain⟨ov',H',h2,h3,h⟩:=qfE hcf hfs hok h;exact⟨_,ov',H',h2,by simp only[qz1,if_false,h3,qAe],h⟩
 |seq x y ihx ihy=>
  intro ov H K hok h;simp only[yC]at h;simp only[evC];cases hco:qcj x with
  |some p=>
   simp only[hco]at h⊢;rw[zC qg6]at h;split at h
   ·cases h
   ·rename_i q hq;obtain⟨L,hL,hq⟩:=qzX.1 hq;have hev:Ev (λ_=>EV cfg) cf:=λt a H r h=>⟨0,λ_ _=>hcf t a H r h⟩
    obtain⟨_,hL'⟩:=qie hev cfg f p.1 p.2 _ _ _ _ _ hL;have hL':zD cfg (EV cfg) f p.1 p.2 p.2.size [] (den n ov) H=some L:=hL' _ (qz0 _);have hq':=qne (G:=λfr H=>(evC cfg (EV cfg) f rd bs y (vI (cfg.cut f (qm y)) fr) H).map (qg8 bs (dsts x++dsts y))) (λfr H r hr=>by
     obtain⟨r',hr',e⟩:=qzZ.1 hr;rw[qzC cfg hcf m f rd bs y _ _ _ hr',←e];rfl) hq
    rw[y3,zC qrR,qfe]at h;obtain⟨hl,h⟩:=qh h;have hl:=qzY hl;have hd:=qkh q.2.1;rw[hl]at hd;refine⟨q.1,_,q.2.2,?_,?_,h⟩
    ·exact qcN _ _ _ (by omega)
    ·rw[hL',qz3,hq',hd]
  |none=>?_
  simp only[hco]at h⊢;obtain⟨e,ov1,H1,h1,h2,h⟩:=ihx hok h;rw[h2];simp only[qz3];cases e with
  |normal=>
   simp only at h⊢;obtain⟨ov2,h3,h4,h⟩:=qeK h1 h;rw[h4];exact ihy h3 h
  |exit id=>exact⟨_,ov1,H1,h1,rfl,h⟩
  |goto l=>exact⟨_,ov1,H1,h1,rfl,h⟩
  |ret=>exact⟨_,ov1,H1,h1,rfl,h⟩
 |cond c x y ihx ihy=>
  intro ov H K hok h;simp only[yC]at h;simp only[evC,qeq hok];split at h
  ·rename_i t ht;rw[ht];cases t with
   |true=>exact ihx hok h
   |false=>exact ihy hok h
  ·cases h
 |block id x ih=>
  intro ov H K hok h;simp only[yC]at h;simp only[evC];obtain⟨e,ov1,H1,h1,h2,h⟩:=ih hok h;rw[h2];simp only[qz3];cases e with
  |normal=>exact⟨_,ov1,H1,h1,rfl,h⟩
  |exit id'=>
   simp only at h⊢;cases hb:qzP id' id with
   |true=>rw[hb]at h;exact⟨_,ov1,H1,h1,by simp,h⟩
   |false=>rw[hb]at h;exact⟨_,ov1,H1,h1,by simp,h⟩
  |goto l=>exact⟨_,ov1,H1,h1,rfl,h⟩
  |ret=>exact⟨_,ov1,H1,h1,rfl,h⟩
 |loop x ih=>
  intro ov H K hok h;simp only[yC]at h;simp only[evC];obtain⟨ov1,H1,h1,h2,h⟩:=qis hok h;rw[h2];obtain⟨e,ov2,H2,h3,h4,h⟩:=qir (den':=evC cfg (EV cfg) f rd bs x) (λhok h=>ih hok h) m h1 h;obtain⟨ov3,h5,h6,h⟩:=qeK h3 h;rw[qeG h4];exact⟨e,ov3,H2,h5,by simp only[qAe,h6],h⟩
 |scope x ih=>
  intro ov H K hok h;simp only[yC]at h;simp only[evC];obtain⟨e,ov1,H1,h1,h2,h⟩:=ih hok h;rw[h2];simp only[qz3];cases e with
  |goto l=>cases h
  |normal=>exact⟨_,ov1,H1,h1,rfl,h⟩
  |exit id=>exact⟨_,ov1,H1,h1,rfl,h⟩
  |ret=>exact⟨_,ov1,H1,h1,rfl,h⟩
 |rangeFunc g ps assign body=>
  intro ov H K hok h;simp only[yC]at h;simp only[evC];obtain⟨ov1,H1,h1,h2,h⟩:=qaq hok h;rw[h2];simp only;unfold qsn at h;rw[zC qg6]at h;split at h
  ·cases h
  ·rename_i q hq;have hq:z4 cfg (EV cfg) f rd bs g ps assign body (den n ov1) H1=some q:=by
    unfold z4 at hq⊢;split at hq
    ·rename_i hl;rw[qAw hl];split at hq
     ·split at hq
      ·cases hq
      ·rename_i hx;rw[qAx hx];obtain⟨q2,hq2,hq⟩:=qzX.1 hq;rw[hcf _ _ _ _ hq2];exact hq
     ·cases hq
    ·cases hq
   rw[y3,zC qrR,qfe]at h;obtain⟨hl,h⟩:=qh h;have hl:=qzY hl;have hd:=qkh q.2.1;rw[hl]at hd;refine⟨q.1,_,q.2.2,?_,?_,h⟩
   ·exact qcN _ _ _ (by omega)
   ·rw[hq,hd]
def resO(rs:List ResultVar)(ty:TypeId->Option TI)(ov:Ov)(H:AH):Option (List AV):=
 match rs with
 |[]=>some []
 | .tmp t::l=>(resO l ty ov H).map λvs=>xx t ov::vs
 | .cell a t::l=>
  match ty t with
  |some ti=>(zH ti.d.agg ti.sz H (xx a ov)).bind λv=>(resO l ty ov H).map λvs=>v::vs
  |none=>none
theorem qkK{n:Nat}{ov:Ov}(hok:OvOk n ov)(ty:TypeId->Option TI)(H:AH):∀rs:List ResultVar,xK rs ty (den n ov) H=resO rs ty ov H
 |[]=>rfl
 | .tmp t::l=>by
  have:(den n ov).getD t .junk=xx t ov:=congrFun (qeq hok) (.tmp t);simp only[xK,resO,qkK hok ty H l,this]
 | .cell a t::l=>by
  have:(den n ov).getD a .junk=xx a ov:=congrFun (qeq hok) (.tmp a);simp only[xK,resO,qkK hok ty H l,this];cases ty t<;>rfl
def yEnd(cfg:Cfg)(f n:Nat)(rs:List ResultVar):YE (AV×AH):=λe ov H=>
 match e with
 | .normal| .ret=>qct n (cfg.lift f 0) ov H λov H=>(match resO rs cfg.ty ov H with|some vs=>gA (zk vs) λv=>some (v,H)|none=>none)
 |_=>none
def qfm:Nat->List AV->Ov
 |_,[]=>[]
 |i,a::l=>(i,a)::qfm (i+1) l
theorem qij:∀(l:List AV) (i n:Nat),i+l.length<=n->OvOk n (qfm i l)
 |[],i,n,_=>λp hp=>by cases hp
 |a::l,i,n,h=>by
  simp only[List.length_cons]at h;intro p hp;rcases qAd.1 hp with rfl|hp
  ·show i<n;omega
  ·exact qij l (i+1) n (by omega) p hp
theorem qlV:∀(l:List AV) (i t:Nat),xx t (qfm i l)=if i<=t then(l[t - i]?).getD .junk else .junk
 |[],i,t=>by simp[qfm,qf2]
 |a::l,i,t=>by
  rw[qfm,qbp,qlV l (i+1) t]
  by_cases e2:i=t
  ·subst e2;simp
  ·have h1:qzP i t=false:=by rw[←Bool.not_eq_true];intro h';exact e2 (qzY h')
   simp only[h1,cond_false]
   by_cases h3:i+1<=t
   ·have h4:t - i=(t - (i+1))+1:=by omega
    rw[qAw h3,qAw (by omega),h4,List.getElem?_cons_succ]
   ·rw[qAx h3,qAx (by omega)]
theorem qve{l:List AV}{n:Nat}(h:l.length<=n):den n (qfm 0 l)=l++qAf (n - l.length) .junk:=by
 refine qk8 (qij l 0 n (by omega)) (by simp;omega) λt ht=>?_
 rw[qlV,qAw (Nat.zero_le _),Nat.sub_zero]
 by_cases hl:t<l.length
 ·rw[qz6 hl,qzS hl];rfl
 ·rw[qz2 (by omega),List.getElem?_replicate,qAw (by omega),List.getElem?_eq_none (by omega)];rfl
def yY2(id:Nat):YE (AV×AH):=λe _ H=>
 match H[id]? with
 |some (.loop f' fr' ps' assign' body' _ _)=>
  match e with
  | .normal=>gS (H.set id (.loop f' fr' ps' assign' body' none .ready)) λH'=>some (.bool true,H')
  | .ret=>gS (H.set id (.loop f' fr' ps' assign' body' (some .ret) .done)) λH'=>some (.bool false,H')
  | .exit x=>gS (H.set id (.loop f' fr' ps' assign' body' (some (.exit x)) .done)) λH'=>some (.bool false,H')
  | .goto _=>none
 |_=>none
def yF(cfg:Cfg)(look:Nat->Option Func)(fs:List Fact)(m:Nat):Nat->Orac
 |0,_,_,_=>none
 |d+1,.f f,args,H=>
  match cfg.ext f with
  |some s=>s args H
  |none=>
   if cfg.known f then
    match look f with
    |some fn=>
     match fn.body with
     |some c=>cond (qz8 args.length fn.ntmps) (fNat H.length λbs=>fNat fn.ntmps λn=>gS (qfm 0 args) λov=>yC cfg (yF cfg look fs m d) fs m f none n bs c ov H (yEnd cfg f n fn.results.toList)) none
     |none=>none
    |none=>none
   else none
 |d+1,.y id,args,H=>
  match H[id]? with
  |some (.loop f fr ps assign body _ .ready)=>
   cond (qzP args.length ps.length)
    (fNat H.length λbs=>fNat (yE fr ps args).length λn=>gS (spGo 0 (yE fr ps args)) λov=>yC cfg (yF cfg look fs m d) fs m f (some id) n bs assign ov H λe ov H=>
     match e with
     | .normal=>
      (match H[id]? with
      |some (.loop f' fr' ps' assign' body' pend' .ready)=>gS (H.set id (.loop f' fr' ps' assign' body' pend' .busy)) λH'=>yC cfg (yF cfg look fs m d) fs m f (some id) n bs body ov H' (yY2 id)
      |_=>none)
     |_=>none) none
  |_=>none
theorem qqx(cfg:Cfg){look:Nat->Option Func}(hl:∀f fn,look f=some fn->cfg.P.funcs[f]? =some fn){fs:List Fact}(hfs:xr cfg fs)(m:Nat):∀(d:Nat) (t:Tgt) (a:List AV) (H:AH) (r),yF cfg look fs m d t a H=some r->EV cfg t a H=some r
 |0,_,_,_,_,h=>by cases h
 |d+1,t,a,H,r,h=>by
  have ih:=qqx cfg hl hfs m d;refine qky ?_;cases t with
  |f f=>
   simp only[yF]at h;unfold xn;split at h
   ·rename_i s hs;simp only[hs];exact h
   ·rename_i hs;simp only[hs];split at h
    ·rename_i hk;rw[qAw hk];split at h
     ·rename_i fn hf;simp only[hl f fn hf];split at h
      ·rename_i c hb;simp only[hb];obtain⟨hle,h⟩:=qh h;rw[Nat.ble_eq]at hle;simp only[yK,y3]at h;obtain⟨e,ov',H',h1,h2,h3⟩:=qkA ih hfs c (qij a 0 fn.ntmps (by omega)) h;rw[qve hle]at h2;rw[h2];simp only[qz3];unfold yEnd at h3;have fin:∀(e:Ex),(e= .normal∨e= .ret)->(qct fn.ntmps (cfg.lift f 0) ov' H' λov H=>(match resO fn.results.toList cfg.ty ov H with|some vs=>gA (zk vs) λv=>some (v,H)|none=>none))=some r ->
         qch cfg fn.results.toList (e,vG (cfg.lift f 0) (den fn.ntmps ov') H')=some r:=by
        intro e he h3;obtain⟨ov2,H2,h4,h5,h6⟩:=qaq h1 h3;rw[h5];unfold qch;rcases he with rfl|rfl<;>
        ·simp only[qkK h4];split at h6
         ·rename_i vs hv;rw[qbZ]at h6;rw[hv];exact h6
         ·cases h6
       cases e with
       |normal=>exact fin _ (.inl rfl) h3
       |ret=>exact fin _ (.inr rfl) h3
       |exit x=>cases h3
       |goto l=>cases h3
      ·cases h
     ·cases h
    ·cases h
  |y id=>
   simp only[yF]at h;unfold xn;split at h
   ·rename_i f fr ps assign body p hlp;simp only[hlp];obtain⟨hlen,h⟩:=qh h;rw[qAw (qzY hlen)];simp only[yK,y3]at h;obtain⟨e,ov1,H1,h1,h2,h3⟩:=qkA ih hfs assign (qcN _ 0 _ (by omega)) h;rw[qkh]at h2;rw[h2];simp only[qz3];cases e with
    |normal=>
     simp only at h3⊢;split at h3
     ·rename_i f' fr' ps' assign' body' pend' hl1;simp only[hl1];obtain⟨e2,ov2,H2,h4,h5,h6⟩:=qkA ih hfs body h1 h3;rw[h5];simp only[qz3];unfold yY2 at h6;split at h6
      ·rename_i hl2;simp only[hl2];cases e2 with
       |normal=>simp only[y3]at h6;exact h6
       |ret=>simp only[y3]at h6;exact h6
       |exit x=>simp only[y3]at h6;exact h6
       |goto l=>cases h6
      ·cases h6
     ·cases h3
    |exit x=>cases h3
    |goto l=>cases h3
    |ret=>cases h3
   ·cases h
theorem qyi{cfg:Cfg}{look:Nat->Option Func}(hl:∀f fn,look f=some fn->cfg.P.funcs[f]? =some fn){fs:List Fact}(hfs:xr cfg fs){f:Nat}{args:List AV}{v:AV}(m d:Nat)(h:(match yF cfg look fs m d (.f f) args []with|some r=>some r.1|none=>none)=some v):EVs (EV cfg) f args=some v:=by
 unfold EVs;cases hx:yF cfg look fs m d (.f f) args []with
 |none=>rw[hx]at h;cases h
 |some r=>rw[hx]at h;rw[qqx cfg hl hfs m d _ _ _ _ hx];exact h
theorem qyj{cfg:Cfg}{look:Nat->Option Func}(hl:∀f fn,look f=some fn->cfg.P.funcs[f]? =some fn){fs:List Fact}(hfs:xr cfg fs){f:Nat}{args:List AV}{v:AV}(m d:Nat)(h:(match yF cfg look fs m d (.f f) args []with|some r=>gA (r.1.frz r.1.msIds r.2).fg some|none=>none)=some v):EVf (EV cfg) f args=some v:=by
 unfold EVf;cases hx:yF cfg look fs m d (.f f) args []with
 |none=>rw[hx]at h;cases h
 |some r=>rw[hx]at h;rw[qqx cfg hl hfs m d _ _ _ _ hx];simp only[qbZ]at h;exact h
end
def qev:List AV->AH->Option (AV×AH)
 |[.str a,.str b],H=>some (.int .i64 (if a==b then 0 else if Op.bytesLess a b then -1 else 1),H)
 |_,_=>none
end Go.Av
end
noncomputable section
namespace Go.Proofs.YtafdkafbgohigaaGreat
open Go.Av
def zro0:List AV:=[.int .u64 0,.int .u64 0,.int .u32 0,.int .u8 0,.int .u8 0,.int .u8 0,.int .u8 0,.nilF,.nilP,.int .i32 0,.int .i32 0]
def qmv:BT TI:=.node 133 ⟨.func,1,8,[.nilF],false⟩ (.node 69 ⟨.struct [(0,51)],1,24,[.nilS],false⟩ (.node 35 ⟨.func,1,8,[.nilF],false⟩ (.node 19 ⟨.struct [(0,17)],1,8,[.nilP],false⟩ (.node 9 ⟨.str,1,16,[.str []],false⟩ (.node 4 ⟨.bool,1,1,[.bool false],false⟩ (.node 2 ⟨.int .i64,1,8,[.int .i64 0],false⟩ (.node 1 ⟨.func,1,8,[.nilF],false⟩ .leaf .leaf) (.node 3 ⟨.int .i64,1,8,[.int .i64 0],false⟩ .leaf .leaf)) (.node 6 ⟨.int .u8,1,1,[.int .u8 0],false⟩ (.node 5 ⟨.int .u8,1,1,[.int .u8 0],false⟩ .leaf .leaf) (.node 7 ⟨.struct [(0,2),(1,3),(2,4),(3,6)],4,24,[.int .i64 0,.int .i64 0,.bool false,.int .u8 0],true⟩ .leaf .leaf))) (.node 16 ⟨.ptr 289,1,8,[.nilP],false⟩ (.node 13 ⟨.struct [(0,9),(1,12)],2,24,[.str [],.int .u64 0],false⟩ (.node 12 ⟨.int .u64,1,8,[.int .u64 0],false⟩ .leaf .leaf) (.node 15 ⟨.ptr 286,1,8,[.nilP],false⟩ .leaf .leaf)) (.node 18 ⟨.struct [(0,17)],1,8,[.nilP],false⟩ (.node 17 ⟨.ptr 298,1,8,[.nilP],false⟩ .leaf .leaf) .leaf))) (.node 27 ⟨.func,1,8,[.nilF],false⟩ (.node 23 ⟨.slice 25,1,24,[.nilS],false⟩ (.node 21 ⟨.int .i32,1,4,[.int .i32 0],false⟩ (.node 20 ⟨.iface,1,16,[.nilI],false⟩ .leaf .leaf) (.node 22 ⟨.slice 29,1,24,[.nilS],false⟩ .leaf .leaf)) (.node 25 ⟨.struct [(0,3),(1,3),(2,9),(3,23)],4,56,[.int .i64 0,.int .i64 0,.str [],.nilS],false⟩ (.node 24 ⟨.struct [(0,3),(1,3),(2,9),(3,23)],4,56,[.int .i64 0,.int .i64 0,.str [],.nilS],false⟩ .leaf .leaf) (.node 26 ⟨.func,1,8,[.nilF],false⟩ .leaf .leaf))) (.node 31 ⟨.func,1,8,[.nilF],false⟩ (.node 29 ⟨.struct [(0,3),(1,3),(2,3),(3,25)],7,80,[.int .i64 0,.int .i64 0,.int .i64 0,.int .i64 0,.int .i64 0,.str [],.nilS],false⟩ (.node 28 ⟨.struct [(0,3),(1,3),(2,3),(3,25)],7,80,[.int .i64 0,.int .i64 0,.int .i64 0,.int .i64 0,.int .i64 0,.str [],.nilS],false⟩ .leaf .leaf) (.node 30 ⟨.func,1,8,[.nilF],false⟩ .leaf .leaf)) (.node 34 ⟨.func,1,8,[.nilF],false⟩ (.node 32 ⟨.int .i64,1,8,[.int .i64 0],false⟩ .leaf .leaf) .leaf)))) (.node 52 ⟨.slice 67,1,24,[.nilS],false⟩ (.node 44 ⟨.func,1,8,[.nilF],false⟩ (.node 39 ⟨.func,1,8,[.nilF],false⟩ (.node 37 ⟨.func,1,8,[.nilF],false⟩ (.node 36 ⟨.func,1,8,[.nilF],false⟩ .leaf .leaf) (.node 38 ⟨.func,1,8,[.nilF],false⟩ .leaf .leaf)) (.node 41 ⟨.func,1,8,[.nilF],false⟩ (.node 40 ⟨.slice 3,1,24,[.nilS],false⟩ .leaf .leaf) (.node 43 ⟨.func,1,8,[.nilF],false⟩ .leaf .leaf))) (.node 49 ⟨.func,1,8,[.nilF],false⟩ (.node 46 ⟨.func,1,8,[.nilF],false⟩ (.node 45 ⟨.func,1,8,[.nilF],false⟩ .leaf .leaf) (.node 47 ⟨.func,1,8,[.nilF],false⟩ .leaf .leaf)) (.node 51 ⟨.slice 9,1,24,[.nilS],false⟩ (.node 50 ⟨.func,1,8,[.nilF],false⟩ .leaf .leaf) .leaf))) (.node 61 ⟨.ptr 74,1,8,[.nilP],false⟩ (.node 57 ⟨.func,1,8,[.nilF],false⟩ (.node 54 ⟨.ptr 126,1,8,[.nilP],false⟩ (.node 53 ⟨.func,1,8,[.nilF],false⟩ .leaf .leaf) (.node 55 ⟨.ptr 70,1,8,[.nilP],false⟩ .leaf .leaf)) (.node 60 ⟨.func,1,8,[.nilF],false⟩ (.node 58 ⟨.ptr 120,1,8,[.nilP],false⟩ .leaf .leaf) .leaf)) (.node 66 ⟨.struct [(0,65),(1,25),(5,3)],6,88,[.nilS,.int .i64 0,.int .i64 0,.str [],.nilS,.int .i64 0],false⟩ (.node 64 ⟨.func,1,8,[.nilF],false⟩ (.node 63 ⟨.func,1,8,[.nilF],false⟩ .leaf .leaf) (.node 65 ⟨.slice 118,1,24,[.nilS],false⟩ .leaf .leaf)) (.node 68 ⟨.func,1,8,[.nilF],false⟩ (.node 67 ⟨.struct [(0,65),(1,25),(5,3)],6,88,[.nilS,.int .i64 0,.int .i64 0,.str [],.nilS,.int .i64 0],false⟩ .leaf .leaf) .leaf))))) (.node 99 ⟨.slice 106,1,24,[.nilS],false⟩ (.node 85 ⟨.map 3 25,1,8,[.nilM],false⟩ (.node 78 ⟨.func,1,8,[.nilF],false⟩ (.node 73 ⟨.struct [(0,55),(1,25),(5,22),(6,3)],7,96,[.nilP,.int .i64 0,.int .i64 0,.str [],.nilS,.nilS,.int .i64 0],false⟩ (.node 71 ⟨.func,1,8,[.nilF],false⟩ (.node 70 ⟨.struct [(0,51)],1,24,[.nilS],false⟩ .leaf .leaf) (.node 72 ⟨.func,1,8,[.nilF],false⟩ .leaf .leaf)) (.node 75 ⟨.func,1,8,[.nilF],false⟩ (.node 74 ⟨.struct [(0,55),(1,25),(5,22),(6,3)],7,96,[.nilP,.int .i64 0,.int .i64 0,.str [],.nilS,.nilS,.int .i64 0],false⟩ .leaf .leaf) (.node 76 ⟨.func,1,8,[.nilF],false⟩ .leaf .leaf))) (.node 82 ⟨.func,1,8,[.nilF],false⟩ (.node 80 ⟨.func,1,8,[.nilF],false⟩ (.node 79 ⟨.func,1,8,[.nilF],false⟩ .leaf .leaf) (.node 81 ⟨.func,1,8,[.nilF],false⟩ .leaf .leaf)) (.node 84 ⟨.ptr 87,1,8,[.nilP],false⟩ (.node 83 ⟨.func,1,8,[.nilF],false⟩ .leaf .leaf) .leaf))) (.node 92 ⟨.ptr 95,1,8,[.nilP],false⟩ (.node 89 ⟨.func,1,8,[.nilF],false⟩ (.node 87 ⟨.struct [(0,25),(4,3),(5,23),(6,23),(7,85),(8,4)],9,128,[.int .i64 0,.int .i64 0,.str [],.nilS,.int .i64 0,.nilS,.nilS,.nilM,.bool false],false⟩ (.node 86 ⟨.struct [(0,25),(4,3),(5,23),(6,23),(7,85),(8,4)],9,128,[.int .i64 0,.int .i64 0,.str [],.nilS,.int .i64 0,.nilS,.nilS,.nilM,.bool false],false⟩ .leaf .leaf) (.node 88 ⟨.int .i64,1,8,[.int .i64 0],false⟩ .leaf .leaf)) (.node 91 ⟨.func,1,8,[.nilF],false⟩ (.node 90 ⟨.func,1,8,[.nilF],false⟩ .leaf .leaf) .leaf)) (.node 96 ⟨.func,1,8,[.nilF],false⟩ (.node 94 ⟨.struct [(0,25),(4,3),(5,23),(6,23),(7,93),(8,4)],9,144,[.int .i64 0,.int .i64 0,.str [],.nilS,.int .i64 0,.nilS,.nilS,.nilS,.bool false],false⟩ (.node 93 ⟨.slice 188,1,24,[.nilS],false⟩ .leaf .leaf) (.node 95 ⟨.struct [(0,25),(4,3),(5,23),(6,23),(7,93),(8,4)],9,144,[.int .i64 0,.int .i64 0,.str [],.nilS,.int .i64 0,.nilS,.nilS,.nilS,.bool false],false⟩ .leaf .leaf)) (.node 98 ⟨.func,1,8,[.nilF],false⟩ (.node 97 ⟨.func,1,8,[.nilF],false⟩ .leaf .leaf) .leaf)))) (.node 118 ⟨.int .u64,1,8,[.int .u64 0],false⟩ (.node 108 ⟨.func,1,8,[.nilF],false⟩ (.node 104 ⟨.struct [(0,22)],1,24,[.nilS],false⟩ (.node 102 ⟨.ptr 104,1,8,[.nilP],false⟩ (.node 101 ⟨.func,1,8,[.nilF],false⟩ .leaf .leaf) (.node 103 ⟨.struct [(0,22)],1,24,[.nilS],false⟩ .leaf .leaf)) (.node 106 ⟨.struct [(0,25),(4,23),(5,23)],6,104,[.int .i64 0,.int .i64 0,.str [],.nilS,.nilS,.nilS],false⟩ (.node 105 ⟨.struct [(0,25),(4,23),(5,23)],6,104,[.int .i64 0,.int .i64 0,.str [],.nilS,.nilS,.nilS],false⟩ .leaf .leaf) (.node 107 ⟨.func,1,8,[.nilF],false⟩ .leaf .leaf))) (.node 113 ⟨.func,1,8,[.nilF],false⟩ (.node 110 ⟨.func,1,8,[.nilF],false⟩ (.node 109 ⟨.func,1,8,[.nilF],false⟩ .leaf .leaf) (.node 112 ⟨.func,1,8,[.nilF],false⟩ .leaf .leaf)) (.node 117 ⟨.func,1,8,[.nilF],false⟩ (.node 115 ⟨.func,1,8,[.nilF],false⟩ .leaf .leaf) .leaf))) (.node 125 ⟨.struct [(0,124),(1,51),(2,3)],3,40,[.nilM,.nilS,.int .i64 0],false⟩ (.node 122 ⟨.func,1,8,[.nilF],false⟩ (.node 120 ⟨.struct [(0,54),(1,25),(5,22),(6,3)],7,96,[.nilP,.int .i64 0,.int .i64 0,.str [],.nilS,.nilS,.int .i64 0],false⟩ (.node 119 ⟨.struct [(0,54),(1,25),(5,22),(6,3)],7,96,[.nilP,.int .i64 0,.int .i64 0,.str [],.nilS,.nilS,.int .i64 0],false⟩ .leaf .leaf) (.node 121 ⟨.func,1,8,[.nilF],false⟩ .leaf .leaf)) (.node 124 ⟨.map 9 3,1,8,[.nilM],false⟩ (.node 123 ⟨.func,1,8,[.nilF],false⟩ .leaf .leaf) .leaf)) (.node 129 ⟨.func,1,8,[.nilF],false⟩ (.node 127 ⟨.func,1,8,[.nilF],false⟩ (.node 126 ⟨.struct [(0,124),(1,51),(2,3)],3,40,[.nilM,.nilS,.int .i64 0],false⟩ .leaf .leaf) (.node 128 ⟨.func,1,8,[.nilF],false⟩ .leaf .leaf)) (.node 131 ⟨.func,1,8,[.nilF],false⟩ (.node 130 ⟨.func,1,8,[.nilF],false⟩ .leaf .leaf) .leaf)))))) (.node 225 ⟨.func,1,8,[.nilF],false⟩ (.node 167 ⟨.func,1,8,[.nilF],false⟩ (.node 151 ⟨.func,1,8,[.nilF],false⟩ (.node 141 ⟨.array 21 140,21,168,[.nilF,.nilF,.nilF,.nilF,.nilF,.nilF,.nilF,.nilF,.nilF,.nilF,.nilF,.nilF,.nilF,.nilF,.nilF,.nilF,.nilF,.nilF,.nilF,.nilF,.nilF],false⟩ (.node 137 ⟨.map 118 25,1,8,[.nilM],false⟩ (.node 135 ⟨.ptr 139,1,8,[.nilP],false⟩ (.node 134 ⟨.func,1,8,[.nilF],false⟩ .leaf .leaf) (.node 136 ⟨.map 3 118,1,8,[.nilM],false⟩ .leaf .leaf)) (.node 139 ⟨.struct [(0,58),(1,65),(2,3),(3,65),(4,23),(5,136),(6,137),(7,4),(8,4),(9,25),(13,3)],14,176,[.nilP,.nilS,.int .i64 0,.nilS,.nilS,.nilM,.nilM,.bool false,.bool false,.int .i64 0,.int .i64 0,.str [],.nilS,.int .i64 0],false⟩ (.node 138 ⟨.struct [(0,58),(1,65),(2,3),(3,65),(4,23),(5,136),(6,137),(7,4),(8,4),(9,25),(13,3)],14,176,[.nilP,.nilS,.int .i64 0,.nilS,.nilS,.nilM,.nilM,.bool false,.bool false,.int .i64 0,.int .i64 0,.str [],.nilS,.int .i64 0],false⟩ .leaf .leaf) (.node 140 ⟨.func,1,8,[.nilF],false⟩ .leaf .leaf))) (.node 147 ⟨.func,1,8,[.nilF],false⟩ (.node 143 ⟨.func,1,8,[.nilF],false⟩ (.node 142 ⟨.func,1,8,[.nilF],false⟩ .leaf .leaf) (.node 145 ⟨.func,1,8,[.nilF],false⟩ .leaf .leaf)) (.node 149 ⟨.func,1,8,[.nilF],false⟩ (.node 148 ⟨.func,1,8,[.nilF],false⟩ .leaf .leaf) .leaf))) (.node 160 ⟨.struct [(0,54),(1,65),(2,3),(3,4)],4,48,[.nilP,.nilS,.int .i64 0,.bool false],false⟩ (.node 155 ⟨.func,1,8,[.nilF],false⟩ (.node 153 ⟨.func,1,8,[.nilF],false⟩ (.node 152 ⟨.func,1,8,[.nilF],false⟩ .leaf .leaf) (.node 154 ⟨.func,1,8,[.nilF],false⟩ .leaf .leaf)) (.node 158 ⟨.func,1,8,[.nilF],false⟩ (.node 157 ⟨.func,1,8,[.nilF],false⟩ .leaf .leaf) (.node 159 ⟨.ptr 161,1,8,[.nilP],false⟩ .leaf .leaf))) (.node 164 ⟨.func,1,8,[.nilF],false⟩ (.node 162 ⟨.func,1,8,[.nilF],false⟩ (.node 161 ⟨.struct [(0,54),(1,65),(2,3),(3,4)],4,48,[.nilP,.nilS,.int .i64 0,.bool false],false⟩ .leaf .leaf) (.node 163 ⟨.func,1,8,[.nilF],false⟩ .leaf .leaf)) (.node 166 ⟨.func,1,8,[.nilF],false⟩ (.node 165 ⟨.func,1,8,[.nilF],false⟩ .leaf .leaf) .leaf)))) (.node 191 ⟨.func,1,8,[.nilF],false⟩ (.node 177 ⟨.func,1,8,[.nilF],false⟩ (.node 173 ⟨.func,1,8,[.nilF],false⟩ (.node 169 ⟨.ptr 4,1,8,[.nilP],false⟩ (.node 168 ⟨.func,1,8,[.nilF],false⟩ .leaf .leaf) (.node 171 ⟨.func,1,8,[.nilF],false⟩ .leaf .leaf)) (.node 175 ⟨.func,1,8,[.nilF],false⟩ (.node 174 ⟨.func,1,8,[.nilF],false⟩ .leaf .leaf) (.node 176 ⟨.int .u64,1,8,[.int .u64 0],false⟩ .leaf .leaf))) (.node 187 ⟨.struct [(0,3),(1,25)],5,64,[.int .i64 0,.int .i64 0,.int .i64 0,.str [],.nilS],false⟩ (.node 179 ⟨.func,1,8,[.nilF],false⟩ (.node 178 ⟨.func,1,8,[.nilF],false⟩ .leaf .leaf) (.node 180 ⟨.func,1,8,[.nilF],false⟩ .leaf .leaf)) (.node 189 ⟨.func,1,8,[.nilF],false⟩ (.node 188 ⟨.struct [(0,3),(1,25)],5,64,[.int .i64 0,.int .i64 0,.int .i64 0,.str [],.nilS],false⟩ .leaf .leaf) .leaf))) (.node 207 ⟨.func,1,8,[.nilF],false⟩ (.node 204 ⟨.struct [(0,25),(4,93),(5,3)],6,88,[.int .i64 0,.int .i64 0,.str [],.nilS,.nilS,.int .i64 0],false⟩ (.node 195 ⟨.map 3 4,1,8,[.nilM],false⟩ (.node 194 ⟨.slice 5,1,24,[.nilS],false⟩ .leaf .leaf) (.node 203 ⟨.func,1,8,[.nilF],false⟩ .leaf .leaf)) (.node 206 ⟨.func,1,8,[.nilF],false⟩ (.node 205 ⟨.struct [(0,25),(4,93),(5,3)],6,88,[.int .i64 0,.int .i64 0,.str [],.nilS,.nilS,.int .i64 0],false⟩ .leaf .leaf) .leaf)) (.node 214 ⟨.func,1,8,[.nilF],false⟩ (.node 212 ⟨.struct [(0,55),(1,65)],2,32,[.nilP,.nilS],false⟩ (.node 211 ⟨.ptr 213,1,8,[.nilP],false⟩ .leaf .leaf) (.node 213 ⟨.struct [(0,55),(1,65)],2,32,[.nilP,.nilS],false⟩ .leaf .leaf)) (.node 224 ⟨.func,1,8,[.nilF],false⟩ (.node 219 ⟨.array 2 23,2,48,[.nilS,.nilS],false⟩ .leaf .leaf) .leaf))))) (.node 265 ⟨.func,1,8,[.nilF],false⟩ (.node 250 ⟨.func,1,8,[.nilF],false⟩ (.node 235 ⟨.struct [(0,205),(6,4)],7,96,[.int .i64 0,.int .i64 0,.str [],.nilS,.nilS,.int .i64 0,.bool false],false⟩ (.node 231 ⟨.struct [(0,25),(4,25)],8,112,[.int .i64 0,.int .i64 0,.str [],.nilS,.int .i64 0,.int .i64 0,.str [],.nilS],false⟩ (.node 227 ⟨.func,1,8,[.nilF],false⟩ (.node 226 ⟨.func,1,8,[.nilF],false⟩ .leaf .leaf) (.node 230 ⟨.func,1,8,[.nilF],false⟩ .leaf .leaf)) (.node 233 ⟨.slice 232,1,24,[.nilS],false⟩ (.node 232 ⟨.struct [(0,25),(4,25)],8,112,[.int .i64 0,.int .i64 0,.str [],.nilS,.int .i64 0,.int .i64 0,.str [],.nilS],false⟩ .leaf .leaf) (.node 234 ⟨.ptr 236,1,8,[.nilP],false⟩ .leaf .leaf))) (.node 247 ⟨.struct [(0,118),(1,118)],2,16,[.int .u64 0,.int .u64 0],true⟩ (.node 244 ⟨.func,1,8,[.nilF],false⟩ (.node 236 ⟨.struct [(0,205),(6,4)],7,96,[.int .i64 0,.int .i64 0,.str [],.nilS,.nilS,.int .i64 0,.bool false],false⟩ .leaf .leaf) (.node 246 ⟨.func,1,8,[.nilF],false⟩ .leaf .leaf)) (.node 249 ⟨.func,1,8,[.nilF],false⟩ (.node 248 ⟨.struct [(0,118),(1,118)],2,16,[.int .u64 0,.int .u64 0],true⟩ .leaf .leaf) .leaf))) (.node 257 ⟨.func,1,8,[.nilF],false⟩ (.node 254 ⟨.func,1,8,[.nilF],false⟩ (.node 252 ⟨.func,1,8,[.nilF],false⟩ (.node 251 ⟨.func,1,8,[.nilF],false⟩ .leaf .leaf) (.node 253 ⟨.func,1,8,[.nilF],false⟩ .leaf .leaf)) (.node 256 ⟨.ptr 272,1,8,[.nilP],false⟩ (.node 255 ⟨.func,1,8,[.nilF],false⟩ .leaf .leaf) .leaf)) (.node 261 ⟨.ptr 248,1,8,[.nilP],false⟩ (.node 259 ⟨.func,1,8,[.nilF],false⟩ (.node 258 ⟨.func,1,8,[.nilF],false⟩ .leaf .leaf) (.node 260 ⟨.func,1,8,[.nilF],false⟩ .leaf .leaf)) (.node 263 ⟨.func,1,8,[.nilF],false⟩ (.node 262 ⟨.func,1,8,[.nilF],false⟩ .leaf .leaf) .leaf)))) (.node 280 ⟨.func,1,8,[.nilF],false⟩ (.node 273 ⟨.func,1,8,[.nilF],false⟩ (.node 269 ⟨.func,1,8,[.nilF],false⟩ (.node 267 ⟨.func,1,8,[.nilF],false⟩ (.node 266 ⟨.func,1,8,[.nilF],false⟩ .leaf .leaf) (.node 268 ⟨.func,1,8,[.nilF],false⟩ .leaf .leaf)) (.node 271 ⟨.struct [(0,248),(2,270)],402,5616,[.int .u64 0,.int .u64 0,.int .i64 0,.int .i64 0,.str [],.nilS,.int .i64 0,.int .i64 0,.str [],.nilS,.int .i64 0,.int .i64 0,.str [],.nilS,.int .i64 0,.int .i64 0,.str [],.nilS,.int .i64 0,.int .i64 0,.str [],.nilS,.int .i64 0,.int .i64 0,.str [],.nilS,.int .i64 0,.int .i64 0,.str [],.nilS,.int .i64 0,.int .i64 0,.str [],.nilS,.int .i64 0,.int .i64 0,.str [],.nilS,.int .i64 0,.int .i64 0,.str [],.nilS,.int .i64 0,.int .i64 0,.str [],.nilS,.int .i64 0,.int .i64 0,.str [],.nilS,.int .i64 0,.int .i64 0,.str [],.nilS,.int .i64 0,.int .i64 0,.str [],.nilS,.int .i64 0,.int .i64 0,.str [],.nilS,.int .i64 0,.int .i64 0,.str [],.nilS,.int .i64 0,.int .i64 0,.str [],.nilS,.int .i64 0,.int .i64 0,.str [],.nilS,.int .i64 0,.int .i64 0,.str [],.nilS,.int .i64 0,.int .i64 0,.str [],.nilS,.int .i64 0,.int .i64 0,.str [],.nilS,.int .i64 0,.int .i64 0,.str [],.nilS,.int .i64 0,.int .i64 0,.str [],.nilS,.int .i64 0,.int .i64 0,.str [],.nilS,.int .i64 0,.int .i64 0,.str [],.nilS,.int .i64 0,.int .i64 0,.str [],.nilS,.int .i64 0,.int .i64 0,.str [],.nilS,.int .i64 0,.int .i64 0,.str [],.nilS,.int .i64 0,.int .i64 0,.str [],.nilS,.int .i64 0,.int .i64 0,.str [],.nilS,.int .i64 0,.int .i64 0,.str [],.nilS,.int .i64 0,.int .i64 0,.str [],.nilS,.int .i64 0,.int .i64 0,.str [],.nilS,.int .i64 0,.int .i64 0,.str [],.nilS,.int .i64 0,.int .i64 0,.str [],.nilS,.int .i64 0,.int .i64 0,.str [],.nilS,.int .i64 0,.int .i64 0,.str [],.nilS,.int .i64 0,.int .i64 0,.str [],.nilS,.int .i64 0,.int .i64 0,.str [],.nilS,.int .i64 0,.int .i64 0,.str [],.nilS,.int .i64 0,.int .i64 0,.str [],.nilS,.int .i64 0,.int .i64 0,.str [],.nilS,.int .i64 0,.int .i64 0,.str [],.nilS,.int .i64 0,.int .i64 0,.str [],.nilS,.int .i64 0,.int .i64 0,.str [],.nilS,.int .i64 0,.int .i64 0,.str [],.nilS,.int .i64 0,.int .i64 0,.str [],.nilS,.int .i64 0,.int .i64 0,.str [],.nilS,.int .i64 0,.int .i64 0,.str [],.nilS,.int .i64 0,.int .i64 0,.str [],.nilS,.int .i64 0,.int .i64 0,.str [],.nilS,.int .i64 0,.int .i64 0,.str [],.nilS,.int .i64 0,.int .i64 0,.str [],.nilS,.int .i64 0,.int .i64 0,.str [],.nilS,.int .i64 0,.int .i64 0,.str [],.nilS,.int .i64 0,.int .i64 0,.str [],.nilS,.int .i64 0,.int .i64 0,.str [],.nilS,.int .i64 0,.int .i64 0,.str [],.nilS,.int .i64 0,.int .i64 0,.str [],.nilS,.int .i64 0,.int .i64 0,.str [],.nilS,.int .i64 0,.int .i64 0,.str [],.nilS,.int .i64 0,.int .i64 0,.str [],.nilS,.int .i64 0,.int .i64 0,.str [],.nilS,.int .i64 0,.int .i64 0,.str [],.nilS,.int .i64 0,.int .i64 0,.str [],.nilS,.int .i64 0,.int .i64 0,.str [],.nilS,.int .i64 0,.int .i64 0,.str [],.nilS,.int .i64 0,.int .i64 0,.str [],.nilS,.int .i64 0,.int .i64 0,.str [],.nilS,.int .i64 0,.int .i64 0,.str [],.nilS,.int .i64 0,.int .i64 0,.str [],.nilS,.int .i64 0,.int .i64 0,.str [],.nilS,.int .i64 0,.int .i64 0,.str [],.nilS,.int .i64 0,.int .i64 0,.str [],.nilS,.int .i64 0,.int .i64 0,.str [],.nilS,.int .i64 0,.int .i64 0,.str [],.nilS,.int .i64 0,.int .i64 0,.str [],.nilS,.int .i64 0,.int .i64 0,.str [],.nilS,.int .i64 0,.int .i64 0,.str [],.nilS,.int .i64 0,.int .i64 0,.str [],.nilS,.int .i64 0,.int .i64 0,.str [],.nilS,.int .i64 0,.int .i64 0,.str [],.nilS,.int .i64 0,.int .i64 0,.str [],.nilS,.int .i64 0,.int .i64 0,.str [],.nilS,.int .i64 0,.int .i64 0,.str [],.nilS,.int .i64 0,.int .i64 0,.str [],.nilS,.int .i64 0,.int .i64 0,.str [],.nilS,.int .i64 0,.int .i64 0,.str [],.nilS,.int .i64 0,.int .i64 0,.str [],.nilS,.int .i64 0,.int .i64 0,.str [],.nilS,.int .i64 0,.int .i64 0,.str [],.nilS,.int .i64 0,.int .i64 0,.str [],.nilS,.int .i64 0,.int .i64 0,.str [],.nilS,.int .i64 0,.int .i64 0,.str [],.nilS,.int .i64 0,.int .i64 0,.str [],.nilS,.int .i64 0,.int .i64 0,.str [],.nilS,.int .i64 0,.int .i64 0,.str [],.nilS,.int .i64 0,.int .i64 0,.str [],.nilS,.int .i64 0,.int .i64 0,.str [],.nilS,.int .i64 0,.int .i64 0,.str [],.nilS],false⟩ (.node 270 ⟨.array 100 25,400,5600,[.int .i64 0,.int .i64 0,.str [],.nilS,.int .i64 0,.int .i64 0,.str [],.nilS,.int .i64 0,.int .i64 0,.str [],.nilS,.int .i64 0,.int .i64 0,.str [],.nilS,.int .i64 0,.int .i64 0,.str [],.nilS,.int .i64 0,.int .i64 0,.str [],.nilS,.int .i64 0,.int .i64 0,.str [],.nilS,.int .i64 0,.int .i64 0,.str [],.nilS,.int .i64 0,.int .i64 0,.str [],.nilS,.int .i64 0,.int .i64 0,.str [],.nilS,.int .i64 0,.int .i64 0,.str [],.nilS,.int .i64 0,.int .i64 0,.str [],.nilS,.int .i64 0,.int .i64 0,.str [],.nilS,.int .i64 0,.int .i64 0,.str [],.nilS,.int .i64 0,.int .i64 0,.str [],.nilS,.int .i64 0,.int .i64 0,.str [],.nilS,.int .i64 0,.int .i64 0,.str [],.nilS,.int .i64 0,.int .i64 0,.str [],.nilS,.int .i64 0,.int .i64 0,.str [],.nilS,.int .i64 0,.int .i64 0,.str [],.nilS,.int .i64 0,.int .i64 0,.str [],.nilS,.int .i64 0,.int .i64 0,.str [],.nilS,.int .i64 0,.int .i64 0,.str [],.nilS,.int .i64 0,.int .i64 0,.str [],.nilS,.int .i64 0,.int .i64 0,.str [],.nilS,.int .i64 0,.int .i64 0,.str [],.nilS,.int .i64 0,.int .i64 0,.str [],.nilS,.int .i64 0,.int .i64 0,.str [],.nilS,.int .i64 0,.int .i64 0,.str [],.nilS,.int .i64 0,.int .i64 0,.str [],.nilS,.int .i64 0,.int .i64 0,.str [],.nilS,.int .i64 0,.int .i64 0,.str [],.nilS,.int .i64 0,.int .i64 0,.str [],.nilS,.int .i64 0,.int .i64 0,.str [],.nilS,.int .i64 0,.int .i64 0,.str [],.nilS,.int .i64 0,.int .i64 0,.str [],.nilS,.int .i64 0,.int .i64 0,.str [],.nilS,.int .i64 0,.int .i64 0,.str [],.nilS,.int .i64 0,.int .i64 0,.str [],.nilS,.int .i64 0,.int .i64 0,.str [],.nilS,.int .i64 0,.int .i64 0,.str [],.nilS,.int .i64 0,.int .i64 0,.str [],.nilS,.int .i64 0,.int .i64 0,.str [],.nilS,.int .i64 0,.int .i64 0,.str [],.nilS,.int .i64 0,.int .i64 0,.str [],.nilS,.int .i64 0,.int .i64 0,.str [],.nilS,.int .i64 0,.int .i64 0,.str [],.nilS,.int .i64 0,.int .i64 0,.str [],.nilS,.int .i64 0,.int .i64 0,.str [],.nilS,.int .i64 0,.int .i64 0,.str [],.nilS,.int .i64 0,.int .i64 0,.str [],.nilS,.int .i64 0,.int .i64 0,.str [],.nilS,.int .i64 0,.int .i64 0,.str [],.nilS,.int .i64 0,.int .i64 0,.str [],.nilS,.int .i64 0,.int .i64 0,.str [],.nilS,.int .i64 0,.int .i64 0,.str [],.nilS,.int .i64 0,.int .i64 0,.str [],.nilS,.int .i64 0,.int .i64 0,.str [],.nilS,.int .i64 0,.int .i64 0,.str [],.nilS,.int .i64 0,.int .i64 0,.str [],.nilS,.int .i64 0,.int .i64 0,.str [],.nilS,.int .i64 0,.int .i64 0,.str [],.nilS,.int .i64 0,.int .i64 0,.str [],.nilS,.int .i64 0,.int .i64 0,.str [],.nilS,.int .i64 0,.int .i64 0,.str [],.nilS,.int .i64 0,.int .i64 0,.str [],.nilS,.int .i64 0,.int .i64 0,.str [],.nilS,.int .i64 0,.int .i64 0,.str [],.nilS,.int .i64 0,.int .i64 0,.str [],.nilS,.int .i64 0,.int .i64 0,.str [],.nilS,.int .i64 0,.int .i64 0,.str [],.nilS,.int .i64 0,.int .i64 0,.str [],.nilS,.int .i64 0,.int .i64 0,.str [],.nilS,.int .i64 0,.int .i64 0,.str [],.nilS,.int .i64 0,.int .i64 0,.str [],.nilS,.int .i64 0,.int .i64 0,.str [],.nilS,.int .i64 0,.int .i64 0,.str [],.nilS,.int .i64 0,.int .i64 0,.str [],.nilS,.int .i64 0,.int .i64 0,.str [],.nilS,.int .i64 0,.int .i64 0,.str [],.nilS,.int .i64 0,.int .i64 0,.str [],.nilS,.int .i64 0,.int .i64 0,.str [],.nilS,.int .i64 0,.int .i64 0,.str [],.nilS,.int .i64 0,.int .i64 0,.str [],.nilS,.int .i64 0,.int .i64 0,.str [],.nilS,.int .i64 0,.int .i64 0,.str [],.nilS,.int .i64 0,.int .i64 0,.str [],.nilS,.int .i64 0,.int .i64 0,.str [],.nilS,.int .i64 0,.int .i64 0,.str [],.nilS,.int .i64 0,.int .i64 0,.str [],.nilS,.int .i64 0,.int .i64 0,.str [],.nilS,.int .i64 0,.int .i64 0,.str [],.nilS,.int .i64 0,.int .i64 0,.str [],.nilS,.int .i64 0,.int .i64 0,.str [],.nilS,.int .i64 0,.int .i64 0,.str [],.nilS,.int .i64 0,.int .i64 0,.str [],.nilS,.int .i64 0,.int .i64 0,.str [],.nilS,.int .i64 0,.int .i64 0,.str [],.nilS,.int .i64 0,.int .i64 0,.str [],.nilS,.int .i64 0,.int .i64 0,.str [],.nilS],false⟩ .leaf .leaf) (.node 272 ⟨.struct [(0,248),(2,270)],402,5616,[.int .u64 0,.int .u64 0,.int .i64 0,.int .i64 0,.str [],.nilS,.int .i64 0,.int .i64 0,.str [],.nilS,.int .i64 0,.int .i64 0,.str [],.nilS,.int .i64 0,.int .i64 0,.str [],.nilS,.int .i64 0,.int .i64 0,.str [],.nilS,.int .i64 0,.int .i64 0,.str [],.nilS,.int .i64 0,.int .i64 0,.str [],.nilS,.int .i64 0,.int .i64 0,.str [],.nilS,.int .i64 0,.int .i64 0,.str [],.nilS,.int .i64 0,.int .i64 0,.str [],.nilS,.int .i64 0,.int .i64 0,.str [],.nilS,.int .i64 0,.int .i64 0,.str [],.nilS,.int .i64 0,.int .i64 0,.str [],.nilS,.int .i64 0,.int .i64 0,.str [],.nilS,.int .i64 0,.int .i64 0,.str [],.nilS,.int .i64 0,.int .i64 0,.str [],.nilS,.int .i64 0,.int .i64 0,.str [],.nilS,.int .i64 0,.int .i64 0,.str [],.nilS,.int .i64 0,.int .i64 0,.str [],.nilS,.int .i64 0,.int .i64 0,.str [],.nilS,.int .i64 0,.int .i64 0,.str [],.nilS,.int .i64 0,.int .i64 0,.str [],.nilS,.int .i64 0,.int .i64 0,.str [],.nilS,.int .i64 0,.int .i64 0,.str [],.nilS,.int .i64 0,.int .i64 0,.str [],.nilS,.int .i64 0,.int .i64 0,.str [],.nilS,.int .i64 0,.int .i64 0,.str [],.nilS,.int .i64 0,.int .i64 0,.str [],.nilS,.int .i64 0,.int .i64 0,.str [],.nilS,.int .i64 0,.int .i64 0,.str [],.nilS,.int .i64 0,.int .i64 0,.str [],.nilS,.int .i64 0,.int .i64 0,.str [],.nilS,.int .i64 0,.int .i64 0,.str [],.nilS,.int .i64 0,.int .i64 0,.str [],.nilS,.int .i64 0,.int .i64 0,.str [],.nilS,.int .i64 0,.int .i64 0,.str [],.nilS,.int .i64 0,.int .i64 0,.str [],.nilS,.int .i64 0,.int .i64 0,.str [],.nilS,.int .i64 0,.int .i64 0,.str [],.nilS,.int .i64 0,.int .i64 0,.str [],.nilS,.int .i64 0,.int .i64 0,.str [],.nilS,.int .i64 0,.int .i64 0,.str [],.nilS,.int .i64 0,.int .i64 0,.str [],.nilS,.int .i64 0,.int .i64 0,.str [],.nilS,.int .i64 0,.int .i64 0,.str [],.nilS,.int .i64 0,.int .i64 0,.str [],.nilS,.int .i64 0,.int .i64 0,.str [],.nilS,.int .i64 0,.int .i64 0,.str [],.nilS,.int .i64 0,.int .i64 0,.str [],.nilS,.int .i64 0,.int .i64 0,.str [],.nilS,.int .i64 0,.int .i64 0,.str [],.nilS,.int .i64 0,.int .i64 0,.str [],.nilS,.int .i64 0,.int .i64 0,.str [],.nilS,.int .i64 0,.int .i64 0,.str [],.nilS,.int .i64 0,.int .i64 0,.str [],.nilS,.int .i64 0,.int .i64 0,.str [],.nilS,.int .i64 0,.int .i64 0,.str [],.nilS,.int .i64 0,.int .i64 0,.str [],.nilS,.int .i64 0,.int .i64 0,.str [],.nilS,.int .i64 0,.int .i64 0,.str [],.nilS,.int .i64 0,.int .i64 0,.str [],.nilS,.int .i64 0,.int .i64 0,.str [],.nilS,.int .i64 0,.int .i64 0,.str [],.nilS,.int .i64 0,.int .i64 0,.str [],.nilS,.int .i64 0,.int .i64 0,.str [],.nilS,.int .i64 0,.int .i64 0,.str [],.nilS,.int .i64 0,.int .i64 0,.str [],.nilS,.int .i64 0,.int .i64 0,.str [],.nilS,.int .i64 0,.int .i64 0,.str [],.nilS,.int .i64 0,.int .i64 0,.str [],.nilS,.int .i64 0,.int .i64 0,.str [],.nilS,.int .i64 0,.int .i64 0,.str [],.nilS,.int .i64 0,.int .i64 0,.str [],.nilS,.int .i64 0,.int .i64 0,.str [],.nilS,.int .i64 0,.int .i64 0,.str [],.nilS,.int .i64 0,.int .i64 0,.str [],.nilS,.int .i64 0,.int .i64 0,.str [],.nilS,.int .i64 0,.int .i64 0,.str [],.nilS,.int .i64 0,.int .i64 0,.str [],.nilS,.int .i64 0,.int .i64 0,.str [],.nilS,.int .i64 0,.int .i64 0,.str [],.nilS,.int .i64 0,.int .i64 0,.str [],.nilS,.int .i64 0,.int .i64 0,.str [],.nilS,.int .i64 0,.int .i64 0,.str [],.nilS,.int .i64 0,.int .i64 0,.str [],.nilS,.int .i64 0,.int .i64 0,.str [],.nilS,.int .i64 0,.int .i64 0,.str [],.nilS,.int .i64 0,.int .i64 0,.str [],.nilS,.int .i64 0,.int .i64 0,.str [],.nilS,.int .i64 0,.int .i64 0,.str [],.nilS,.int .i64 0,.int .i64 0,.str [],.nilS,.int .i64 0,.int .i64 0,.str [],.nilS,.int .i64 0,.int .i64 0,.str [],.nilS,.int .i64 0,.int .i64 0,.str [],.nilS,.int .i64 0,.int .i64 0,.str [],.nilS,.int .i64 0,.int .i64 0,.str [],.nilS,.int .i64 0,.int .i64 0,.str [],.nilS,.int .i64 0,.int .i64 0,.str [],.nilS,.int .i64 0,.int .i64 0,.str [],.nilS,.int .i64 0,.int .i64 0,.str [],.nilS],false⟩ .leaf .leaf))) (.node 277 ⟨.func,1,8,[.nilF],false⟩ (.node 275 ⟨.func,1,8,[.nilF],false⟩ (.node 274 ⟨.ptr 25,1,8,[.nilP],false⟩ .leaf .leaf) (.node 276 ⟨.func,1,8,[.nilF],false⟩ .leaf .leaf)) (.node 279 ⟨.func,1,8,[.nilF],false⟩ (.node 278 ⟨.func,1,8,[.nilF],false⟩ .leaf .leaf) .leaf))) (.node 292 ⟨.int .u8,1,1,[.int .u8 0],false⟩ (.node 288 ⟨.struct [(0,287)],0,0,[],false⟩ (.node 285 ⟨.struct [(0,17),(1,17),(2,17),(3,9)],4,40,[.nilP,.nilP,.nilP,.str []],false⟩ (.node 281 ⟨.func,1,8,[.nilF],false⟩ .leaf .leaf) (.node 287 ⟨.array 0 16,0,0,[],false⟩ .leaf .leaf)) (.node 291 ⟨.int .u8,1,1,[.int .u8 0],false⟩ (.node 290 ⟨.int .u32,1,4,[.int .u32 0],false⟩ .leaf .leaf) .leaf)) (.node 296 ⟨.int .i32,1,4,[.int .i32 0],false⟩ (.node 294 ⟨.ptr 5,1,8,[.nilP],false⟩ (.node 293 ⟨.func,1,8,[.nilF],false⟩ .leaf .leaf) (.node 295 ⟨.int .i32,1,4,[.int .i32 0],false⟩ .leaf .leaf)) (.node 298 ⟨.struct [(0,12),(1,12),(2,290),(3,291),(4,5),(5,5),(6,292),(7,293),(8,294),(9,295),(10,296)],11,48,zro0,false⟩ (.node 297 ⟨.struct [(0,12),(1,12),(2,290),(3,291),(4,5),(5,5),(6,292),(7,293),(8,294),(9,295),(10,296)],11,48,zro0,false⟩ .leaf .leaf) .leaf))))))
def qxh:BT CMode:=.node 158 (.scal) (.node 81 (.pown) (.node 45 (.pfrz) (.node 16 (.scal) (.node 11 (.pfrz) (.node 9 (.scal) (.node 8 (.scal) (.node 3 (.scal) .leaf .leaf) .leaf) (.node 10 (.pfrz) .leaf .leaf)) (.node 13 (.pfrz) (.node 12 (.pfrz) .leaf .leaf) (.node 14 (.scal) .leaf .leaf))) (.node 41 (.pown) (.node 19 (.pfrz) (.node 17 (.scal) .leaf .leaf) (.node 40 (.scal) .leaf .leaf)) (.node 43 (.obj) (.node 42 (.scal) .leaf .leaf) (.node 44 (.obj) .leaf .leaf)))) (.node 54 (.pfrz) (.node 50 (.obj) (.node 48 (.scal) (.node 47 (.scal) (.node 46 (.pfrz) .leaf .leaf) .leaf) (.node 49 (.obj) .leaf .leaf)) (.node 52 (.scal) (.node 51 (.pfrz) .leaf .leaf) (.node 53 (.pfrz) .leaf .leaf))) (.node 58 (.pfrz) (.node 56 (.pfrz) (.node 55 (.pfrz) .leaf .leaf) (.node 57 (.obj) .leaf .leaf)) (.node 63 (.obj) (.node 62 (.scal) .leaf .leaf) (.node 78 (.pown) .leaf .leaf))))) (.node 105 (.obj) (.node 97 (.obj) (.node 93 (.obj) (.node 91 (.obj) (.node 90 (.obj) (.node 83 (.scal) .leaf .leaf) .leaf) (.node 92 (.obj) .leaf .leaf)) (.node 95 (.scal) (.node 94 (.slf) .leaf .leaf) (.node 96 (.scal) .leaf .leaf))) (.node 101 (.pfrz) (.node 99 (.obj) (.node 98 (.obj) .leaf .leaf) (.node 100 (.obj) .leaf .leaf)) (.node 103 (.pfrz) (.node 102 (.pfrz) .leaf .leaf) (.node 104 (.obj) .leaf .leaf)))) (.node 134 (.scal) (.node 114 (.obj) (.node 112 (.scal) (.node 106 (.inpl) .leaf .leaf) (.node 113 (.scal) .leaf .leaf)) (.node 130 (.pfrz) (.node 115 (.obj) .leaf .leaf) (.node 133 (.scal) .leaf .leaf))) (.node 154 (.obj) (.node 152 (.obj) (.node 151 (.scal) .leaf .leaf) (.node 153 (.pfrz) .leaf .leaf)) (.node 156 (.scal) (.node 155 (.pfrz) .leaf .leaf) (.node 157 (.obj) .leaf .leaf)))))) (.node 236 (.scal) (.node 189 (.scal) (.node 167 (.obj) (.node 163 (.pfrz) (.node 161 (.obj) (.node 160 (.obj) (.node 159 (.obj) .leaf .leaf) .leaf) (.node 162 (.obj) .leaf .leaf)) (.node 165 (.pfrz) (.node 164 (.obj) .leaf .leaf) (.node 166 (.scal) .leaf .leaf))) (.node 174 (.pfrz) (.node 172 (.scal) (.node 168 (.scal) .leaf .leaf) (.node 173 (.scal) .leaf .leaf)) (.node 176 (.scal) (.node 175 (.scal) .leaf .leaf) (.node 179 (.scal) .leaf .leaf)))) (.node 213 (.scal) (.node 206 (.scal) (.node 204 (.scal) (.node 191 (.pfrz) (.node 190 (.pfrz) .leaf .leaf) .leaf) (.node 205 (.inpf) .leaf .leaf)) (.node 211 (.scal) (.node 207 (.pfrz) .leaf .leaf) (.node 212 (.scal) .leaf .leaf))) (.node 230 (.inpf) (.node 226 (.inpl) (.node 214 (.pfrz) .leaf .leaf) (.node 227 (.scal) .leaf .leaf)) (.node 232 (.pfrz) (.node 231 (.inpf) .leaf .leaf) (.node 233 (.pfrz) .leaf .leaf))))) (.node 262 (.pfrz) (.node 254 (.scal) (.node 250 (.inpf) (.node 248 (.inpf) (.node 247 (.pfrz) (.node 244 (.inpl) .leaf .leaf) .leaf) (.node 249 (.inpl) .leaf .leaf)) (.node 252 (.scal) (.node 251 (.inpf) .leaf .leaf) (.node 253 (.inpf) .leaf .leaf))) (.node 258 (.scal) (.node 256 (.scal) (.node 255 (.pfrz) .leaf .leaf) (.node 257 (.pfrz) .leaf .leaf)) (.node 260 (.scal) (.node 259 (.scal) .leaf .leaf) (.node 261 (.scal) .leaf .leaf)))) (.node 273 (.scal) (.node 269 (.scal) (.node 267 (.scal) (.node 265 (.pfrz) .leaf .leaf) (.node 268 (.scal) .leaf .leaf)) (.node 271 (.inpf) (.node 270 (.scal) .leaf .leaf) (.node 272 (.scal) .leaf .leaf))) (.node 278 (.scal) (.node 275 (.pfrz) (.node 274 (.scal) .leaf .leaf) (.node 277 (.scal) .leaf .leaf)) (.node 280 (.scal) (.node 279 (.scal) .leaf .leaf) (.node 281 (.scal) .leaf .leaf))))))
def qyf:BT (BT (List Nat)):=.node 91 (.node 21 ([3]) .leaf .leaf) (.node 53 (.node 1 ([3,7,9,11]) .leaf .leaf) (.node 19 (.node 10 ([4]) .leaf .leaf) (.node 17 (.node 6 ([4]) .leaf .leaf) .leaf .leaf) .leaf) (.node 58 (.node 1 ([1]) .leaf .leaf) .leaf .leaf)) (.node 153 (.node 3 ([3]) .leaf .leaf) (.node 101 (.node 5 ([6]) .leaf .leaf) (.node 98 (.node 14 ([2]) .leaf .leaf) .leaf .leaf) .leaf) (.node 163 (.node 5 ([6]) .leaf .leaf) .leaf .leaf))
def qmA{α:Type}(a b:Nat)(t:BT (BT α)):Option α:=match t.look a with|some u=>u.look b|none=>none
def qxp(f r k:Nat):Bool:=match qmA f r qyf with|some l=>x8 k l|none=>false
def qxi:BT (BT (List Tmp×List Tmp)):=.node 114 (.node 1 ([0,6,7,8],[]) .leaf .leaf) (.node 57 (.node 11 ([0,4,7,37,38,39],[0,4,7]) (.node 4 ([0,3,4,20,21,22],[0,3,4]) .leaf .leaf) .leaf) (.node 16 (.node 4 ([0,1,5],[4]) .leaf .leaf) (.node 12 (.node 6 ([0,6,10,11,12],[6,7,8,9,11]) .leaf .leaf) (.node 8 (.node 2 ([0,3],[2]) .leaf .leaf) (.node 3 (.node 4 ([0,2,4,7],[0,2,4,6]) .leaf .leaf) .leaf .leaf) (.node 10 (.node 3 ([0,3,4],[3]) .leaf .leaf) .leaf .leaf)) (.node 15 (.node 2 ([1,2],[]) .leaf .leaf) (.node 13 (.node 7 ([0,6,10,11,12],[6,7,8,9,11]) .leaf .leaf) .leaf .leaf) .leaf)) (.node 51 (.node 3 ([1,2,3,4],[1,2,3]) .leaf .leaf) (.node 40 (.node 5 ([1,2,5,6],[5]) .leaf .leaf) (.node 19 (.node 6 ([6,19,20,21],[6]) .leaf .leaf) .leaf .leaf) (.node 41 (.node 3 ([0,3,4],[3]) .leaf .leaf) .leaf .leaf)) (.node 56 (.node 5 ([4,16,17,18],[4]) .leaf .leaf) (.node 52 (.node 4 ([0,1,5],[4]) .leaf .leaf) .leaf .leaf) .leaf))) (.node 95 (.node 4 ([1,3],[2]) .leaf .leaf) (.node 90 (.node 15 ([2],[41,97,108]) .leaf .leaf) (.node 81 (.node 7 ([2,3,4],[2,3,4,5]) .leaf .leaf) (.node 58 (.node 3 ([3,8,9],[3]) .leaf .leaf) .leaf .leaf) (.node 83 (.node 4 ([2,3],[2,3]) .leaf .leaf) .leaf .leaf)) (.node 94 (.node 6 ([1,2,3,4,18,19,20],[2,3,4]) .leaf .leaf) (.node 91 (.node 15 ([0,7,48],[0,7]) .leaf .leaf) .leaf .leaf) .leaf)) (.node 101 (.node 3 ([0,2,3,4],[2,3]) .leaf .leaf) (.node 97 (.node 10 ([0,5,7],[]) .leaf .leaf) (.node 96 (.node 6 ([1,3,4],[3]) .leaf .leaf) .leaf .leaf) (.node 98 (.node 11 ([0,5,6],[0,5]) .leaf .leaf) .leaf .leaf)) (.node 106 (.node 1 ([0,1,6,7],[]) .leaf .leaf) (.node 103 (.node 3 ([3,6,7,8],[3]) .leaf .leaf) .leaf .leaf) .leaf)))) (.node 190 (.node 11 ([3,7,29],[7]) (.node 6 ([3],[3]) .leaf .leaf) .leaf) (.node 160 (.node 2 ([0,1,4,6],[4,5]) .leaf .leaf) (.node 155 (.node 4 ([0,1,2,6,24,25,26],[0,1,2,6,7]) .leaf .leaf) (.node 151 (.node 9 ([5,6,70,71],[5]) (.node 2 ([5],[4]) .leaf .leaf) .leaf) (.node 130 (.node 14 ([2,4,5,73,74,77,78,79],[2,3,4,5,73,74]) (.node 11 ([2,4,5,73,74],[2,3,4]) .leaf .leaf) .leaf) .leaf .leaf) (.node 153 (.node 3 ([3],[3,4]) .leaf .leaf) .leaf .leaf)) (.node 159 (.node 4 ([0,1,5,6,7,8],[0,1,5,6,7]) .leaf .leaf) (.node 158 (.node 4 ([2,3,5],[4]) .leaf .leaf) .leaf .leaf) .leaf)) (.node 176 (.node 5 ([4,32,33,34],[2,3,4]) .leaf .leaf) (.node 165 (.node 4 ([0,1,2,6,8],[0,1,2,6,7]) .leaf .leaf) (.node 163 (.node 3 ([0,2,3,4],[2,3]) .leaf .leaf) .leaf .leaf) (.node 167 (.node 16 ([3,69,70,71],[]) .leaf .leaf) .leaf .leaf)) (.node 188 (.node 0 ([0,1,2],[1,2]) .leaf .leaf) (.node 179 (.node 3 ([1,5,6],[4]) .leaf .leaf) .leaf .leaf) .leaf))) (.node 251 (.node 4 ([7],[0,5,6,7]) .leaf .leaf) (.node 211 (.node 2 ([0,1,7,8],[4]) .leaf .leaf) (.node 192 (.node 7 ([3],[0,3]) (.node 1 ([0,3],[]) .leaf .leaf) .leaf) (.node 191 (.node 5 ([4],[4,5]) .leaf .leaf) .leaf .leaf) (.node 203 (.node 1 ([0,1,3],[]) .leaf .leaf) .leaf .leaf)) (.node 246 (.node 1 ([0,3],[]) .leaf .leaf) (.node 236 (.node 2 ([0,1,7,8],[4]) .leaf .leaf) .leaf .leaf) .leaf)) (.node 274 (.node 3 ([0,1,5,6],[5]) .leaf .leaf) (.node 256 (.node 2 ([1,4],[1,4]) .leaf .leaf) (.node 252 (.node 1 ([2,3],[4]) .leaf .leaf) .leaf .leaf) (.node 269 (.node 3 ([3,6,7,8],[2,3]) .leaf .leaf) .leaf .leaf)) (.node 279 (.node 2 ([0,1,2,11,12,13],[0,1,6]) .leaf .leaf) (.node 276 (.node 0 ([0,1],[]) .leaf .leaf) .leaf .leaf) .leaf))))
def qym:BT (BT (List Tmp)):=.leaf
def qxl:BT (BT (List (Tmp×Nat))):=.node 98 (.node 11 ([(5,4)]) .leaf .leaf) (.node 81 (.node 7 ([(2,6),(4,6)]) (.node 0 ([(2,6)]) .leaf .leaf) .leaf) (.node 49 (.node 0 ([(9,1004),(12,1004),(15,1005)]) .leaf .leaf) (.node 41 (.node 3 ([(3,4)]) (.node 0 ([(2,4)]) .leaf .leaf) .leaf) (.node 10 (.node 3 ([(3,7)]) .leaf .leaf) .leaf .leaf) (.node 43 (.node 0 ([(13,1004),(15,1004)]) .leaf .leaf) .leaf .leaf)) (.node 78 (.node 0 ([(2,7)]) .leaf .leaf) (.node 51 (.node 3 ([(3,4)]) .leaf .leaf) .leaf .leaf) .leaf)) (.node 92 (.node 0 ([(69,1004)]) .leaf .leaf) (.node 91 (.node 15 ([(7,4)]) .leaf .leaf) (.node 90 (.node 0 ([(41,1004),(97,1004),(108,1004)]) .leaf .leaf) .leaf .leaf) .leaf) (.node 97 (.node 0 ([(91,1004)]) .leaf .leaf) (.node 93 (.node 0 ([(54,1004),(65,1004),(95,1004)]) .leaf .leaf) .leaf .leaf) .leaf))) (.node 161 (.node 0 ([(16,1004)]) .leaf .leaf) (.node 152 (.node 0 ([(18,1004)]) .leaf .leaf) (.node 151 (.node 9 ([(5,8)]) (.node 2 ([(5,8)]) .leaf .leaf) .leaf) (.node 103 (.node 3 ([(3,4)]) .leaf .leaf) .leaf .leaf) .leaf) (.node 159 (.node 4 ([(6,5)]) (.node 0 ([(69,1005)]) .leaf .leaf) .leaf) (.node 157 (.node 0 ([(33,1004)]) .leaf .leaf) .leaf .leaf) .leaf)) (.node 191 (.node 5 ([(4,4)]) .leaf .leaf) (.node 190 (.node 11 ([(7,1)]) .leaf .leaf) (.node 164 (.node 0 ([(44,1004)]) .leaf .leaf) .leaf .leaf) .leaf) (.node 246 (.node 1 ([(3,4)]) .leaf .leaf) (.node 192 (.node 7 ([(3,4)]) (.node 1 ([(3,4)]) .leaf .leaf) .leaf) .leaf .leaf) .leaf)))
def z3(f:Nat):List (Nat×(List AV->AH->Option (AV×AH)))->Option (List AV->AH->Option (AV×AH))
 |[]=>none
 |p::l=>if qzP p.1 f then some p.2 else z3 f l
def qyr:BT TypeId:=.leaf
def quN:BT (List (Nat×Nat×Nat)):=.node 100 ([(0,5,1004),(0,6,1004),(0,7,1005)]) (.node 90 ([(0,5,1004),(0,6,1004)]) (.node 50 ([(0,5,1004),(0,6,1004),(0,7,1005)]) (.node 44 ([(0,5,1004),(0,6,1004)]) (.node 43 ([(0,5,1004),(0,6,1004)]) .leaf .leaf) (.node 49 ([(0,5,1004),(0,6,1004),(0,7,1005)]) .leaf .leaf)) (.node 63 ([(0,0,7)]) (.node 57 ([(0,0,7)]) .leaf .leaf) .leaf)) (.node 97 ([(0,5,1004),(0,6,1004),(0,7,1005)]) (.node 92 ([(0,5,1004),(0,6,1004)]) (.node 91 ([(0,5,1004),(0,6,1004)]) .leaf .leaf) (.node 93 ([(0,5,1004),(0,6,1004)]) .leaf .leaf)) (.node 99 ([(0,5,1004),(0,6,1004),(0,7,1005)]) (.node 98 ([(0,5,1004),(0,6,1004),(0,7,1005)]) .leaf .leaf) .leaf))) (.node 157 ([(0,5,1004),(0,6,1004),(0,7,1005)]) (.node 115 ([(0,0,7)]) (.node 105 ([(0,0,7)]) (.node 104 ([(0,0,7)]) .leaf .leaf) (.node 114 ([(0,0,7)]) .leaf .leaf)) (.node 154 ([]) (.node 152 ([(0,5,1004),(0,6,1004)]) .leaf .leaf) .leaf)) (.node 162 ([(0,5,1004),(0,6,1004),(0,7,1005)]) (.node 160 ([(0,5,1004),(0,6,1004),(0,7,1005)]) (.node 159 ([(0,5,1004),(0,6,1004),(0,7,1005)]) .leaf .leaf) (.node 161 ([(0,5,1004),(0,6,1004),(0,7,1005)]) .leaf .leaf)) (.node 167 ([(4,0,7)]) (.node 164 ([(0,5,1004),(0,6,1004),(0,7,1005)]) .leaf .leaf) .leaf)))
def quO:BT Nat:=.node 100 (0) (.node 90 (0) (.node 50 (0) (.node 44 (0) (.node 43 (0) .leaf .leaf) (.node 49 (0) .leaf .leaf)) (.node 63 (0) (.node 57 (0) .leaf .leaf) .leaf)) (.node 97 (0) (.node 92 (0) (.node 91 (0) .leaf .leaf) (.node 93 (0) .leaf .leaf)) (.node 99 (0) (.node 98 (0) .leaf .leaf) .leaf))) (.node 157 (0) (.node 115 (0) (.node 105 (0) (.node 104 (0) .leaf .leaf) (.node 114 (0) .leaf .leaf)) (.node 154 (0) (.node 152 (0) .leaf .leaf) .leaf)) (.node 162 (0) (.node 160 (0) (.node 159 (0) .leaf .leaf) (.node 161 (0) .leaf .leaf)) (.node 167 (5) (.node 164 (0) .leaf .leaf) .leaf)))
def qx3:BT (List BSh):=.node 100 ([.row false [.leaf (.int .i64),.leaf (.int .i64),.leaf .str,.leaf .sl,.leaf (.int .i64),.sl 1,.sl 2,.sl 3,.leaf .bool],.rows true 4,.rows true 4,.rows true 5]) (.node 90 ([.row false [.leaf (.int .i64),.leaf (.int .i64),.leaf .str,.leaf .sl,.leaf (.int .i64),.sl 1,.sl 2,.mp 3,.leaf .bool],.rows true 4,.rows true 4,.mp true]) (.node 50 ([.row false [.leaf (.int .i64),.leaf (.int .i64),.leaf .str,.leaf .sl,.leaf (.int .i64),.sl 1,.sl 2,.sl 3,.leaf .bool],.rows true 4,.rows true 4,.rows true 5]) (.node 44 ([.row false [.leaf (.int .i64),.leaf (.int .i64),.leaf .str,.leaf .sl,.leaf (.int .i64),.sl 1,.sl 2,.mp 3,.leaf .bool],.rows true 4,.rows true 4,.mp true]) (.node 43 ([.row false [.leaf (.int .i64),.leaf (.int .i64),.leaf .str,.leaf .sl,.leaf (.int .i64),.sl 1,.sl 2,.mp 3,.leaf .bool],.rows true 4,.rows true 4,.mp true]) .leaf .leaf) (.node 49 ([.row false [.leaf (.int .i64),.leaf (.int .i64),.leaf .str,.leaf .sl,.leaf (.int .i64),.sl 1,.sl 2,.sl 3,.leaf .bool],.rows true 4,.rows true 4,.rows true 5]) .leaf .leaf)) (.node 63 ([.row false [.sl 1],.rows true 7]) (.node 57 ([.row false [.sl 1],.rows true 7]) .leaf .leaf) .leaf)) (.node 97 ([.row false [.leaf (.int .i64),.leaf (.int .i64),.leaf .str,.leaf .sl,.leaf (.int .i64),.sl 1,.sl 2,.sl 3,.leaf .bool],.rows true 4,.rows true 4,.rows true 5]) (.node 92 ([.row false [.leaf (.int .i64),.leaf (.int .i64),.leaf .str,.leaf .sl,.leaf (.int .i64),.sl 1,.sl 2,.mp 3,.leaf .bool],.rows true 4,.rows true 4,.mp true]) (.node 91 ([.row false [.leaf (.int .i64),.leaf (.int .i64),.leaf .str,.leaf .sl,.leaf (.int .i64),.sl 1,.sl 2,.mp 3,.leaf .bool],.rows true 4,.rows true 4,.mp true]) .leaf .leaf) (.node 93 ([.row false [.leaf (.int .i64),.leaf (.int .i64),.leaf .str,.leaf .sl,.leaf (.int .i64),.sl 1,.sl 2,.mp 3,.leaf .bool],.rows true 4,.rows true 4,.mp true]) .leaf .leaf)) (.node 99 ([.row false [.leaf (.int .i64),.leaf (.int .i64),.leaf .str,.leaf .sl,.leaf (.int .i64),.sl 1,.sl 2,.sl 3,.leaf .bool],.rows true 4,.rows true 4,.rows true 5]) (.node 98 ([.row false [.leaf (.int .i64),.leaf (.int .i64),.leaf .str,.leaf .sl,.leaf (.int .i64),.sl 1,.sl 2,.sl 3,.leaf .bool],.rows true 4,.rows true 4,.rows true 5]) .leaf .leaf) .leaf))) (.node 157 ([.row false [.leaf (.int .i64),.leaf (.int .i64),.leaf .str,.leaf .sl,.leaf (.int .i64),.sl 1,.sl 2,.sl 3,.leaf .bool],.rows true 4,.rows true 4,.rows true 5]) (.node 115 ([.row false [.sl 1],.rows true 7]) (.node 105 ([.row false [.sl 1],.rows true 7]) (.node 104 ([.row false [.sl 1],.rows true 7]) .leaf .leaf) (.node 114 ([.row false [.sl 1],.rows true 7]) .leaf .leaf)) (.node 154 ([.rows true 4]) (.node 152 ([.row false [.leaf (.int .i64),.leaf (.int .i64),.leaf .str,.leaf .sl,.leaf (.int .i64),.sl 1,.sl 2,.mp 3,.leaf .bool],.rows true 4,.rows true 4,.mp true]) .leaf .leaf) .leaf)) (.node 162 ([.row false [.leaf (.int .i64),.leaf (.int .i64),.leaf .str,.leaf .sl,.leaf (.int .i64),.sl 1,.sl 2,.sl 3,.leaf .bool],.rows true 4,.rows true 4,.rows true 5]) (.node 160 ([.row false [.leaf (.int .i64),.leaf (.int .i64),.leaf .str,.leaf .sl,.leaf (.int .i64),.sl 1,.sl 2,.sl 3,.leaf .bool],.rows true 4,.rows true 4,.rows true 5]) (.node 159 ([.row false [.leaf (.int .i64),.leaf (.int .i64),.leaf .str,.leaf .sl,.leaf (.int .i64),.sl 1,.sl 2,.sl 3,.leaf .bool],.rows true 4,.rows true 4,.rows true 5]) .leaf .leaf) (.node 161 ([.row false [.leaf (.int .i64),.leaf (.int .i64),.leaf .str,.leaf .sl,.leaf (.int .i64),.sl 1,.sl 2,.sl 3,.leaf .bool],.rows true 4,.rows true 4,.rows true 5]) .leaf .leaf)) (.node 167 ([.row false [.mp 3],.row false [.ptr 4],.row false [.is (.fn (.func 167) [] [.ptr 0 0 0,.ptr 1 0 0,.ptr 2 0 0])],.mp true,.row false [.sl 5],.rows true 7]) (.node 164 ([.row false [.leaf (.int .i64),.leaf (.int .i64),.leaf .str,.leaf .sl,.leaf (.int .i64),.sl 1,.sl 2,.sl 3,.leaf .bool],.rows true 4,.rows true 4,.rows true 5]) .leaf .leaf) .leaf)))
def qyc:BT Unit:=.node 154 (()) .leaf .leaf
def qqj:List (Nat×(List AV->AH->Option (AV×AH))):=[]
def qgv:List (Nat×(List AV->AH->Option (AV×AH))):=(281,qev)::qqj
theorem qj5:qqj=[]:=rfl
def qu3:BT Unit:=.node 159 (()) (.node 83 (()) (.node 45 (()) (.node 15 (()) (.node 11 (()) (.node 9 (()) (.node 8 (()) (.node 3 (()) .leaf .leaf) .leaf) (.node 10 (()) .leaf .leaf)) (.node 13 (()) (.node 12 (()) .leaf .leaf) (.node 14 (()) .leaf .leaf))) (.node 41 (()) (.node 19 (()) (.node 17 (()) (.node 16 (()) .leaf .leaf) .leaf) (.node 40 (()) .leaf .leaf)) (.node 43 (()) (.node 42 (()) .leaf .leaf) (.node 44 (()) .leaf .leaf)))) (.node 54 (()) (.node 50 (()) (.node 48 (()) (.node 47 (()) (.node 46 (()) .leaf .leaf) .leaf) (.node 49 (()) .leaf .leaf)) (.node 52 (()) (.node 51 (()) .leaf .leaf) (.node 53 (()) .leaf .leaf))) (.node 62 (()) (.node 57 (()) (.node 56 (()) (.node 55 (()) .leaf .leaf) .leaf) (.node 58 (()) .leaf .leaf)) (.node 78 (()) (.node 63 (()) .leaf .leaf) (.node 81 (()) .leaf .leaf))))) (.node 112 (()) (.node 98 (()) (.node 94 (()) (.node 92 (()) (.node 91 (()) (.node 90 (()) .leaf .leaf) .leaf) (.node 93 (()) .leaf .leaf)) (.node 96 (()) (.node 95 (()) .leaf .leaf) (.node 97 (()) .leaf .leaf))) (.node 103 (()) (.node 101 (()) (.node 100 (()) (.node 99 (()) .leaf .leaf) .leaf) (.node 102 (()) .leaf .leaf)) (.node 105 (()) (.node 104 (()) .leaf .leaf) (.node 106 (()) .leaf .leaf)))) (.node 150 (()) (.node 130 (()) (.node 115 (()) (.node 114 (()) (.node 113 (()) .leaf .leaf) .leaf) (.node 129 (()) .leaf .leaf)) (.node 133 (()) (.node 132 (()) .leaf .leaf) (.node 134 (()) .leaf .leaf))) (.node 155 (()) (.node 153 (()) (.node 152 (()) (.node 151 (()) .leaf .leaf) .leaf) (.node 154 (()) .leaf .leaf)) (.node 157 (()) (.node 156 (()) .leaf .leaf) (.node 158 (()) .leaf .leaf)))))) (.node 233 (()) (.node 190 (()) (.node 168 (()) (.node 164 (()) (.node 162 (()) (.node 161 (()) (.node 160 (()) .leaf .leaf) .leaf) (.node 163 (()) .leaf .leaf)) (.node 166 (()) (.node 165 (()) .leaf .leaf) (.node 167 (()) .leaf .leaf))) (.node 176 (()) (.node 174 (()) (.node 173 (()) (.node 172 (()) .leaf .leaf) .leaf) (.node 175 (()) .leaf .leaf)) (.node 188 (()) (.node 179 (()) .leaf .leaf) (.node 189 (()) .leaf .leaf)))) (.node 212 (()) (.node 205 (()) (.node 203 (()) (.node 192 (()) (.node 191 (()) .leaf .leaf) .leaf) (.node 204 (()) .leaf .leaf)) (.node 207 (()) (.node 206 (()) .leaf .leaf) (.node 211 (()) .leaf .leaf))) (.node 227 (()) (.node 225 (()) (.node 214 (()) (.node 213 (()) .leaf .leaf) .leaf) (.node 226 (()) .leaf .leaf)) (.node 231 (()) (.node 230 (()) .leaf .leaf) (.node 232 (()) .leaf .leaf))))) (.node 261 (()) (.node 252 (()) (.node 248 (()) (.node 246 (()) (.node 244 (()) (.node 236 (()) .leaf .leaf) .leaf) (.node 247 (()) .leaf .leaf)) (.node 250 (()) (.node 249 (()) .leaf .leaf) (.node 251 (()) .leaf .leaf))) (.node 257 (()) (.node 255 (()) (.node 254 (()) (.node 253 (()) .leaf .leaf) .leaf) (.node 256 (()) .leaf .leaf)) (.node 259 (()) (.node 258 (()) .leaf .leaf) (.node 260 (()) .leaf .leaf)))) (.node 272 (()) (.node 268 (()) (.node 266 (()) (.node 265 (()) (.node 262 (()) .leaf .leaf) .leaf) (.node 267 (()) .leaf .leaf)) (.node 270 (()) (.node 269 (()) .leaf .leaf) (.node 271 (()) .leaf .leaf))) (.node 277 (()) (.node 275 (()) (.node 274 (()) (.node 273 (()) .leaf .leaf) .leaf) (.node 276 (()) .leaf .leaf)) (.node 279 (()) (.node 278 (()) .leaf .leaf) (.node 280 (()) .leaf .leaf))))))
def qyl:BT Unit:=.node 99 (()) (.node 25 (()) (.node 23 (()) (.node 22 (()) .leaf .leaf) .leaf) (.node 93 (()) (.node 29 (()) .leaf .leaf) .leaf)) (.node 205 (()) (.node 188 (()) (.node 106 (()) .leaf .leaf) .leaf) (.node 236 (()) .leaf .leaf))
def qys:BT Unit:=.node 205 (()) .leaf .leaf
def qxZ:BT Unit:=.node 40 (()) .leaf .leaf
def qyk:BT Unit:=.leaf
def qx1:BT (List Nat):=.node 144 ([99,4]) (.node 77 ([65,32]) (.node 56 ([54,55]) (.node 42 ([22,32]) (.node 33 ([25,4,3,32]) .leaf .leaf) (.node 48 ([25,4,32]) .leaf .leaf)) (.node 62 ([61,32]) (.node 59 ([58,32]) .leaf .leaf) .leaf)) (.node 114 ([3,32]) (.node 111 ([3,25,32]) (.node 100 ([99,32]) .leaf .leaf) .leaf) (.node 132 ([118,32]) (.node 116 ([25,32]) .leaf .leaf) .leaf))) (.node 192 ([4,4]) (.node 170 ([106,4]) (.node 150 ([3,4]) (.node 146 ([22,40]) .leaf .leaf) (.node 156 ([25,4]) .leaf .leaf)) (.node 190 ([23,4]) (.node 172 ([9,32]) .leaf .leaf) .leaf)) (.node 228 ([118,4]) (.node 208 ([3,3,32]) (.node 202 ([93,4]) .leaf .leaf) .leaf) (.node 282 ([118,118]) (.node 242 ([40,4]) .leaf .leaf) .leaf)))
def qjR:List (Nat×Func):=[(129,Tryz.f129),(132,Tryz.f132),(150,Tryz.f150),(188,Tryz.f188),(192,Tryz.f192),(203,Tryz.f203),(225,Tryz.f225),(246,Tryz.f246),(266,Tryz.f266),(276,Tryz.f276)]
def qrV:BT Func:=.node 159 (Tryz.f159) (.node 83 (Tryz.f83) (.node 45 (Tryz.f45) (.node 15 (Tryz.f15) (.node 11 (Tryz.f11) (.node 9 (Tryz.f9) (.node 8 (Tryz.f8) (.node 3 (Tryz.f3) .leaf .leaf) .leaf) (.node 10 (Tryz.f10) .leaf .leaf)) (.node 13 (Tryz.f13) (.node 12 (Tryz.f12) .leaf .leaf) (.node 14 (Tryz.f14) .leaf .leaf))) (.node 41 (Tryz.f41) (.node 19 (Tryz.f19) (.node 17 (Tryz.f17) (.node 16 (Tryz.f16) .leaf .leaf) .leaf) (.node 40 (Tryz.f40) .leaf .leaf)) (.node 43 (Tryz.f43) (.node 42 (Tryz.f42) .leaf .leaf) (.node 44 (Tryz.f44) .leaf .leaf)))) (.node 54 (Tryz.f54) (.node 50 (Tryz.f50) (.node 48 (Tryz.f48) (.node 47 (Tryz.f47) (.node 46 (Tryz.f46) .leaf .leaf) .leaf) (.node 49 (Tryz.f49) .leaf .leaf)) (.node 52 (Tryz.f52) (.node 51 (Tryz.f51) .leaf .leaf) (.node 53 (Tryz.f53) .leaf .leaf))) (.node 62 (Tryz.f62) (.node 57 (Tryz.f57) (.node 56 (Tryz.f56) (.node 55 (Tryz.f55) .leaf .leaf) .leaf) (.node 58 (Tryz.f58) .leaf .leaf)) (.node 78 (Tryz.f78) (.node 63 (Tryz.f63) .leaf .leaf) (.node 81 (Tryz.f81) .leaf .leaf))))) (.node 112 (Tryz.f112) (.node 98 (Tryz.f98) (.node 94 (Tryz.f94) (.node 92 (Tryz.f92) (.node 91 (Tryz.f91) (.node 90 (Tryz.f90) .leaf .leaf) .leaf) (.node 93 (Tryz.f93) .leaf .leaf)) (.node 96 (Tryz.f96) (.node 95 (Tryz.f95) .leaf .leaf) (.node 97 (Tryz.f97) .leaf .leaf))) (.node 103 (Tryz.f103) (.node 101 (Tryz.f101) (.node 100 (Tryz.f100) (.node 99 (Tryz.f99) .leaf .leaf) .leaf) (.node 102 (Tryz.f102) .leaf .leaf)) (.node 105 (Tryz.f105) (.node 104 (Tryz.f104) .leaf .leaf) (.node 106 (Tryz.f106) .leaf .leaf)))) (.node 150 (Tryz.f150) (.node 130 (Tryz.f130) (.node 115 (Tryz.f115) (.node 114 (Tryz.f114) (.node 113 (Tryz.f113) .leaf .leaf) .leaf) (.node 129 (Tryz.f129) .leaf .leaf)) (.node 133 (Tryz.f133) (.node 132 (Tryz.f132) .leaf .leaf) (.node 134 (Tryz.f134) .leaf .leaf))) (.node 155 (Tryz.f155) (.node 153 (Tryz.f153) (.node 152 (Tryz.f152) (.node 151 (Tryz.f151) .leaf .leaf) .leaf) (.node 154 (Tryz.f154) .leaf .leaf)) (.node 157 (Tryz.f157) (.node 156 (Tryz.f156) .leaf .leaf) (.node 158 (Tryz.f158) .leaf .leaf)))))) (.node 233 (Tryz.f233) (.node 190 (Tryz.f190) (.node 168 (Tryz.f168) (.node 164 (Tryz.f164) (.node 162 (Tryz.f162) (.node 161 (Tryz.f161) (.node 160 (Tryz.f160) .leaf .leaf) .leaf) (.node 163 (Tryz.f163) .leaf .leaf)) (.node 166 (Tryz.f166) (.node 165 (Tryz.f165) .leaf .leaf) (.node 167 (Tryz.f167) .leaf .leaf))) (.node 176 (Tryz.f176) (.node 174 (Tryz.f174) (.node 173 (Tryz.f173) (.node 172 (Tryz.f172) .leaf .leaf) .leaf) (.node 175 (Tryz.f175) .leaf .leaf)) (.node 188 (Tryz.f188) (.node 179 (Tryz.f179) .leaf .leaf) (.node 189 (Tryz.f189) .leaf .leaf)))) (.node 212 (Tryz.f212) (.node 205 (Tryz.f205) (.node 203 (Tryz.f203) (.node 192 (Tryz.f192) (.node 191 (Tryz.f191) .leaf .leaf) .leaf) (.node 204 (Tryz.f204) .leaf .leaf)) (.node 207 (Tryz.f207) (.node 206 (Tryz.f206) .leaf .leaf) (.node 211 (Tryz.f211) .leaf .leaf))) (.node 227 (Tryz.f227) (.node 225 (Tryz.f225) (.node 214 (Tryz.f214) (.node 213 (Tryz.f213) .leaf .leaf) .leaf) (.node 226 (Tryz.f226) .leaf .leaf)) (.node 231 (Tryz.f231) (.node 230 (Tryz.f230) .leaf .leaf) (.node 232 (Tryz.f232) .leaf .leaf))))) (.node 261 (Tryz.f261) (.node 252 (Tryz.f252) (.node 248 (Tryz.f248) (.node 246 (Tryz.f246) (.node 244 (Tryz.f244) (.node 236 (Tryz.f236) .leaf .leaf) .leaf) (.node 247 (Tryz.f247) .leaf .leaf)) (.node 250 (Tryz.f250) (.node 249 (Tryz.f249) .leaf .leaf) (.node 251 (Tryz.f251) .leaf .leaf))) (.node 257 (Tryz.f257) (.node 255 (Tryz.f255) (.node 254 (Tryz.f254) (.node 253 (Tryz.f253) .leaf .leaf) .leaf) (.node 256 (Tryz.f256) .leaf .leaf)) (.node 259 (Tryz.f259) (.node 258 (Tryz.f258) .leaf .leaf) (.node 260 (Tryz.f260) .leaf .leaf)))) (.node 272 (Tryz.f272) (.node 268 (Tryz.f268) (.node 266 (Tryz.f266) (.node 265 (Tryz.f265) (.node 262 (Tryz.f262) .leaf .leaf) .leaf) (.node 267 (Tryz.f267) .leaf .leaf)) (.node 270 (Tryz.f270) (.node 269 (Tryz.f269) .leaf .leaf) (.node 271 (Tryz.f271) .leaf .leaf))) (.node 277 (Tryz.f277) (.node 275 (Tryz.f275) (.node 274 (Tryz.f274) (.node 273 (Tryz.f273) .leaf .leaf) .leaf) (.node 276 (Tryz.f276) .leaf .leaf)) (.node 279 (Tryz.f279) (.node 278 (Tryz.f278) .leaf .leaf) (.node 280 (Tryz.f280) .leaf .leaf))))))
theorem qwW:qrV.All λf fn=>Tryz.prog.funcs[f]? =some fn:=(BT.all_node Tryz.func159 (BT.all_node Tryz.func83 (BT.all_node Tryz.func45 (BT.all_node Tryz.func15 (BT.all_node Tryz.func11 (BT.all_node Tryz.func9 (BT.all_node Tryz.func8 (BT.all_node Tryz.func3 trivial trivial) trivial) (BT.all_node Tryz.func10 trivial trivial)) (BT.all_node Tryz.func13 (BT.all_node Tryz.func12 trivial trivial) (BT.all_node Tryz.func14 trivial trivial))) (BT.all_node Tryz.func41 (BT.all_node Tryz.func19 (BT.all_node Tryz.func17 (BT.all_node Tryz.func16 trivial trivial) trivial) (BT.all_node Tryz.func40 trivial trivial)) (BT.all_node Tryz.func43 (BT.all_node Tryz.func42 trivial trivial) (BT.all_node Tryz.func44 trivial trivial)))) (BT.all_node Tryz.func54 (BT.all_node Tryz.func50 (BT.all_node Tryz.func48 (BT.all_node Tryz.func47 (BT.all_node Tryz.func46 trivial trivial) trivial) (BT.all_node Tryz.func49 trivial trivial)) (BT.all_node Tryz.func52 (BT.all_node Tryz.func51 trivial trivial) (BT.all_node Tryz.func53 trivial trivial))) (BT.all_node Tryz.func62 (BT.all_node Tryz.func57 (BT.all_node Tryz.func56 (BT.all_node Tryz.func55 trivial trivial) trivial) (BT.all_node Tryz.func58 trivial trivial)) (BT.all_node Tryz.func78 (BT.all_node Tryz.func63 trivial trivial) (BT.all_node Tryz.func81 trivial trivial))))) (BT.all_node Tryz.func112 (BT.all_node Tryz.func98 (BT.all_node Tryz.func94 (BT.all_node Tryz.func92 (BT.all_node Tryz.func91 (BT.all_node Tryz.func90 trivial trivial) trivial) (BT.all_node Tryz.func93 trivial trivial)) (BT.all_node Tryz.func96 (BT.all_node Tryz.func95 trivial trivial) (BT.all_node Tryz.func97 trivial trivial))) (BT.all_node Tryz.func103 (BT.all_node Tryz.func101 (BT.all_node Tryz.func100 (BT.all_node Tryz.func99 trivial trivial) trivial) (BT.all_node Tryz.func102 trivial trivial)) (BT.all_node Tryz.func105 (BT.all_node Tryz.func104 trivial trivial) (BT.all_node Tryz.func106 trivial trivial)))) (BT.all_node Tryz.func150 (BT.all_node Tryz.func130 (BT.all_node Tryz.func115 (BT.all_node Tryz.func114 (BT.all_node Tryz.func113 trivial trivial) trivial) (BT.all_node Tryz.func129 trivial trivial)) (BT.all_node Tryz.func133 (BT.all_node Tryz.func132 trivial trivial) (BT.all_node Tryz.func134 trivial trivial))) (BT.all_node Tryz.func155 (BT.all_node Tryz.func153 (BT.all_node Tryz.func152 (BT.all_node Tryz.func151 trivial trivial) trivial) (BT.all_node Tryz.func154 trivial trivial)) (BT.all_node Tryz.func157 (BT.all_node Tryz.func156 trivial trivial) (BT.all_node Tryz.func158 trivial trivial)))))) (BT.all_node Tryz.func233 (BT.all_node Tryz.func190 (BT.all_node Tryz.func168 (BT.all_node Tryz.func164 (BT.all_node Tryz.func162 (BT.all_node Tryz.func161 (BT.all_node Tryz.func160 trivial trivial) trivial) (BT.all_node Tryz.func163 trivial trivial)) (BT.all_node Tryz.func166 (BT.all_node Tryz.func165 trivial trivial) (BT.all_node Tryz.func167 trivial trivial))) (BT.all_node Tryz.func176 (BT.all_node Tryz.func174 (BT.all_node Tryz.func173 (BT.all_node Tryz.func172 trivial trivial) trivial) (BT.all_node Tryz.func175 trivial trivial)) (BT.all_node Tryz.func188 (BT.all_node Tryz.func179 trivial trivial) (BT.all_node Tryz.func189 trivial trivial)))) (BT.all_node Tryz.func212 (BT.all_node Tryz.func205 (BT.all_node Tryz.func203 (BT.all_node Tryz.func192 (BT.all_node Tryz.func191 trivial trivial) trivial) (BT.all_node Tryz.func204 trivial trivial)) (BT.all_node Tryz.func207 (BT.all_node Tryz.func206 trivial trivial) (BT.all_node Tryz.func211 trivial trivial))) (BT.all_node Tryz.func227 (BT.all_node Tryz.func225 (BT.all_node Tryz.func214 (BT.all_node Tryz.func213 trivial trivial) trivial) (BT.all_node Tryz.func226 trivial trivial)) (BT.all_node Tryz.func231 (BT.all_node Tryz.func230 trivial trivial) (BT.all_node Tryz.func232 trivial trivial))))) (BT.all_node Tryz.func261 (BT.all_node Tryz.func252 (BT.all_node Tryz.func248 (BT.all_node Tryz.func246 (BT.all_node Tryz.func244 (BT.all_node Tryz.func236 trivial trivial) trivial) (BT.all_node Tryz.func247 trivial trivial)) (BT.all_node Tryz.func250 (BT.all_node Tryz.func249 trivial trivial) (BT.all_node Tryz.func251 trivial trivial))) (BT.all_node Tryz.func257 (BT.all_node Tryz.func255 (BT.all_node Tryz.func254 (BT.all_node Tryz.func253 trivial trivial) trivial) (BT.all_node Tryz.func256 trivial trivial)) (BT.all_node Tryz.func259 (BT.all_node Tryz.func258 trivial trivial) (BT.all_node Tryz.func260 trivial trivial)))) (BT.all_node Tryz.func272 (BT.all_node Tryz.func268 (BT.all_node Tryz.func266 (BT.all_node Tryz.func265 (BT.all_node Tryz.func262 trivial trivial) trivial) (BT.all_node Tryz.func267 trivial trivial)) (BT.all_node Tryz.func270 (BT.all_node Tryz.func269 trivial trivial) (BT.all_node Tryz.func271 trivial trivial))) (BT.all_node Tryz.func277 (BT.all_node Tryz.func275 (BT.all_node Tryz.func274 (BT.all_node Tryz.func273 trivial trivial) trivial) (BT.all_node Tryz.func276 trivial trivial)) (BT.all_node Tryz.func279 (BT.all_node Tryz.func278 trivial trivial) (BT.all_node Tryz.func280 trivial trivial)))))))
def cfg:Cfg:={ P:=Tryz.prog,ty:=λt=>qmv.look t,mode:=λf=>match qxh.look f with|some m=>m|none=>.imp,frz:=λf r k=>qxp f r k,mask:=λf r=>qmA f r qxi,cut:=λf r=>qmA f r qym,tup:=λt=>qx1.look t,ext:=λf=>z3 f qgv,known:=λf=>(qu3.look f).isSome,dat:=λt=>(qyl.look t).isSome,inl:=λf=>qbL f qjR,lift:=λf r=>match qmA f r qxl with|some l=>l|none=>[],ems:=λt=>(qyk.look t).isSome,ali:=λt=>(qys.look t).isSome,wrt:=λt=>(qxZ.look t).isSome,bld:=λt=>qyr.look t,olift:=λf=>match quN.look f with|some l=>l|none=>[],shp:=λf=>match qx3.look f with|some l=>l|none=>[],okeep:=λf=>match quO.look f with|some n=>n|none=>0,nsp:=λf=>(qyc.look f).isSome }
theorem qzK{fs:List Fact}(hfs:xr cfg fs){f:Nat}{args:List AV}{v:AV}(m d:Nat)(h:(match yF cfg (λf=>qrV.look f) fs m d (.f f) args []with|some r=>some r.1|none=>none)=some v):EVs (EV cfg) f args=some v:=qyi (λ_ _ h=>BT.all_look qwW h) hfs m d h
theorem qmJ{fs:List Fact}(hfs:xr cfg fs){f:Nat}{args:List AV}{v:AV}(m d:Nat)(h:(match yF cfg (λf=>qrV.look f) fs m d (.f f) args []with|some r=>gA (r.1.frz r.1.msIds r.2).fg some|none=>none)=some v):EVf (EV cfg) f args=some v:=qyj (λ_ _ h=>BT.all_look qwW h) hfs m d h
instance inl_ok:InlOk cfg:=InlOk.of qjR (λ_=>rfl) ⟨⟨rfl,rfl,Tryz.func129,rfl⟩,⟨⟨rfl,rfl,Tryz.func132,rfl⟩,⟨⟨rfl,rfl,Tryz.func150,rfl⟩,⟨⟨rfl,rfl,Tryz.func188,rfl⟩,⟨⟨rfl,rfl,Tryz.func192,rfl⟩,⟨⟨rfl,rfl,Tryz.func203,rfl⟩,⟨⟨rfl,rfl,Tryz.func225,rfl⟩,⟨⟨rfl,rfl,Tryz.func246,rfl⟩,⟨⟨rfl,rfl,Tryz.func266,rfl⟩,⟨⟨rfl,rfl,Tryz.func276,rfl⟩,trivial⟩⟩⟩⟩⟩⟩⟩⟩⟩⟩
end Go.Proofs.YtafdkafbgohigaaGreat
end
noncomputable section
namespace Go.Av
def cmpS(a b:List UInt8):Int:=if a==b then 0 else if Op.bytesLess a b then -1 else 1
theorem qdK:∀a b:List UInt8,Lib.compareBytes a b=cmpS a b
 |[],[]=>rfl
 |[],_::_=>by simp[Lib.compareBytes,cmpS,Op.bytesLess]
 |_::_,[]=>by simp[Lib.compareBytes,cmpS,Op.bytesLess]
 |a::l,b::m=>by
  rw[Lib.compareBytes,qdK l m];unfold cmpS
  by_cases h:a=b
  ·subst h;have:¬a<a:=by simp
   by_cases h2:l=m
   ·subst h2;simp
   ·simp[Op.bytesLess,h2]
  ·have h':(a::l==b::m)=false:=by simp[h]
   rw[h'];simp only[qz1,if_false,Op.bytesLess]
   by_cases hlt:a<b
   ·simp[hlt]
   ·have:b<a:=by
     have h1:¬a.toNat<b.toNat:=hlt;have h2:a.toNat≠b.toNat:=λe=>h (UInt8.toNat.inj e)
     show b.toNat<a.toNat;omega
    simp[hlt,this,h]
theorem qod [Lent] {P:Program} {f:FuncId} {fn:Func} (hf:P.funcs[f]? =some fn) (hn:(fn.name== "runtime.NumGoroutine")=false) (hb:fn.body.isNone=true) (hx:Extern.findNext fn=none)
  (he:Extern.find fn=some Extern.BytealgCompare.compare) {args:List AV} {H H':AH} {r:AV} (hr:qev args H=some (r,H')) {C:qk} {μ:MMap} {w:World} {vs:Array Value} (ha:qA C μ args vs) (hw:Wld C μ H w):
  vM P (callFunc f vs) w (xe C μ H w r H'):=by
 unfold qev at hr;split at hr
 ·rename_i H0 a b;cases hr;obtain⟨hl,hv⟩:=ha;obtain⟨x,y,rfl⟩:∃x y,vs= #[x,y]:=by
   obtain⟨l⟩:=vs
   match l,hl with
   |[x,y],_=>exact⟨x,y,rfl⟩
  have h0:=hv 0 _ _ rfl rfl;have h1:=hv 1 _ _ rfl rfl;cases h0;cases h1;have hrun:(callFunc f #[.string ⟨a.toArray⟩,.string ⟨b.toArray⟩]).run P w= .ok (.value (.int .i64 (cmpS a b))) w:=by
   unfold callFunc;simp only[Sem.run_bind,run_program,Result.andThen_ok,hf,hn,hb,qz1,if_false,if_true,run_mark,hx,he,Lib.run_compareString,Sem.run_pure];rw[qdK]
  unfold vM;rw[hrun];exact⟨C,μ,.int _ _,hw,Ext.refl (qz0 _)⟩
 ·cases hr
end Go.Av
namespace Go.Proofs.YtafdkafbgohigaaGreat
open Go.Av
theorem qmX:qmv.All λt ti=>tiOf Tryz.prog t=some ti:=by
 unfold qmv
 repeat (first|exact trivial|refine BT.all_node (by show tiOf Tryz.prog _=_;kernel_rfl) ?_ ?_)
theorem quS:Tryz.prog.funcs.toList.all (λfn=> !(fn.name== "runtime.NumGoroutine"))=true:=by kernel_rfl
theorem qh7:Tryz.prog.follows .mixedOrders=true:=by kernel_rfl
end Go.Proofs.YtafdkafbgohigaaGreat
end
noncomputable section
namespace Go.Av
abbrev Rz:=List (List AV)
abbrev Bz:=List UInt8
inductive Tm where
 |mk (k n:Int) (s:List UInt8) (l:List Tm)
 deriving Inhabited
namespace Tm
def kind:Tm->Int|mk k _ _ _=>k
def num:Tm->Int|mk _ n _ _=>n
def str:Tm->List UInt8|mk _ _ s _=>s
def subs:Tm->List Tm|mk _ _ _ l=>l
end Tm
mutual
def Tm.cells:Tm->List AV
 | .mk k n s l=>[.int .i64 k,.int .i64 n,.str s,.sl (qb l)]
def qb:List Tm->List (List AV)
 |[]=>[]
 |t::l=>t.cells::qb l
end
def Tm.av(t:Tm):AV:=.agg t.cells
theorem Tm.cells_mk(k n:Int)(s:List UInt8)(l:List Tm):(Tm.mk k n s l).cells=[.int .i64 k,.int .i64 n,.str s,.sl (qb l)]:=by rw[Tm.cells]
theorem Tm.av_mk(k n:Int)(s:List UInt8)(l:List Tm):(Tm.mk k n s l).av= .agg [.int .i64 k,.int .i64 n,.str s,.sl (qb l)]:=by rw[Tm.av,Tm.cells_mk]
theorem qad:∀l:List Tm,qb l=l.map Tm.cells
 |[]=>by rw[qb];rfl
 |t::l=>by rw[qb,qad l];rfl
@[simp] theorem qj(l:List Tm):(qb l).length=l.length:=by rw[qad];simp
@[simp] theorem q6:qb []=[]:=by rw[qb]
theorem q4(t:Tm)(l:List Tm):qb (t::l)=t.cells::qb l:=by rw[qb]
theorem vO(a b:List Tm):qb (a++b)=qb a++qb b:=by simp[qad]
theorem qq8(n:Nat)(a:List Tm):(qb a).take n=qb (a.take n):=by simp[qad,List.map_take]
theorem qq9(n:Nat)(a:List Tm):(qb a).drop n=qb (a.drop n):=by simp[qad,List.map_drop]
theorem yG(l:List Tm)(i:Nat):(qb l)[i]? =(l[i]?).map Tm.cells:=by rw[qad];simp
theorem qeW{l:List Tm}{i:Nat}{k n:Int}{s:List UInt8}{l':List Tm}(h:l[i]? =some (.mk k n s l')):(qb l)[i]? =some [.int .i64 k,.int .i64 n,.str s,.sl (qb l')]:=by rw[yG,h,←Tm.cells_mk];rfl
theorem qsW(l:List Tm)(i:Nat)(t:Tm):(qb l).set i t.cells=qb (l.set i t):=by simp[qad,List.map_set]
theorem qkm(t:Tm):qE 0 t.cells=true:=by
 obtain⟨k,n,s,l⟩:=t;rw[Tm.cells_mk];rfl
theorem qi0(l:List Tm):qN 0 (qb l)=true:=by
 induction l with
 |nil=>rw[qb];rfl
 |cons t l ih=>rw[qb,qN,ih,qkm];rfl
mutual
/-- no list is longer than is counted here, no text -/
def Tm.Ok:Tm->Prop
 | .mk _ _ s l=>s.length<1099511627776∧l.length<1099511627776∧OkL l
def OkL:List Tm->Prop
 |[]=>True
 |t::l=>t.Ok∧OkL l
end
theorem qhb{l:List Tm}:OkL l↔∀t∈l,t.Ok:=by
 induction l with
 |nil=>simp[OkL]
 |cons t l ih=>simp[OkL,ih]
theorem Tm.Ok.str{k n:Int}{s:List UInt8}{l:List Tm}(h:(Tm.mk k n s l).Ok):s.length<1099511627776:=by rw[Tm.Ok]at h;exact h.1
theorem Tm.Ok.len{k n:Int}{s:List UInt8}{l:List Tm}(h:(Tm.mk k n s l).Ok):l.length<1099511627776:=by rw[Tm.Ok]at h;exact h.2.1
theorem Tm.Ok.sub{k n:Int}{s:List UInt8}{l:List Tm}(h:(Tm.mk k n s l).Ok){t:Tm}(ht:t∈l):t.Ok:=by rw[Tm.Ok]at h;exact qhb.1 h.2.2 t ht
theorem OkL.get{l:List Tm}(h:OkL l){t:Tm}(ht:t∈l):t.Ok:=qhb.1 h t ht
theorem Tm.ind{P:Tm->Prop}(h:∀k n s l,(∀t∈l,P t)->P (.mk k n s l)):∀t,P t
 | .mk k n s l=>h k n s l (λt _=>Tm.ind h t)
theorem qS{x:Int}(h1: -9223372036854775808<=x)(h2:x<9223372036854775808):qzQ .i64 x=x:=by
 simp[qzQ,IntKind.bits,IntKind.signed];omega
theorem vJ{i n:Nat}(h:i<n)(hn:n<1099511627776):qzQ .i64 ((i:Int)+1)=((i+1:Nat):Int):=by
 rw[qS (by omega) (by omega)];rfl
theorem vX(i:Nat):qe 0 (i:Int)=true:=by simp[qe]
theorem xg(i n:Nat):qu (i:Int) (n:Int)=decide (i<n):=by simp[qu]
def kTmC{α:Type}(l:List AV)(k:Int->Int->List UInt8->List (List AV)->Option α):Option α:=
 qa l λc cs=>kInt .i64 c λn=>qa cs λc cs=>kInt .i64 c λm=>qa cs λc cs=>kStr c λs=>qa cs λc cs=>kSl c λA=>kNil cs (k n m s A)
def kTmV{α:Type}(v:AV)(k:Int->Int->List UInt8->List (List AV)->Option α):Option α:=kAgg v λcs=>kTmC cs k
theorem xG{α:Type}{l:List Tm}{i:Nat}{t:Tm}(h:l[i]? =some t)(k:List AV->Option α):kOpt (qzU (qb l) (qzV (i:Int))) k=k t.cells:=by
 rw[q9,qAk,yG,h];rfl
mutual
def Tm.w:Tm->Nat
 | .mk _ _ s l=>1+s.length+wL l
def wL:List Tm->Nat
 |[]=>0
 |t::l=>t.w+wL l
end
theorem Tm.w_mk(k n:Int)(s:List UInt8)(l:List Tm):(Tm.mk k n s l).w=1+s.length+wL l:=by rw[Tm.w]
theorem Tm.w_eq(t:Tm):t.w=1+t.str.length+wL t.subs:=by cases t;rw[Tm.w_mk];rfl
@[simp] theorem z8:wL []=0:=by rw[wL]
@[simp] theorem xq(t:Tm)(l:List Tm):wL (t::l)=t.w+wL l:=by rw[wL]
@[simp] theorem qba(a b:List Tm):wL (a++b)=wL a+wL b:=by
 induction a with
 |nil=>simp
 |cons t l ih=>simp[ih];omega
theorem qas(t:Tm):1<=t.w:=by rw[Tm.w_eq];omega
theorem qb6{t:Tm}{l:List Tm}(h:t∈l):t.w<=wL l:=by
 induction l with
 |nil=>cases h
 |cons x l ih=>
  rw[xq];rcases qAd.1 h with rfl|h
  ·omega
  ·have:=ih h;omega
theorem zg(l:List Tm):l.length<=wL l:=by
 induction l with
 |nil=>simp
 |cons x l ih=>have:=qas x;simp;omega
theorem qax(t:Tm):t.w<1099511627776->t.Ok:=by
 induction t using Tm.ind with
 |_ k n s l ih=>
  intro h;rw[Tm.w_mk]at h;rw[Tm.Ok];have:=zg l;exact⟨by omega,by omega,qhb.2 λt ht=>ih t ht (by have:=qb6 ht;omega)⟩
theorem quP{l:List Tm}(h:wL l<1099511627776):OkL l:=qhb.2 λt ht=>qax t (by have:=qb6 ht;omega)
theorem qsv(l:List Tm):wL l.reverse=wL l:=by
 induction l with
 |nil=>rfl
 |cons x l ih=>simp[ih];omega
end Go.Av
end
noncomputable section
namespace Go.Proofs.YtafdkafbgohigaaGreat
open Go.Av
def C0(W:World):qk:=λb o=>W.cell? ⟨b,o,none⟩
def M0:MMap:=λ_=>none
theorem wld0(W:World):Wld (C0 W) M0 [] W where
 cl:=λ_ _ _ h=>h
 dom:=λid m h=>by cases h
 res:=λid h=>by simp at h
 live:=λid b h=>by simp at h
 froz:=λid d sz rs h=>by simp at h
 inj:=λi i' b b' m m' h=>by simp at h
 free:=z5.nil
 lnt:=⟨λ_ _ _ h=>(by cases h),λh=>h.elim,λ_ _=>trivial⟩
structure TermTys (P:Program) (tT tL tI tS:TypeId):Prop where
 uT:∃f0 f1 f2 f3:Field,P.underlying tT=some (.struct #[f0,f1,f2,f3])∧f0.type=tI∧f0.offset=0∧f1.type=tI∧f1.offset=1∧f2.type=tS∧f2.offset=2∧f3.type=tL∧f3.offset=3
 uL:P.underlying tL=some (.slice tT)
 uI:P.underlying tI=some (.int .i64)
 uS:P.underlying tS=some .string
 cT:P.cellsOf tT=4
 cL:P.cellsOf tL=1
 cI:P.cellsOf tI=1
 cS:P.cellsOf tS=1
noncomputable section
variable {H : Type} {enc : TypeId × Value → H} {P : Program} {W : World} {tT tL tI tS : TypeId}
def qin(W:World)(cs:List Value)(t:Tm):Prop:=cs.length=4∧∀(j:Nat) a v,t.cells[j]? =some a->cs[j]? =some v->a.isCell=true∧Rep (C0 W) M0 a v
theorem qaQ{base:Nat}{a:Addr}{n:Nat}{cs:List Value}(h:W.cells? base a n=some cs)(hn:0<n):a.spot=none∧cs.length=n∧∀(j:Nat) v,cs[j]? =some v->W.cell? ⟨a.block,a.off+j,none⟩=some v:=by
 unfold World.cells? at h;split at h
 ·have hl:cs.length=n:=by simpa using mapM_some_length h
  have hg:∀(j:Nat),j<n->W.cell? (a.add j)=cs[j]? :=λj hj=>mapM_some_get h j j (by simp[hj])
  have hsp:a.spot=none:=by
   have h0:=hg 0 hn;rw[qzS (by omega)]at h0;cases hs:a.spot with
   |none=>rfl
   |some s=>
    simp only[World.cell?,Addr.add,qAw,hs]at h0;split at h0
    ·simp at h0
    ·cases h0
  refine⟨hsp,hl,λj v hv=>?_⟩;have hj:j<n:=by rw[←hl];exact(qzW.1 hv).1
  have:=hg j hj;rw[hv]at this;rw[yI _ _ hsp]at this;exact this
 ·cases h
theorem qt2{H:Type}{d:DataW H}{l:List (DataW H)}(h:d∈l):Rows.uptoBulk d<=Rows.uptoBulkAll l:=by
 induction l with
 |nil=>cases h
 |cons x r ih=>
  simp only[Rows.uptoBulkAll];cases qAd.1 h with
  |inl e=>subst e;omega
  |inr e=>have:=ih e;omega
theorem qkn{H:Type}:∀(l:List Tm) (ds:List (DataW H)),l.length=ds.length->(∀(i:Nat) t d,l[i]? =some t->ds[i]? =some d->t.w<=Rows.uptoBulk d)->wL l<=Rows.uptoBulkAll ds
 |[],[],_,_=>by simp[Rows.uptoBulkAll]
 |t::l,d::ds,hl,h=>by
  have h0:=h 0 t d rfl rfl;have:=qkn l ds (by simpa using hl) (λi t d ht hd=>h (i+1) t d (by simpa using ht) (by simpa using hd));simp only[xq,Rows.uptoBulkAll];omega
theorem qth(T:TermTys P tT tL tI tS):∀(n:Nat),
  (∀cs x,DataW.trod enc P W 0 (λ_=>true) true n tT cs=some x->∃t:Tm,qin W cs t∧t.w<=Rows.uptoBulk x.1 ∧
   ∀(W':World) (sp:Nat->Bool),(∀p∈x.2,W.sameAt W' p)->(∀p∈x.2,sp p.block=true)->DataW.trod enc P W' 0 sp true n tT cs=some x) ∧
  (∀cs x,DataW.trod enc P W 0 (λ_=>true) true n tL cs=some x->∃(l:List Tm) (v:Value),cs=[v]∧Rep (C0 W) M0 (.sl (qb l)) v∧wL l<=Rows.uptoBulk x.1 ∧
   ∀(W':World) (sp:Nat->Bool),(∀p∈x.2,W.sameAt W' p)->(∀p∈x.2,sp p.block=true)->DataW.trod enc P W' 0 sp true n tL cs=some x):=by
 intro n
 induction n with
 |zero=>exact⟨λcs x h=>by simp[DataW.trod]at h,λcs x h=>by simp[DataW.trod]at h⟩
 |succ n ih=>
  obtain⟨ihT,ihL⟩:=ih;refine⟨λcs x h=>?_,λcs x h=>?_⟩
  ·obtain⟨f0,f1,f2,f3,hu,t0,o0,t1,o1,t2,o2,t3,o3⟩:=T.uT;obtain⟨xs,n',e,rfl,hl,hxl,hx⟩:=DataW.trod_struct hu h;obtain rfl:n'=n:=by omega
   rw[T.cT]at hl;obtain⟨c0,c1,c2,c3,rfl⟩:∃c0 c1 c2 c3,cs=[c0,c1,c2,c3]:=by
    match cs,hl with
    |[a,b,c,d],_=>exact⟨a,b,c,d,rfl⟩
   obtain⟨x0,x1,x2,x3,rfl⟩:∃c0 c1 c2 c3,xs=[c0,c1,c2,c3]:=by
    match xs,hxl with
    |[a,b,c,d],_=>exact⟨a,b,c,d,rfl⟩
   have h0:=hx 0 f0 rfl;have h1:=hx 1 f1 rfl;have h2:=hx 2 f2 rfl;have h3:=hx 3 f3 rfl;rw[t0,o0,T.cI]at h0;rw[t1,o1,T.cI]at h1;rw[t2,o2,T.cS]at h2;rw[t3,o3,T.cL]at h3;simp at h0 h1 h2 h3;obtain⟨k,e0,rfl,w0⟩:=DataW.trod_int T.uI h0;obtain⟨m,e1,rfl,w1⟩:=DataW.trod_int T.uI h1;obtain⟨s,e2,rfl,w2⟩:=DataW.trod_string T.uS h2;obtain⟨l,v,e3,hr,hb,hback⟩:=ihL _ _ h3;simp at e0 e1 e2 e3;subst e0 e1 e2 e3;refine⟨.mk k m s.data.toList l,⟨rfl,λj a u ha hu=>?_⟩,?_,λW' sp hs hp=>?_⟩
   ·rw[Tm.cells_mk]at ha
    match j,ha,hu with
    |0,ha,hu=>simp at ha hu;subst ha hu;exact⟨rfl,.int _ _⟩
    |1,ha,hu=>simp at ha hu;subst ha hu;exact⟨rfl,.int _ _⟩
    |2,ha,hu=>
     simp at ha hu;subst ha hu;refine⟨rfl,?_⟩;have:=Rep.str (C:=C0 W) (μ:=M0) s.data.toList
     simpa using this
    |3,ha,hu=>simp at ha hu;subst ha hu;exact⟨rfl,hr⟩
    |(j+4),ha,hu=>simp at ha
   ·simp only[List.map_cons,List.map_nil,Rows.uptoBulk,Rows.uptoBulkAll];rw[Tm.w_mk];omega
   ·have hs3:∀p∈x3.2,W.sameAt W' p:=λp hp=>hs p (by simp[hp])
    have hp3:∀p∈x3.2,sp p.block=true:=λp hpp=>hp p (by simp[hpp])
    have b3:=hback W' sp hs3 hp3;have b0:DataW.trod enc P W' 0 sp true n' tI [Value.int .i64 k]=some (.lit (.int .i64 k),[]):=by
     cases n' with
     |zero=>simp[DataW.trod]at h0
     |succ q=>simp[DataW.trod,T.uI,w0]
    have b1:DataW.trod enc P W' 0 sp true n' tI [Value.int .i64 m]=some (.lit (.int .i64 m),[]):=by
     cases n' with
     |zero=>simp[DataW.trod]at h0
     |succ q=>simp[DataW.trod,T.uI,w1]
    have b2:DataW.trod enc P W' 0 sp true n' tS [Value.string s]=some (.lit (.string s.data.toList),[]):=by
     cases n' with
     |zero=>simp[DataW.trod]at h0
     |succ q=>simp[DataW.trod,T.uS,w2]
    unfold DataW.trod;rw[hu];simp[T.cT,t0,o0,t1,o1,t2,o2,t3,o3,T.cI,T.cS,T.cL,b0,b1,b2,b3]
  ·rcases DataW.trod_slice T.uL h with⟨rfl,rfl⟩|⟨a,len,cap,elems,rest,n',e,rfl,rfl,hb,hlc,hmx,hel,hg,hsp,_⟩
   ·refine⟨[],_,rfl,by rw[q6];exact .slNil,by simp,λW' sp _ _=>?_⟩;simp[DataW.trod,T.uL]
   ·obtain rfl:n'=n:=by omega
    obtain⟨hrl,hrg⟩:=hsp rfl;have one:∀(i:Nat) (y:DataW H×List MemPlace),(W.cells? 0 (a.add (i*P.cellsOf tT)) (P.cellsOf tT)).bind (DataW.trod enc P W 0 (λ_=>true) true n' tT)=some y ->
      ∃cs',W.cells? 0 (a.add (i*4)) 4=some cs'∧DataW.trod enc P W 0 (λ_=>true) true n' tT cs'=some y:=by
     intro i y hy;rw[T.cT]at hy;exact qzX.1 hy
    -- the terms
    have tms:∃f:Nat->Tm,∀(i:Nat) y,elems[i]? =some y->∃cs',W.cells? 0 (a.add (i*4)) 4=some cs'∧qin W cs' (f i)∧(f i).w<=Rows.uptoBulk y.1:=by
     have:∀i:Nat,∃t:Tm,∀y,elems[i]? =some y->∃cs',W.cells? 0 (a.add (i*4)) 4=some cs'∧qin W cs' t∧t.w<=Rows.uptoBulk y.1:=by
      intro i;cases hy:elems[i]? with
      |none=>exact⟨default,λy h=>by cases h⟩
      |some y=>
       have hi:i<len:=by rw[←hel];exact(qzW.1 hy).1
       obtain⟨cs',h1,h2⟩:=one i y ((hg i hi).trans hy);obtain⟨t,h3,h4,_⟩:=ihT _ _ h2;exact⟨t,λy' hy'=>by cases hy';exact⟨cs',h1,h3,h4⟩⟩
     exact⟨λi=>Classical.choose (this i),λi=>Classical.choose_spec (this i)⟩
    obtain⟨f,hf⟩:=tms;have hget:∀(i:Nat) (row:List AV),(qb ((qAs len).map f))[i]? =some row->i<len∧row=(f i).cells:=by
     intro i row hi;have hil:i<len:=by have:=(qzW.1 hi).1;simpa using this
     refine⟨hil,?_⟩;rw[yG,List.getElem?_map,List.getElem?_range hil]at hi
     simpa using hi.symm
    have hcell:∀(i j:Nat) (row:List AV) x,(qb ((qAs len).map f))[i]? =some row->row[j]? =some x->a.spot=none∧x.isCell=true∧∃v,W.cell? ⟨a.block,a.off+i*4+j,none⟩=some v∧Rep (C0 W) M0 x v:=by
     intro i j row x hi hj;obtain⟨hil,rfl⟩:=hget i row hi;obtain⟨cs',h1,h2,_⟩:=hf i _ (qzS (by omega));obtain⟨s1,s2,s3⟩:=qaQ h1 (by omega);have hspot:a.spot=none:=by
      obtain⟨cs0,q1,_⟩:=hf 0 _ (qzS (by omega));have:=(qaQ q1 (by omega)).1
      simpa [Addr.add]using this
     have hjl:j<cs'.length:=by
      rw[h2.1];have:=(qzW.1 hj).1;cases hfi:f i with
      |mk k n s l=>rw[hfi,Tm.cells_mk]at this;simpa using this
     have h4:=h2.2 j x _ hj (qzS hjl);refine⟨hspot,h4.1,_,?_,h4.2⟩;have:=s3 j _ (qzS hjl);rw[yI _ _ hspot]at this;exact this
    refine⟨(qAs len).map f,_,rfl,?_,?_,λW' sp hs hp=>?_⟩
    ·have:=Rep.sl (C:=C0 W) (μ:=M0) (qb ((qAs len).map f)) a cap 4 (λi j=>(W.cell? ⟨a.block,a.off+i*4+j,none⟩).getD undef) (λhne=>?_) (λi row hi=>?_) (λi j row x hi hj=>?_) (λi j row x hi hj=>?_) (λi j row x hi hj=>?_) (by simpa using hlc) (qi0 _)
     ·simpa using this
     ·have hl0:0<len:=by
       rcases Nat.eq_zero_or_pos len with h0|h0
       ·subst h0;exact absurd (by simp) hne
       ·exact h0
      obtain⟨cs0,q1,_⟩:=hf 0 _ (qzS (by omega));have:=(qaQ q1 (by omega)).1
      simpa [Addr.add]using this
     ·obtain⟨_,rfl⟩:=hget i row hi;cases hfi:f i with
      |mk k n s l=>rw[Tm.cells_mk];rfl
     ·obtain⟨_,_,v,h1,_⟩:=hcell i j row x hi hj;show W.cell? _=_;rw[h1];rfl
     ·obtain⟨_,_,v,h1,h2⟩:=hcell i j row x hi hj;rw[h1];exact h2
     ·exact(hcell i j row x hi hj).2.1
    ·simp only[Rows.uptoBulk];have:=qkn ((qAs len).map f) (elems.map (·.1)) (by simp[hel]) (λi t d ht hd=>by
      rw[List.getElem?_map]at ht hd;obtain⟨j,hj,rfl⟩:=qzZ.1 ht;obtain⟨y,hy,rfl⟩:=qzZ.1 hd;have hil:i<len:=by have:=(qzW.1 hj).1;simpa using this
      rw[List.getElem?_range hil]at hj;cases hj;obtain⟨_,_,_,h4⟩:=hf i y hy;exact h4)
     omega
    ·have hrow:0<(elems.length+rest.length)->sp a.block=true:=λhpos=>hp (.cell a.block (a.off+0)) (by
      rw[qAh];exact .inl (MemPlace.mem_row.2 ⟨0,Nat.mul_pos hpos (by rw[T.cT];omega),rfl⟩))
     unfold DataW.trod at h⊢;rw[T.uL]at h⊢;simp only[if_true]at h⊢;rw[qAw ⟨hb,hlc,hmx⟩]at h⊢;simp only[qzZ,qzX]at h⊢;obtain⟨elems',he,rest',hr,hx⟩:=h;have hlen:elems'.length=len:=by simpa using mapM_some_length he
     have hrl':rest'.length=cap - len:=by simpa using mapM_some_length hr
     simp only[Prod.mk.injEq,DataW.slice.injEq]at hx;have one':∀(i:Nat) (y:DataW H×List MemPlace),i<elems'.length+rest'.length->y∈elems'++rest' ->
       (W.cells? 0 (a.add (i*P.cellsOf tT)) (P.cellsOf tT)).bind (DataW.trod enc P W 0 (λ_=>true) true n' tT)=some y->(W'.cells? 0 (a.add (i*P.cellsOf tT)) (P.cellsOf tT)).bind (DataW.trod enc P W' 0 sp true n' tT)=some y:=by
      intro i y hi hy hv;simp only[qzX]at hv⊢;obtain⟨cs',hc',hy'⟩:=hv;obtain⟨_,_,_,hbk⟩:=ihT _ _ hy';refine⟨cs',World.cells?_carry hc' (λp hpp=>hs p ?_),hbk W' sp (λp hpp=>hs p ?_) (λp hpp=>hp p ?_)⟩
      ·rw[←hx.2];obtain⟨j,hj,rfl⟩:=MemPlace.mem_row.1 hpp;simp only[qAh]
       left
       refine MemPlace.mem_row.2 ⟨i*P.cellsOf tT+j,?_,?_⟩
       ·calc i*P.cellsOf tT+j<i*P.cellsOf tT+P.cellsOf tT:=by omega
         _=(i+1)*P.cellsOf tT:=by rw[qAr,Nat.one_mul]
         _<=(elems'.length+rest'.length)*P.cellsOf tT:=qAg _ hi
       ·unfold Addr.add;split
        ·rename_i h0;simp[h0]
        ·simp[qAo]
      ·rw[←hx.2];simp only[qAh,List.mem_flatMap]
       right
       exact⟨y,by simpa using hy,hpp⟩
      ·rw[←hx.2];simp only[qAh,List.mem_flatMap]
       right
       exact⟨y,by simpa using hy,hpp⟩
     refine⟨elems',mapM_carry he (λi y hi hy=>one' i y (by have:i<len:=(by simpa using hi);omega) (by simp[hy])),rest',?_,by simp only[Prod.mk.injEq,DataW.slice.injEq];exact hx⟩
     by_cases h0:0<elems.length+rest.length
     ·rw[qAw (hrow h0)];exact mapM_carry hr (λj y hj hy=>one' (len+j) y (by have:j<cap - len:=(by simpa using hj);omega) (by simp[hy]))
     ·have hc0:cap - len=0:=by omega
      rw[hc0]at hr⊢;simp at hr;subst hr;split<;>rfl
end
end Go.Proofs.YtafdkafbgohigaaGreat
end
noncomputable section
namespace Go.Proofs.YtafdkafbgohigaaGreat
open Go.Av Go.ChangeShapes Go.WideShapes Go.ChangeAt Go.RowKit
theorem quI:ownKnob Tryz.prog.godebug=none:=by kernel_rfl
noncomputable section
variable {H : Type} {enc : TypeId × Value → H} {P : Program} {W W' : World}
theorem qta{f:Func}{s:ChangeSpec}{apart fresh handsOn again:Bool}{args:Array Value}{v:Value}{ds gs:List (DataW H)}{before pa pv:List MemPlace}(hW:DataW.Whole enc P f.params.toList s.vars apart W args.toList ds gs before)(hres:∀(b:Nat) (sp:Nat->Bool) (hd:Bool),DataW.TrodAll enc P W' b sp hd f.resultTypes.toList (v.resultList f.resultTypes.size) (s.fn H (ds++gs)).results [])(hargs:∀sp:Nat->Bool,(∀p∈before,sp p.block=true)->DataW.TrodAll enc P W' 0 sp true f.params.toList args.toList (s.fn H (ds++gs)).args pa)(hvars:∀sp:Nat->Bool,(∀p∈before,sp p.block=true)->DataW.TrodVars enc P W' sp s.vars (s.fn H (ds++gs)).vars pv)(hps:before=pa++pv)(hk:W.keptBut W' (·∈before))(hfz:∀b o,b<W.heap.size->W'.frozen? ⟨b,o,none⟩=W.frozen? ⟨b,o,none⟩)(hok:∀(j:Nat) (t:TypeId) (r:Value),f.resultTypes[j]? =some t->(v.resultList f.resultTypes.size)[j]? =some r->Value.okWide P W' .any 0 t r):
  s.post enc P f apart fresh handsOn again W args v W':=by
 have hlt:=hW.lt;have hold:∀p∈before,(λb=>decide (b<W.heap.size)) p.block=true:=λp hp=>by simpa using hlt p hp
 refine⟨ds,gs,before,[],pa,pv,hW,hres _ _ _,hargs _ hold,hvars _ hold,World.keptBut_mono (λp hp=>⟨hp,?_⟩) hk,λ_=>?_⟩
 ·rw[hps,qAh]at hp;exact Or.inr hp
 ·obtain⟨_,_,_,_,_,hz,hn⟩:=hW;refine⟨hok,_,_,([]++pa)++pv,⟨[]++pa,pv,trodAll_append (hargs _ (λ_ _=>rfl)) (hres _ _ _),hvars _ (λ_ _=>rfl),rfl,?_,?_⟩,?_⟩
  ·intro b off hp;have hp':MemPlace.cell b off∈before:=by rw[hps];simpa using hp
   rw[hfz b off (hlt _ hp')];exact hz b off hp'
  ·intro ha;have:=hn ha;rw[hps]at this
   simpa using this
  ·intro p hp _;rw[hps]
   simpa using hp
theorem qnJ(h:∀b,b<W.heap.size->W'.heap[b]? =W.heap[b]?)(ho:W'.os=W.os)(hu:W'.output=W.output)(may:MemPlace->Prop):W.keptBut W' may:=by
 refine⟨ho,hu,λi hi=>?_⟩;rw[h i hi];cases W.heap[i]? with
 |none=>rfl
 |some o=>cases o<;>simp
theorem qc2(h:∀b,b<W.heap.size->W'.heap[b]? =W.heap[b]?){p:MemPlace}(hp:p.block<W.heap.size):W.sameAt W' p:=by
 cases p with
 |cell b o=>simp only[World.sameAt,World.cell?];rw[h b hp]
 |map b=>exact h b hp
theorem qk6(h:∀b,b<W.heap.size->W'.heap[b]? =W.heap[b]?)(b o:Nat)(hb:b<W.heap.size):W'.frozen? ⟨b,o,none⟩=W.frozen? ⟨b,o,none⟩:=by
 simp only[World.frozen?];rw[h b hb]
structure Opened (enc:TypeId×Value->H) (P:Program) (W:World) (t:TypeId) (v:Value) (d:DataW H) (ps:List MemPlace) (a:AV):Prop where
 rep:Rep (C0 W) M0 a v
 back:∀(W':World) (sp:Nat->Bool),(∀p∈ps,W.sameAt W' p)->(∀p∈ps,sp p.block=true)->DataW.Trod enc P W' 0 sp true t v d ps
theorem qtf{tT tL tI tS:TypeId}(T:TermTys P tT tL tI tS){r:Reach}{b0:Nat}{v:Value}{d:DataW H}{ps:List MemPlace}(hval:Value.okWide P W r b0 tT v)(hd:DataW.Trod enc P W 0 (λ_=>true) true tT v d ps):
  ∃t:Tm,Opened enc P W tT v d ps t.av∧t.w<=Rows.uptoBulk d:=by
 obtain⟨f0,f1,f2,f3,hu,_⟩:=T.uT;obtain⟨cs,rfl,hsz⟩:=okWide_struct hu hval;obtain⟨n,hn⟩:=hd;obtain⟨t,h1,h2,h3⟩:=(qth T n).1 _ _ hn;refine⟨t,⟨?_,λW' sp hs hp=>⟨n,h3 W' sp hs hp⟩⟩,h2⟩;have:=Rep.agg (C:=C0 W) (μ:=M0) t.cells cs.toList (by
  have:=h1.1;cases t with
  |mk k n s l=>rw[Tm.cells_mk];simpa [Value.cells]using this.symm) (λi a v ha hv=>(h1.2 i a v ha (by simpa [Value.cells]using hv)).2)
 simpa [Tm.av]using this
theorem quL{tI:TypeId}(hu:P.underlying tI=some (.int .i64)){r:Reach}{b0:Nat}{v:Value}{d:DataW H}{ps:List MemPlace}(hval:Value.okWide P W r b0 tI v)(hd:DataW.Trod enc P W 0 (λ_=>true) true tI v d ps):
  ∃k:Int,Opened enc P W tI v d ps (.int .i64 k)∧(Lit.int .i64 k).wf=true:=by
 obtain⟨k,rfl⟩:=okWide_int hu hval;obtain⟨n,hn⟩:=hd;obtain⟨k',e0,ex,w0⟩:=DataW.trod_int hu hn;have e0:[Value.int .i64 k]=[Value.int .i64 k']:=by simpa [Value.cells]using e0
 cases e0;cases ex;refine⟨k,⟨.int _ _,λW' sp _ _=>⟨n,?_⟩⟩,w0⟩;cases n with
 |zero=>simp[DataW.trod]at hn
 |succ q=>simp[DataW.trod,hu,w0,Value.cells]
end
theorem qsZ{C:qk}{a b c:AV}{x y z:Value}(h1:Rep C M0 a x)(h2:Rep C M0 b y)(h3:Rep C M0 c z):qA C M0 [a,b,c] #[x,y,z]:=⟨rfl,λi c v hc hv=>by
 match i,hc,hv with
 |0,hc,hv=>simp at hc hv;subst hc hv;exact h1
 |1,hc,hv=>simp at hc hv;subst hc hv;exact h2
 |2,hc,hv=>simp at hc hv;subst hc hv;exact h3
 |(i+3),hc,hv=>simp at hc⟩
end Go.Proofs.YtafdkafbgohigaaGreat
end
noncomputable section
namespace Go.Proofs.YtafdkafbgohigaaGreat
open Go.Av Go.ChangeShapes Go.WideShapes Go.ChangeAt Go.RowKit
theorem qmZ:TermTys Tryz.prog 25 23 3 9 where
 uT:=⟨_,_,_,_,Tryz.underlying25,rfl,rfl,rfl,rfl,rfl,rfl,rfl,rfl⟩
 uL:=Tryz.underlying23
 uI:=Tryz.underlying3
 uS:=Tryz.underlying9
 cT:=by kernel_rfl
 cL:=by kernel_rfl
 cI:=by kernel_rfl
 cS:=by kernel_rfl
end Go.Proofs.YtafdkafbgohigaaGreat
end
noncomputable section
namespace Go.Proofs.YtafdkafbgohigaaGreat
open Go.Av Go.ChangeShapes Go.WideShapes Go.ChangeAt Go.RowKit
theorem qh6(f:FuncId)(fn:Func)(h:Tryz.prog.funcs[f]? =some fn):(fn.name== "runtime.NumGoroutine")=false:=by
 have h1:=List.all_eq_true.1 quS fn (by
  rw[←qAl]at h;exact qz5 h)
 simpa using h1
theorem qtX[Lent]{args:List AV}{H H':AH}{r:AV}{C:qk}{μ:MMap}{w:World}{vs:Array Value}(hr:qev args H=some (r,H'))(ha:qA C μ args vs)(hw:Wld C μ H w):
  vM Tryz.prog (callFunc 281 vs) w (xe C μ H w r H'):=
 qod (P:=Tryz.prog) Tryz.func281 (by rfl) (by rfl) (by kernel_rfl) (by kernel_rfl) hr ha hw
theorem qeA [Lent] : CfgOk cfg where
  ty := ⟨fun t ti h => BT.all_look qmX h⟩
  mixed := qh7
  named := fun f fn _ h => qh6 f fn h
  ext := fun f s h args H r H' hr C μ w vs ha hw => by
    have h : z3 f qgv = some s := h
    unfold qgv at h
    rw [z3] at h
    split at h
    · rename_i e
      have e := qzY e
      subst e
      cases h
      exact qtX hr ha hw
    · rw [qj5] at h
      first
        | (rw [z3] at h; cases h; done)
        | (have okK : CfgOk K.cfg := {
             ty := ⟨fun t ti h => BT.all_look (show K.qmv.All _ from qmX) h⟩
             mixed := qh7
             named := fun f fn _ h => qh6 f fn h
             ext := fun f s h args H r H' hr C μ w vs ha hw => by
               have h : K.z3 f K.qgv = some s := h
               unfold K.qgv at h
               rw [K.z3] at h
               split at h
               · rename_i e
                 have e := qzY e
                 subst e
                 cases h
                 exact qtX hr ha hw
               · rw [K.qj5, K.z3] at h
                 cases h }
           rw [z3] at h
           split at h
           · rename_i e
             have e := qzY e
             subst e
             cases h
             exact (qfp okK).calls _ _ _ _ _ hr C μ w vs _ ha hw rfl
           · rw [z3] at h
             cases h)
theorem qlw{f:FuncId}{args:List AV}{vs:Array Value}{W:World}(hx:cfg.ext f=none)(he:EVs (EV cfg) f args=some (.bool true))(ha:qA (C0 W) M0 args vs):
  Calls Tryz.prog f vs W λe W'=>e= .returned (.bool true)∧(∀b,b<W.heap.size->W'.heap[b]? =W.heap[b]?)∧W.heap.size<=W'.heap.size∧W'.os=W.os∧W'.output=W.output:=by
 unfold EVs at he;obtain⟨q,h1,h2⟩:=qzZ.1 he;have:=qoE qeA hx (r:=q.1) (H':=q.2) h1 ha (wld0 W);refine this.mono λe W' ⟨v,hv,C',μ',p1,p2,p3⟩=>?_
 rw[h2]at p1;cases p1;refine⟨hv,λb hb=>(p3.fr b hb vY).1,p3.size,p3.os,p3.output⟩
end Go.Proofs.YtafdkafbgohigaaGreat
end
noncomputable section
namespace Go.Av
mutual
def AV.wt:AV->Nat
 | .str s=>s.length+1
 | .sl rows=>wtR rows+1
 |_=>1
def wtL:List AV->Nat
 |[]=>0
 |a::l=>a.wt+wtL l
def wtR:List (List AV)->Nat
 |[]=>0
 |a::l=>wtL a+wtR l
end
@[simp] theorem qp8:wtL []=0:=by rw[wtL]
@[simp] theorem qmS(a:AV)(l:List AV):wtL (a::l)=a.wt+wtL l:=by rw[wtL]
@[simp] theorem wtR_nil:wtR []=0:=by rw[wtR]
@[simp] theorem qum(a:List AV)(l:List (List AV)):wtR (a::l)=wtL a+wtR l:=by rw[wtR]
@[simp] theorem qxY(k:IntKind)(n:Int):(AV.int k n).wt=1:=by rw[AV.wt]<;>simp
@[simp] theorem wt_bool(b:Bool):(AV.bool b).wt=1:=by rw[AV.wt]<;>simp
@[simp] theorem qxX(s:List UInt8):(AV.str s).wt=s.length+1:=by rw[AV.wt]
@[simp] theorem qwF(r:List (List AV)):(AV.sl r).wt=wtR r+1:=by rw[AV.wt]
theorem qqy(a b:List AV):wtL (a++b)=wtL a+wtL b:=by
 induction a with
 |nil=>simp
 |cons x l ih=>simp[ih];omega
end Go.Av
namespace Go.Proofs.YtafdkafbgohigaaGreat
open Go.Av Go.WideShapes
def qiR(P:Program):Nat->List Field->Option Nat
 |off,[]=>some off
 |off,f::fs=>if f.offset=off then qiR P (off+P.cellsOf f.type) fs else none
def qgs(P:Program)(ts:List TypeId)(t:TypeId):Bool:=
 match P.underlying t with
 |some (.int _)|some .bool|some .string=>decide (P.cellsOf t=1)
 |some (.struct fs)=>decide (qiR P 0 fs.toList=some (P.cellsOf t))&&fs.toList.all (λf=>decide (f.type∈ts))
 |some (.slice e)=>decide (P.cellsOf t=1)&&(decide (e∈ts)&&decide (0<P.cellsOf e))
 |_=>false
def Lay(P:Program):Nat->TypeId->List AV->Prop
 |0,_,_=>False
 |n+1,t,cz=>
  match P.underlying t with
  |some (.int k)=>∃m,cz=[.int k m]∧(Lit.int k m).wf=true
  |some .bool=>∃b,cz=[.bool b]
  |some .string=>∃s,cz=[.str s]
  |some (.struct fs)=>cz.length=P.cellsOf t∧∀(i:Nat) f,fs[i]? =some f->Lay P n f.type ((cz.drop f.offset).take (P.cellsOf f.type))
  |some (.slice e)=>∃rows,cz=[.sl rows]∧∀row∈rows,row.length=P.cellsOf e∧Lay P n e row
  |_=>False
def xT(W:World)(cs:List Value)(cz:List AV):Prop:=cz.length=cs.length∧∀(j:Nat) a v,cz[j]? =some a->cs[j]? =some v->a.isCell=true∧Rep (C0 W) M0 a v
theorem xT.nil{W:World}:xT W [] []:=⟨rfl,λj a v h=>by simp at h⟩
theorem xT.one{W:World}{a:AV}{v:Value}(h1:a.isCell=true)(h2:Rep (C0 W) M0 a v):xT W [v] [a]:=⟨rfl,λj a' v' ha hv=>by
 match j,ha,hv with
 |0,ha,hv=>simp at ha hv;subst ha hv;exact⟨h1,h2⟩
 |j+1,ha,hv=>simp at ha⟩
theorem xT.append{W:World}{cs cs':List Value}{cz cz':List AV}(h:xT W cs cz)(h':xT W cs' cz'):xT W (cs++cs') (cz++cz'):=by
 refine⟨by simp[h.1,h'.1],λj a v ha hv=>?_⟩
 by_cases hj:j<cz.length
 ·rw[qz6 hj]at ha;rw[qz6 (by rw[←h.1];exact hj)]at hv;exact h.2 j a v ha hv
 ·rw[qz2 (by omega)]at ha;rw[qz2 (by rw[←h.1];omega),←h.1]at hv;exact h'.2 _ a v ha hv
noncomputable section
variable {H : Type} {enc : TypeId × Value → H} {P : Program} {W : World}
def qwY(enc:TypeId×Value->H)(P:Program)(W:World)(n:Nat)(t:TypeId):Prop:=
 ∀cs x,DataW.trod enc P W 0 (λ_=>true) true n t cs=some x->∃cz,xT W cs cz∧cs.length=P.cellsOf t∧Lay P n t cz∧wtL cz<=Rows.uptoBulk x.1∧qE 0 cz=true ∧
  ∀(W':World) (sp:Nat->Bool),(∀p∈x.2,W.sameAt W' p)->(∀p∈x.2,sp p.block=true)->DataW.trod enc P W' 0 sp true n t cs=some x
theorem qpk{n:Nat}{ts:List TypeId}(ih:∀t∈ts,qwY enc P W n t){cs:List Value}:∀(fs:List Field) (off:Nat),qiR P off fs=some cs.length->(∀f∈fs,f.type∈ts) ->
  ∀xs,(fs.mapM λf=>DataW.trod enc P W 0 (λ_=>true) true n f.type ((cs.drop f.offset).take (P.cellsOf f.type)))=some xs ->
  ∃cz,xT W (cs.drop off) cz∧(∀f∈fs,off<=f.offset∧Lay P n f.type ((cz.drop (f.offset - off)).take (P.cellsOf f.type)))∧wtL cz<=Rows.uptoBulkAll (xs.map (·.1))∧qE 0 cz=true ∧
   ∀(W':World) (sp:Nat->Bool),(∀p∈xs.flatMap (·.2),W.sameAt W' p)->(∀p∈xs.flatMap (·.2),sp p.block=true) ->
    (fs.mapM λf=>DataW.trod enc P W' 0 sp true n f.type ((cs.drop f.offset).take (P.cellsOf f.type)))=some xs:=by
 intro fs
 induction fs with
 |nil=>
  intro off ht _ xs hx;rw[qiR]at ht;cases ht;simp at hx;subst hx;refine⟨[],?_,λf hf=>by simp at hf,by simp,rfl,λW' sp _ _=>by simp⟩;rw[List.drop_length];exact xT.nil
 |cons f fs ihf=>
  intro off ht hin xs hx;rw[qiR]at ht;split at ht
  ·rename_i ho;rw[List.mapM_cons]at hx;obtain⟨x,h1,hx⟩:=qzX.1 hx;obtain⟨ys,h2,hx⟩:=qzX.1 hx;cases hx;obtain⟨a1,c1,l1,y1,w1,r1,b1⟩:=ih f.type (hin f (by simp)) _ _ h1;obtain⟨a2,c2,y2,w2,r2,b2⟩:=ihf (off+P.cellsOf f.type) ht (λg hg=>hin g (by simp[hg])) ys h2;have hlen:a1.length=P.cellsOf f.type:=by rw[c1.1,l1]
   refine⟨a1++a2,?_,λg hg=>?_,?_,qaL r1 r2,λW' sp hs hp=>?_⟩
   ·have:=c1.append c2;rw[ho,←List.drop_drop,List.take_append_drop]at this;exact this
   ·rcases qAd.1 hg with rfl|hg
    ·refine⟨by omega,?_⟩;rw[ho,Nat.sub_self,List.drop_zero,←hlen,List.take_append_of_le_length (qz0 _),qz4];exact y1
    ·obtain⟨g1,g2⟩:=y2 g hg;refine⟨by omega,?_⟩;have:List.drop (g.offset - off) (a1++a2)=List.drop (g.offset - (off+P.cellsOf f.type)) a2:=by
      have e:g.offset - off=a1.length+(g.offset - (off+P.cellsOf f.type)):=by omega
      rw[e,←List.drop_drop,List.drop_left]
     rw[this];exact g2
   ·rw[qqy];simp only[List.map_cons,Rows.uptoBulkAll];omega
   ·rw[List.mapM_cons,b1 W' sp (λp hpp=>hs p (by simp[hpp])) (λp hpp=>hp p (by simp[hpp]))];have b3:=b2 W' sp (λp hpp=>hs p (by rw[List.flatMap_cons];exact List.mem_append_right _ hpp)) (λp hpp=>hp p (by rw[List.flatMap_cons];exact List.mem_append_right _ hpp));show Option.bind _ _=_;rw[qz3];show Option.bind _ _=_;rw[b3];rfl
  ·cases ht
theorem qlU{e:Nat}:∀(rows:List (List AV)) (ds:List (DataW H)),rows.length=ds.length->(∀(i:Nat) row d,rows[i]? =some row->ds[i]? =some d->wtL row<=Rows.uptoBulk d)->wtR rows<=Rows.uptoBulkAll ds
 |[],[],_,_=>by simp[Rows.uptoBulkAll]
 |t::l,d::ds,hl,h=>by
  have h0:=h 0 t d rfl rfl;have:=qlU (e:=e) l ds (by simpa using hl) (λi t d ht hd=>h (i+1) t d (by simpa using ht) (by simpa using hd));simp only[qum,Rows.uptoBulkAll];omega
theorem quM{ts:List TypeId}(hts:∀t∈ts,qgs P ts t=true):∀(n:Nat),∀t∈ts,qwY enc P W n t:=by
 intro n
 induction n with
 |zero=>intro t _ cs x h;simp[DataW.trod]at h
 |succ n ih=>
  intro t ht cs x h;have hg:=hts t ht;unfold qgs at hg;split at hg
  ·rename_i k hu;obtain⟨m,rfl,rfl,hw⟩:=DataW.trod_int hu h;refine⟨[.int k m],xT.one rfl (.int _ _),(of_decide_eq_true hg).symm,by unfold Lay;rw[hu];exact⟨m,rfl,hw⟩,by simp[Rows.uptoBulk],rfl,λW' sp _ _=>?_⟩;simp[DataW.trod,hu,hw]
  ·rename_i hu;obtain⟨b,rfl,rfl⟩:=DataW.trod_bool hu h;refine⟨[.bool b],xT.one rfl (.bool _),(of_decide_eq_true hg).symm,by unfold Lay;rw[hu];exact⟨b,rfl⟩,by simp[Rows.uptoBulk],rfl,λW' sp _ _=>?_⟩;simp[DataW.trod,hu]
  ·rename_i hu;obtain⟨s,rfl,rfl,hw⟩:=DataW.trod_string hu h;refine⟨[.str s.data.toList],xT.one rfl ?_,(of_decide_eq_true hg).symm,by unfold Lay;rw[hu];exact⟨_,rfl⟩,by simp[Rows.uptoBulk],rfl,λW' sp _ _=>?_⟩
   ·have:=Rep.str (C:=C0 W) (μ:=M0) s.data.toList
    simpa using this
   ·simp[DataW.trod,hu,hw]
  ·rename_i fs hu;rw[qzR,decide_eq_true_eq,List.all_eq_true]at hg;have h':=h;unfold DataW.trod at h';rw[hu]at h';simp only[]at h';split at h'
   ·rename_i hl;obtain⟨xs,hx,rfl⟩:=qzZ.1 h';rw[←hl]at hg;obtain⟨cz,c,y,w,r,b⟩:=qpk ih fs.toList 0 hg.1 (λf hf=>of_decide_eq_true (hg.2 f hf)) xs hx;rw[List.drop_zero]at c;refine⟨cz,c,hl,?_,?_,r,λW' sp hs hp=>?_⟩
    ·unfold Lay;rw[hu];refine⟨by rw[c.1,hl],λi f hf=>?_⟩;have:=y f (by rw[←qAl]at hf;exact qz5 hf);rw[Nat.sub_zero]at this;exact this.2
    ·simp only[Rows.uptoBulk];omega
    ·unfold DataW.trod;rw[hu];simp only[];rw[qAw hl,b W' sp hs hp];rfl
   ·cases h'
  ·rename_i e hu;rw[qzR,qzR,decide_eq_true_eq,decide_eq_true_eq,decide_eq_true_eq]at hg;obtain⟨hc1,he,hpos⟩:=hg;rcases DataW.trod_slice hu h with⟨rfl,rfl⟩|⟨a,len,cap,elems,rest,n',e',rfl,rfl,hb,hlc,hmx,hel,hg,hsp,_⟩
   ·refine⟨[.sl []],xT.one rfl .slNil,hc1.symm,by unfold Lay;rw[hu];exact⟨[],rfl,λr hr=>by simp at hr⟩,by simp[Rows.uptoBulk],rfl,λW' sp _ _=>?_⟩;simp[DataW.trod,hu]
   ·obtain rfl:n'=n:=by omega
    obtain⟨hrl,hrg⟩:=hsp rfl;have ihe:=ih e he;have tms:∃f:Nat->List AV,∀(i:Nat) y,elems[i]? =some y->∃cs',W.cells? 0 (a.add (i*P.cellsOf e)) (P.cellsOf e)=some cs'∧xT W cs' (f i)∧cs'.length=P.cellsOf e∧Lay P n' e (f i)∧wtL (f i)<=Rows.uptoBulk y.1∧qE 0 (f i)=true:=by
     have:∀i:Nat,∃t:List AV,∀y,elems[i]? =some y->∃cs',W.cells? 0 (a.add (i*P.cellsOf e)) (P.cellsOf e)=some cs'∧xT W cs' t∧cs'.length=P.cellsOf e∧Lay P n' e t∧wtL t<=Rows.uptoBulk y.1∧qE 0 t=true:=by
      intro i;cases hy:elems[i]? with
      |none=>exact⟨default,λy h=>by cases h⟩
      |some y=>
       have hi:i<len:=by rw[←hel];exact(qzW.1 hy).1
       obtain⟨cs',h1,h2⟩:=qzX.1 ((hg i hi).trans hy);obtain⟨t,h3,h4,h5,h6,h7,_⟩:=ihe _ _ h2;exact⟨t,λy' hy'=>by cases hy';exact⟨cs',h1,h3,h4,h5,h6,h7⟩⟩
     exact⟨λi=>Classical.choose (this i),λi=>Classical.choose_spec (this i)⟩
    obtain⟨f,hf⟩:=tms;have hget:∀(i:Nat) (row:List AV),((qAs len).map f)[i]? =some row->i<len∧row=f i:=by
     intro i row hi;have hil:i<len:=by have:=(qzW.1 hi).1;simpa using this
     refine⟨hil,?_⟩;rw[List.getElem?_map,List.getElem?_range hil]at hi
     simpa using hi.symm
    have hrow:∀(i:Nat) (row:List AV),((qAs len).map f)[i]? =some row->row.length=P.cellsOf e∧Lay P n' e row∧qE 0 row=true:=by
     intro i row hi;obtain⟨hil,rfl⟩:=hget i row hi;obtain⟨cs',h1,h2,h3,h4,h5,h6⟩:=hf i _ (qzS (by omega));exact⟨by rw[h2.1,h3],h4,h6⟩
    have hspot:((qAs len).map f)≠[]->a.spot=none:=by
     intro hne;have hl0:0<len:=by
      rcases Nat.eq_zero_or_pos len with h0|h0
      ·subst h0;exact absurd (by simp) hne
      ·exact h0
     obtain⟨cs0,q1,_⟩:=hf 0 _ (qzS (by omega));have:=(qaQ q1 (by omega)).1
     simpa [Addr.add]using this
    have hcell:∀(i j:Nat) (row:List AV) x,((qAs len).map f)[i]? =some row->row[j]? =some x->x.isCell=true∧∃v,W.cell? ⟨a.block,a.off+i*P.cellsOf e+j,none⟩=some v∧Rep (C0 W) M0 x v:=by
     intro i j row x hi hj;have hs:=hspot (by intro h0;rw[h0]at hi;simp at hi);obtain⟨hil,rfl⟩:=hget i row hi;obtain⟨cs',h1,h2,h3,_⟩:=hf i _ (qzS (by omega));obtain⟨s1,s2,s3⟩:=qaQ h1 (by omega);have hjl:j<cs'.length:=by
      rw[←h2.1];exact(qzW.1 hj).1
     have h4:=h2.2 j x _ hj (qzS hjl);refine⟨h4.1,_,?_,h4.2⟩;have:=s3 j _ (qzS hjl);rw[yI _ _ hs]at this;exact this
    have hfree:qN 0 ((qAs len).map f)=true:=by
     have:∀l:List (List AV),(∀r∈l,qE 0 r=true)->qN 0 l=true:=by
      intro l
      induction l with
      |nil=>intro _;rfl
      |cons r l ih=>intro h;rw[qN,h r (by simp),ih λq hq=>h q (by simp[hq])];rfl
     refine this _ λr hr=>?_
     obtain⟨i,hi⟩:=List.getElem?_of_mem hr;exact(hrow i r hi).2.2
    refine⟨[.sl ((qAs len).map f)],xT.one rfl ?_,hc1.symm,?_,?_,rfl,λW' sp hs hp=>?_⟩
    ·have:=Rep.sl (C:=C0 W) (μ:=M0) ((qAs len).map f) a cap (P.cellsOf e) (λi j=>(W.cell? ⟨a.block,a.off+i*P.cellsOf e+j,none⟩).getD undef) hspot (λi row hi=>(hrow i row hi).1) (λi j row x hi hj=>?_) (λi j row x hi hj=>?_) (λi j row x hi hj=>?_) (by simpa using hlc) hfree
     ·simpa using this
     ·obtain⟨_,v,h1,_⟩:=hcell i j row x hi hj;show W.cell? _=_;rw[h1];rfl
     ·obtain⟨_,v,h1,h2⟩:=hcell i j row x hi hj;rw[h1];exact h2
     ·exact(hcell i j row x hi hj).1
    ·unfold Lay;rw[hu];refine⟨_,rfl,λrow hr=>?_⟩;obtain⟨i,hi⟩:=List.getElem?_of_mem hr;exact⟨(hrow i row hi).1,(hrow i row hi).2.1⟩
    ·simp only[Rows.uptoBulk,qmS,qp8,qwF];have:=qlU (e:=0) ((qAs len).map f) (elems.map (·.1)) (by simp[hel]) (λi t d ht hd=>by
      rw[List.getElem?_map]at ht hd;obtain⟨j,hj,rfl⟩:=qzZ.1 ht;obtain⟨y,hy,rfl⟩:=qzZ.1 hd;have hil:i<len:=by have:=(qzW.1 hj).1;simpa using this
      rw[List.getElem?_range hil]at hj;cases hj;obtain⟨_,_,_,_,_,h5,_⟩:=hf i y hy;exact h5)
     omega
    ·have hrow':0<(elems.length+rest.length)->sp a.block=true:=λhps=>hp (.cell a.block (a.off+0)) (by
      rw[qAh];exact .inl (MemPlace.mem_row.2 ⟨0,Nat.mul_pos hps hpos,rfl⟩))
     unfold DataW.trod at h⊢;rw[hu]at h⊢;simp only[if_true]at h⊢;rw[qAw ⟨hb,hlc,hmx⟩]at h⊢;simp only[qzZ,qzX]at h⊢;obtain⟨elems',he,rest',hr,hx⟩:=h;have hlen:elems'.length=len:=by simpa using mapM_some_length he
     have hrl':rest'.length=cap - len:=by simpa using mapM_some_length hr
     simp only[Prod.mk.injEq,DataW.slice.injEq]at hx;have one':∀(i:Nat) (y:DataW H×List MemPlace),i<elems'.length+rest'.length->y∈elems'++rest' ->
       (W.cells? 0 (a.add (i*P.cellsOf e)) (P.cellsOf e)).bind (DataW.trod enc P W 0 (λ_=>true) true n' e)=some y->(W'.cells? 0 (a.add (i*P.cellsOf e)) (P.cellsOf e)).bind (DataW.trod enc P W' 0 sp true n' e)=some y:=by
      intro i y hi hy hv;simp only[qzX]at hv⊢;obtain⟨cs',hc',hy'⟩:=hv;obtain⟨_,_,_,_,_,_,hbk⟩:=ihe _ _ hy';refine⟨cs',World.cells?_carry hc' (λp hpp=>hs p ?_),hbk W' sp (λp hpp=>hs p ?_) (λp hpp=>hp p ?_)⟩
      ·rw[←hx.2];obtain⟨j,hj,rfl⟩:=MemPlace.mem_row.1 hpp;simp only[qAh]
       left
       refine MemPlace.mem_row.2 ⟨i*P.cellsOf e+j,?_,?_⟩
       ·calc i*P.cellsOf e+j<i*P.cellsOf e+P.cellsOf e:=by omega
         _=(i+1)*P.cellsOf e:=by rw[qAr,Nat.one_mul]
         _<=(elems'.length+rest'.length)*P.cellsOf e:=qAg _ hi
       ·unfold Addr.add;split
        ·rename_i h0;simp[h0]
        ·simp[qAo]
      ·rw[←hx.2];simp only[qAh,List.mem_flatMap]
       right
       exact⟨y,by simpa using hy,hpp⟩
      ·rw[←hx.2];simp only[qAh,List.mem_flatMap]
       right
       exact⟨y,by simpa using hy,hpp⟩
     refine⟨elems',mapM_carry he (λi y hi hy=>one' i y (by have:i<len:=(by simpa using hi);omega) (by simp[hy])),rest',?_,by simp only[Prod.mk.injEq,DataW.slice.injEq];exact hx⟩
     by_cases h0:0<elems.length+rest.length
     ·rw[qAw (hrow' h0)];exact mapM_carry hr (λj y hj hy=>one' (len+j) y (by have:j<cap - len:=(by simpa using hj);omega) (by simp[hy]))
     ·have hc0:cap - len=0:=by omega
      rw[hc0]at hr⊢;simp at hr;subst hr;split<;>rfl
  ·cases hg
theorem qrk{ts:List TypeId}(hts:∀t∈ts,qgs P ts t=true){t e:TypeId}(ht:t∈ts)(hu:P.underlying t=some (.slice e)){r:Reach}{b0:Nat}{v:Value}{d:DataW H}{ps:List MemPlace}(hval:Value.okWide P W r b0 t v)(hd:DataW.Trod enc P W 0 (λ_=>true) true t v d ps):
  ∃(rows:List (List AV)) (n:Nat),Opened enc P W t v d ps (.sl rows)∧(∀row∈rows,row.length=P.cellsOf e∧Lay P n e row)∧wtR rows<Rows.uptoBulk d:=by
 obtain⟨a,len,cap,rfl⟩:=okWide_slice hu hval;obtain⟨n,hn⟩:=hd;obtain⟨cz,h1,h2,h3,h4,h5,h6⟩:=quM hts n t ht _ _ hn;cases n with
 |zero=>exact absurd h3 (by unfold Lay;exact id)
 |succ n=>
  unfold Lay at h3;rw[hu]at h3;obtain⟨rows,rfl,h3⟩:=h3;refine⟨rows,n,⟨?_,λW' sp hs hp=>⟨n+1,h6 W' sp hs hp⟩⟩,h3,?_⟩
  ·exact(h1.2 0 _ _ rfl (by simp[Value.cells])).2
  ·simp at h4;exact h4
end
theorem qtz{P:Program}{tT tL tI tS:TypeId}(T:TermTys P tT tL tI tS):∀(n:Nat),
  (∀cz,Lay P n tT cz->∃t:Tm,cz=t.cells∧t.w<wtL cz)∧(∀cz,Lay P n tL cz->∃l:List Tm,cz=[.sl (qb l)]∧wL l<wtL cz):=by
 intro n
 induction n with
 |zero=>exact⟨λcz h=>absurd h (by unfold Lay;exact id),λcz h=>absurd h (by unfold Lay;exact id)⟩
 |succ n ih=>
  refine⟨λcz h=>?_,λcz h=>?_⟩
  ·obtain⟨f0,f1,f2,f3,hu,t0,o0,t1,o1,t2,o2,t3,o3⟩:=T.uT;unfold Lay at h;rw[hu]at h;obtain⟨hl,hf⟩:=h;rw[T.cT]at hl;obtain⟨c0,c1,c2,c3,rfl⟩:∃c0 c1 c2 c3,cz=[c0,c1,c2,c3]:=by
    match cz,hl with
    |[a,b,c,d],_=>exact⟨a,b,c,d,rfl⟩
   have h0:=hf 0 f0 rfl;have h1:=hf 1 f1 rfl;have h2:=hf 2 f2 rfl;have h3:=hf 3 f3 rfl;rw[t0,o0,T.cI]at h0;rw[t1,o1,T.cI]at h1;rw[t2,o2,T.cS]at h2;rw[t3,o3,T.cL]at h3;simp at h0 h1 h2 h3;cases n with
   |zero=>exact absurd h0 (by unfold Lay;exact id)
   |succ n=>
    obtain⟨l,e3,w3⟩:=ih.2 _ h3;unfold Lay at h0 h1 h2;rw[T.uI]at h0 h1;rw[T.uS]at h2;obtain⟨k,e0,_⟩:=h0;obtain⟨m,e1,_⟩:=h1;obtain⟨s,e2⟩:=h2;simp at e0 e1 e2 e3;subst e0 e1 e2 e3;refine⟨.mk k m s l,by rw[Tm.cells_mk],?_⟩;rw[Tm.w_mk];simp only[qmS,qp8,qxY,qxX,qwF]at w3⊢;omega
  ·unfold Lay at h;rw[T.uL]at h;obtain⟨rows,rfl,hr⟩:=h;have:∀rows:List (List AV),(∀row∈rows,row.length=P.cellsOf tT∧Lay P n tT row)->∃l:List Tm,rows=qb l∧wL l<=wtR rows:=by
    intro rows
    induction rows with
    |nil=>intro _;exact⟨[],by rw[q6],by simp⟩
    |cons r rows ihr=>
     intro h;obtain⟨t,e1,w1⟩:=ih.1 r (h r (by simp)).2;obtain⟨l,e2,w2⟩:=ihr λq hq=>h q (by simp[hq])
     refine⟨t::l,by rw[q4,←e1,←e2],?_⟩;simp;omega
   obtain⟨l,rfl,w⟩:=this rows hr;exact⟨l,rfl,by simp;omega⟩
theorem qu1{α:Type}{P:Program}{n:Nat}{e:TypeId}{f:α->List AV}{w:α->Nat}(h:∀cz,Lay P n e cz->∃x:α,cz=f x∧w x<wtL cz):∀rows:List (List AV),(∀row∈rows,row.length=P.cellsOf e∧Lay P n e row) ->
  ∃l:List α,rows=l.map f∧(∀x∈l,w x<wtR rows)∧l.length<=wtR rows:=by
 intro rows
 induction rows with
 |nil=>intro _;exact⟨[],rfl,λx hx=>by simp at hx,by simp⟩
 |cons r rows ih=>
  intro hr;obtain⟨x,e1,w1⟩:=h r (hr r (by simp)).2;obtain⟨l,e2,w2,w3⟩:=ih λq hq=>hr q (by simp[hq])
  refine⟨x::l,by rw[List.map_cons,←e1,←e2],λy hy=>?_,by simp;omega⟩;rcases qAd.1 hy with rfl|hy
  ·simp;omega
  ·have:=w2 y hy;simp;omega
theorem qqp{H:Type}{l:List (DataW H)}(hk:Rows.uptoSmall H l=true){d:DataW H}(hd:d∈l):Rows.uptoBulk d<=1048576:=by
 have h:Rows.uptoBulkAll l<=1048576:=of_decide_eq_true hk;have:=qt2 hd;omega
end Go.Proofs.YtafdkafbgohigaaGreat
end
