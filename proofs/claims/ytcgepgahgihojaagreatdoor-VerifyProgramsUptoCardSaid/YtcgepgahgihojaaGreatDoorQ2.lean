import Derived.Test.YtcgepgahgihojaaGreatDoorProg
import Derived.KernelRfl
import GoSem.PinnedTables
import Derived.Test.YtcgepgahgihojaaGreatDoorQ1
namespace Go.Proofs.YtcgepgahgihojaaGreatDoor
open Go.St
def td1:TD:=⟨.func,1,8,[.nilfn]⟩
def td2:TD:=⟨(.int .i64),1,8,[.int .i64 0]⟩
def td3:TD:=⟨(.int .i64),1,8,[.int .i64 0]⟩
def td4:TD:=⟨.bool,1,1,[.bool false]⟩
def td5:TD:=⟨(.int .u8),1,1,[.int .u8 0]⟩
def td6:TD:=⟨(.int .u8),1,1,[.int .u8 0]⟩
def td7:TD:=⟨(.struct [(0,2),(1,3),(2,4),(3,6)]),4,24,[.int .i64 0, .int .i64 0, .bool false, .int .u8 0]⟩
def td8:TD:=⟨(.struct [(0,2),(1,3),(2,4),(3,6)]),4,24,[.int .i64 0, .int .i64 0, .bool false, .int .u8 0]⟩
def td9:TD:=⟨.str,1,16,[.str ⟨#[]⟩]⟩
def td10:TD:=⟨.str,1,16,[.str ⟨#[]⟩]⟩
def td11:TD:=⟨.str,1,16,[.str ⟨#[]⟩]⟩
def td12:TD:=⟨(.int .u64),1,8,[.int .u64 0]⟩
def td13:TD:=⟨(.struct [(0,9),(1,12)]),2,24,[.str ⟨#[]⟩, .int .u64 0]⟩
def td14:TD:=⟨(.struct [(0,9),(1,12)]),2,24,[.str ⟨#[]⟩, .int .u64 0]⟩
def td15:TD:=⟨(.ptr 159),1,8,[.nilp]⟩
def td16:TD:=⟨(.ptr 162),1,8,[.nilp]⟩
def td17:TD:=⟨(.ptr 172),1,8,[.nilp]⟩
def td18:TD:=⟨(.struct [(0,17)]),1,8,[.nilp]⟩
def td19:TD:=⟨(.struct [(0,17)]),1,8,[.nilp]⟩
def td20:TD:=⟨(.iface 0),1,16,[.nili]⟩
def td21:TD:=⟨(.int .i32),1,4,[.int .i32 0]⟩
def td22:TD:=⟨(.slice 9),1,24,[.nils]⟩
def td23:TD:=⟨(.slice 76),1,24,[.nils]⟩
def td24:TD:=⟨(.slice 75),1,24,[.nils]⟩
def td25:TD:=⟨(.slice 58),1,24,[.nils]⟩
def td26:TD:=⟨(.struct [(0,22),(1,23),(2,24),(3,25)]),4,96,[.nils, .nils, .nils, .nils]⟩
def td27:TD:=⟨(.struct [(0,22),(1,23),(2,24),(3,25)]),4,96,[.nils, .nils, .nils, .nils]⟩
def td28:TD:=⟨.func,1,8,[.nilfn]⟩
def td29:TD:=⟨.func,1,8,[.nilfn]⟩
def td30:TD:=⟨(.int .i64),1,8,[.int .i64 0]⟩
def td32:TD:=⟨.func,1,8,[.nilfn]⟩
def td34:TD:=⟨.func,1,8,[.nilfn]⟩
def td35:TD:=⟨.func,1,8,[.nilfn]⟩
def td36:TD:=⟨.func,1,8,[.nilfn]⟩
def td37:TD:=⟨.func,1,8,[.nilfn]⟩
def td38:TD:=⟨.func,1,8,[.nilfn]⟩
def td39:TD:=⟨.func,1,8,[.nilfn]⟩
def td40:TD:=⟨.func,1,8,[.nilfn]⟩
def td41:TD:=⟨.func,1,8,[.nilfn]⟩
def td42:TD:=⟨.func,1,8,[.nilfn]⟩
def td43:TD:=⟨.func,1,8,[.nilfn]⟩
def td44:TD:=⟨(.ptr 48),1,8,[.nilp]⟩
def td45:TD:=⟨(.ptr 27),1,8,[.nilp]⟩
def td46:TD:=⟨(.slice 52),1,24,[.nils]⟩
def td47:TD:=⟨(.struct [(0,45),(1,46)]),2,32,[.nilp, .nils]⟩
def td48:TD:=⟨(.struct [(0,45),(1,46)]),2,32,[.nilp, .nils]⟩
def td50:TD:=⟨.func,1,8,[.nilfn]⟩
def td51:TD:=⟨(.struct [(0,4),(1,4),(2,3),(3,3),(4,3)]),5,32,[.bool false, .bool false, .int .i64 0, .int .i64 0, .int .i64 0]⟩
def td52:TD:=⟨(.struct [(0,4),(1,4),(2,3),(3,3),(4,3)]),5,32,[.bool false, .bool false, .int .i64 0, .int .i64 0, .int .i64 0]⟩
def td53:TD:=⟨(.ptr 60),1,8,[.nilp]⟩
def td54:TD:=⟨(.ptr 58),1,8,[.nilp]⟩
def td55:TD:=⟨(.slice 86),1,24,[.nils]⟩
def td56:TD:=⟨(.slice 3),1,24,[.nils]⟩
def td57:TD:=⟨(.struct [(0,3),(1,55),(2,56)]),3,56,[.int .i64 0, .nils, .nils]⟩
def td58:TD:=⟨(.struct [(0,3),(1,55),(2,56)]),3,56,[.int .i64 0, .nils, .nils]⟩
def td59:TD:=⟨(.struct [(0,44),(1,3),(2,54),(3,52),(8,3),(9,56),(10,3),(11,9),(12,3)]),13,120,[.nilp, .int .i64 0, .nilp, .bool false, .bool false, .int .i64 0, .int .i64 0, .int .i64 0, .int .i64 0, .nils, .int .i64 0, .str ⟨#[]⟩, .int .i64 0]⟩
def td60:TD:=⟨(.struct [(0,44),(1,3),(2,54),(3,52),(8,3),(9,56),(10,3),(11,9),(12,3)]),13,120,[.nilp, .int .i64 0, .nilp, .bool false, .bool false, .int .i64 0, .int .i64 0, .int .i64 0, .int .i64 0, .nils, .int .i64 0, .str ⟨#[]⟩, .int .i64 0]⟩
def td61:TD:=⟨(.ptr 64),1,8,[.nilp]⟩
def td62:TD:=⟨(.slice 67),1,24,[.nils]⟩
def td63:TD:=⟨(.struct [(0,27),(4,62),(5,3),(6,3),(7,3),(8,3),(9,3),(10,56),(11,22)]),12,208,[.nils, .nils, .nils, .nils, .nils, .int .i64 0, .int .i64 0, .int .i64 0, .int .i64 0, .int .i64 0, .nils, .nils]⟩
def td64:TD:=⟨(.struct [(0,27),(4,62),(5,3),(6,3),(7,3),(8,3),(9,3),(10,56),(11,22)]),12,208,[.nils, .nils, .nils, .nils, .nils, .int .i64 0, .int .i64 0, .int .i64 0, .int .i64 0, .int .i64 0, .nils, .nils]⟩
def td65:TD:=⟨.func,1,8,[.nilfn]⟩
def td66:TD:=⟨(.struct [(0,3),(1,3),(2,3),(3,4),(4,4)]),5,32,[.int .i64 0, .int .i64 0, .int .i64 0, .bool false, .bool false]⟩
def td67:TD:=⟨(.struct [(0,3),(1,3),(2,3),(3,4),(4,4)]),5,32,[.int .i64 0, .int .i64 0, .int .i64 0, .bool false, .bool false]⟩
def td68:TD:=⟨.func,1,8,[.nilfn]⟩
def td69:TD:=⟨.func,1,8,[.nilfn]⟩
def td70:TD:=⟨.func,1,8,[.nilfn]⟩
def td71:TD:=⟨.func,1,8,[.nilfn]⟩
def td72:TD:=⟨.func,1,8,[.nilfn]⟩
def td73:TD:=⟨(.slice 133),1,24,[.nils]⟩
def td74:TD:=⟨(.struct [(0,9),(1,9),(2,73),(3,24)]),4,80,[.str ⟨#[]⟩, .str ⟨#[]⟩, .nils, .nils]⟩
def td75:TD:=⟨(.struct [(0,9),(1,9),(2,73),(3,24)]),4,80,[.str ⟨#[]⟩, .str ⟨#[]⟩, .nils, .nils]⟩
def td76:TD:=⟨(.slice 99),1,24,[.nils]⟩
def td77:TD:=⟨.func,1,8,[.nilfn]⟩
def td78:TD:=⟨.func,1,8,[.nilfn]⟩
def td79:TD:=⟨.func,1,8,[.nilfn]⟩
def td80:TD:=⟨.func,1,8,[.nilfn]⟩
def td81:TD:=⟨.func,1,8,[.nilfn]⟩
def td82:TD:=⟨.func,1,8,[.nilfn]⟩
def td83:TD:=⟨.func,1,8,[.nilfn]⟩
def td84:TD:=⟨(.ptr 86),1,8,[.nilp]⟩
def td85:TD:=⟨(.struct [(0,3),(1,3),(2,3),(3,3),(4,56)]),5,56,[.int .i64 0, .int .i64 0, .int .i64 0, .int .i64 0, .nils]⟩
def td86:TD:=⟨(.struct [(0,3),(1,3),(2,3),(3,3),(4,56)]),5,56,[.int .i64 0, .int .i64 0, .int .i64 0, .int .i64 0, .nils]⟩
def td87:TD:=⟨(.ptr 3),1,8,[.nilp]⟩
def td88:TD:=⟨.func,1,8,[.nilfn]⟩
def td89:TD:=⟨.func,1,8,[.nilfn]⟩
def td90:TD:=⟨.func,1,8,[.nilfn]⟩
def td91:TD:=⟨.func,1,8,[.nilfn]⟩
def td92:TD:=⟨.func,1,8,[.nilfn]⟩
def td93:TD:=⟨.func,1,8,[.nilfn]⟩
def td94:TD:=⟨.func,1,8,[.nilfn]⟩
def td95:TD:=⟨.func,1,8,[.nilfn]⟩
def td96:TD:=⟨.func,1,8,[.nilfn]⟩
def td97:TD:=⟨.func,1,8,[.nilfn]⟩
def td98:TD:=⟨(.struct [(0,3),(1,3)]),2,16,[.int .i64 0, .int .i64 0]⟩
def td99:TD:=⟨(.struct [(0,3),(1,3)]),2,16,[.int .i64 0, .int .i64 0]⟩
def td100:TD:=⟨.func,1,8,[.nilfn]⟩
def td101:TD:=⟨.func,1,8,[.nilfn]⟩
def td102:TD:=⟨.func,1,8,[.nilfn]⟩
def td103:TD:=⟨.func,1,8,[.nilfn]⟩
def td104:TD:=⟨(.ptr 106),1,8,[.nilp]⟩
def td105:TD:=⟨(.struct [(0,76),(1,3),(2,3),(3,56)]),4,64,[.nils, .int .i64 0, .int .i64 0, .nils]⟩
def td106:TD:=⟨(.struct [(0,76),(1,3),(2,3),(3,56)]),4,64,[.nils, .int .i64 0, .int .i64 0, .nils]⟩
def td107:TD:=⟨.func,1,8,[.nilfn]⟩
def td108:TD:=⟨(.struct [(0,3),(1,3),(2,30)]),3,24,[.int .i64 0, .int .i64 0, .int .i64 0]⟩
def td109:TD:=⟨(.struct [(0,3),(1,3),(2,30)]),3,24,[.int .i64 0, .int .i64 0, .int .i64 0]⟩
def td110:TD:=⟨.func,1,8,[.nilfn]⟩
def td111:TD:=⟨.func,1,8,[.nilfn]⟩
def td112:TD:=⟨(.slice 114),1,24,[.nils]⟩
def td113:TD:=⟨.func,1,8,[.nilfn]⟩
def td114:TD:=⟨(.arr 2 3),2,16,[.int .i64 0, .int .i64 0]⟩
def td115:TD:=⟨.func,1,8,[.nilfn]⟩
def td116:TD:=⟨.func,1,8,[.nilfn]⟩
def td118:TD:=⟨.func,1,8,[.nilfn]⟩
def td119:TD:=⟨.func,1,8,[.nilfn]⟩
def td120:TD:=⟨.func,1,8,[.nilfn]⟩
def td121:TD:=⟨.func,1,8,[.nilfn]⟩
def td122:TD:=⟨.func,1,8,[.nilfn]⟩
def td123:TD:=⟨.func,1,8,[.nilfn]⟩
def td125:TD:=⟨.func,1,8,[.nilfn]⟩
def td127:TD:=⟨.func,1,8,[.nilfn]⟩
def td128:TD:=⟨.func,1,8,[.nilfn]⟩
def td129:TD:=⟨.func,1,8,[.nilfn]⟩
def td130:TD:=⟨.func,1,8,[.nilfn]⟩
def td131:TD:=⟨.func,1,8,[.nilfn]⟩
def td132:TD:=⟨(.struct [(0,9),(1,9)]),2,32,[.str ⟨#[]⟩, .str ⟨#[]⟩]⟩
def td133:TD:=⟨(.struct [(0,9),(1,9)]),2,32,[.str ⟨#[]⟩, .str ⟨#[]⟩]⟩
def td134:TD:=⟨.func,1,8,[.nilfn]⟩
def td136:TD:=⟨.func,1,8,[.nilfn]⟩
def td137:TD:=⟨.func,1,8,[.nilfn]⟩
def td138:TD:=⟨.func,1,8,[.nilfn]⟩
def td139:TD:=⟨.func,1,8,[.nilfn]⟩
def td140:TD:=⟨(.ptr 109),1,8,[.nilp]⟩
def td141:TD:=⟨.func,1,8,[.nilfn]⟩
def td142:TD:=⟨.func,1,8,[.nilfn]⟩
def td143:TD:=⟨.func,1,8,[.nilfn]⟩
def td144:TD:=⟨.func,1,8,[.nilfn]⟩
def td145:TD:=⟨.func,1,8,[.nilfn]⟩
def td146:TD:=⟨.func,1,8,[.nilfn]⟩
def td147:TD:=⟨.func,1,8,[.nilfn]⟩
def td148:TD:=⟨(.ptr 75),1,8,[.nilp]⟩
def td149:TD:=⟨.func,1,8,[.nilfn]⟩
def td150:TD:=⟨.func,1,8,[.nilfn]⟩
def td151:TD:=⟨(.arr 256 5),256,256,[.int .u8 0, .int .u8 0, .int .u8 0, .int .u8 0, .int .u8 0, .int .u8 0, .int .u8 0, .int .u8 0, .int .u8 0, .int .u8 0, .int .u8 0, .int .u8 0, .int .u8 0, .int .u8 0, .int .u8 0, .int .u8 0, .int .u8 0, .int .u8 0, .int .u8 0, .int .u8 0, .int .u8 0, .int .u8 0, .int .u8 0, .int .u8 0, .int .u8 0, .int .u8 0, .int .u8 0, .int .u8 0, .int .u8 0, .int .u8 0, .int .u8 0, .int .u8 0, .int .u8 0, .int .u8 0, .int .u8 0, .int .u8 0, .int .u8 0, .int .u8 0, .int .u8 0, .int .u8 0, .int .u8 0, .int .u8 0, .int .u8 0, .int .u8 0, .int .u8 0, .int .u8 0, .int .u8 0, .int .u8 0, .int .u8 0, .int .u8 0, .int .u8 0, .int .u8 0, .int .u8 0, .int .u8 0, .int .u8 0, .int .u8 0, .int .u8 0, .int .u8 0, .int .u8 0, .int .u8 0, .int .u8 0, .int .u8 0, .int .u8 0, .int .u8 0, .int .u8 0, .int .u8 0, .int .u8 0, .int .u8 0, .int .u8 0, .int .u8 0, .int .u8 0, .int .u8 0, .int .u8 0, .int .u8 0, .int .u8 0, .int .u8 0, .int .u8 0, .int .u8 0, .int .u8 0, .int .u8 0, .int .u8 0, .int .u8 0, .int .u8 0, .int .u8 0, .int .u8 0, .int .u8 0, .int .u8 0, .int .u8 0, .int .u8 0, .int .u8 0, .int .u8 0, .int .u8 0, .int .u8 0, .int .u8 0, .int .u8 0, .int .u8 0, .int .u8 0, .int .u8 0, .int .u8 0, .int .u8 0, .int .u8 0, .int .u8 0, .int .u8 0, .int .u8 0, .int .u8 0, .int .u8 0, .int .u8 0, .int .u8 0, .int .u8 0, .int .u8 0, .int .u8 0, .int .u8 0, .int .u8 0, .int .u8 0, .int .u8 0, .int .u8 0, .int .u8 0, .int .u8 0, .int .u8 0, .int .u8 0, .int .u8 0, .int .u8 0, .int .u8 0, .int .u8 0, .int .u8 0, .int .u8 0, .int .u8 0, .int .u8 0, .int .u8 0, .int .u8 0, .int .u8 0, .int .u8 0, .int .u8 0, .int .u8 0, .int .u8 0, .int .u8 0, .int .u8 0, .int .u8 0, .int .u8 0, .int .u8 0, .int .u8 0, .int .u8 0, .int .u8 0, .int .u8 0, .int .u8 0, .int .u8 0, .int .u8 0, .int .u8 0, .int .u8 0, .int .u8 0, .int .u8 0, .int .u8 0, .int .u8 0, .int .u8 0, .int .u8 0, .int .u8 0, .int .u8 0, .int .u8 0, .int .u8 0, .int .u8 0, .int .u8 0, .int .u8 0, .int .u8 0, .int .u8 0, .int .u8 0, .int .u8 0, .int .u8 0, .int .u8 0, .int .u8 0, .int .u8 0, .int .u8 0, .int .u8 0, .int .u8 0, .int .u8 0, .int .u8 0, .int .u8 0, .int .u8 0, .int .u8 0, .int .u8 0, .int .u8 0, .int .u8 0, .int .u8 0, .int .u8 0, .int .u8 0, .int .u8 0, .int .u8 0, .int .u8 0, .int .u8 0, .int .u8 0, .int .u8 0, .int .u8 0, .int .u8 0, .int .u8 0, .int .u8 0, .int .u8 0, .int .u8 0, .int .u8 0, .int .u8 0, .int .u8 0, .int .u8 0, .int .u8 0, .int .u8 0, .int .u8 0, .int .u8 0, .int .u8 0, .int .u8 0, .int .u8 0, .int .u8 0, .int .u8 0, .int .u8 0, .int .u8 0, .int .u8 0, .int .u8 0, .int .u8 0, .int .u8 0, .int .u8 0, .int .u8 0, .int .u8 0, .int .u8 0, .int .u8 0, .int .u8 0, .int .u8 0, .int .u8 0, .int .u8 0, .int .u8 0, .int .u8 0, .int .u8 0, .int .u8 0, .int .u8 0, .int .u8 0, .int .u8 0, .int .u8 0, .int .u8 0, .int .u8 0, .int .u8 0, .int .u8 0, .int .u8 0, .int .u8 0, .int .u8 0, .int .u8 0, .int .u8 0, .int .u8 0, .int .u8 0, .int .u8 0, .int .u8 0, .int .u8 0, .int .u8 0, .int .u8 0, .int .u8 0, .int .u8 0, .int .u8 0, .int .u8 0, .int .u8 0, .int .u8 0, .int .u8 0, .int .u8 0]⟩
def td152:TD:=⟨(.int .u64),1,8,[.int .u64 0]⟩
def td153:TD:=⟨(.struct [(0,5),(1,5)]),2,2,[.int .u8 0, .int .u8 0]⟩
def td154:TD:=⟨(.struct [(0,5),(1,5)]),2,2,[.int .u8 0, .int .u8 0]⟩
def td155:TD:=⟨(.arr 16 154),32,32,[.int .u8 0, .int .u8 0, .int .u8 0, .int .u8 0, .int .u8 0, .int .u8 0, .int .u8 0, .int .u8 0, .int .u8 0, .int .u8 0, .int .u8 0, .int .u8 0, .int .u8 0, .int .u8 0, .int .u8 0, .int .u8 0, .int .u8 0, .int .u8 0, .int .u8 0, .int .u8 0, .int .u8 0, .int .u8 0, .int .u8 0, .int .u8 0, .int .u8 0, .int .u8 0, .int .u8 0, .int .u8 0, .int .u8 0, .int .u8 0, .int .u8 0, .int .u8 0]⟩
def td156:TD:=⟨.func,1,8,[.nilfn]⟩
def td157:TD:=⟨.func,1,8,[.nilfn]⟩
def td158:TD:=⟨(.struct [(0,17),(1,17),(2,17),(3,9)]),4,40,[.nilp, .nilp, .nilp, .str ⟨#[]⟩]⟩
def td159:TD:=⟨(.struct [(0,17),(1,17),(2,17),(3,9)]),4,40,[.nilp, .nilp, .nilp, .str ⟨#[]⟩]⟩
def td160:TD:=⟨(.arr 0 16),0,0,[]⟩
def td161:TD:=⟨(.struct [(0,160)]),0,0,[]⟩
def td162:TD:=⟨(.struct [(0,160)]),0,0,[]⟩
def td163:TD:=⟨.func,1,8,[.nilfn]⟩
def td164:TD:=⟨(.int .u32),1,4,[.int .u32 0]⟩
def td165:TD:=⟨(.int .u8),1,1,[.int .u8 0]⟩
def td166:TD:=⟨(.int .u8),1,1,[.int .u8 0]⟩
def td167:TD:=⟨.func,1,8,[.nilfn]⟩
def td168:TD:=⟨(.ptr 5),1,8,[.nilp]⟩
def td169:TD:=⟨(.int .i32),1,4,[.int .i32 0]⟩
def td170:TD:=⟨(.int .i32),1,4,[.int .i32 0]⟩
def td171:TD:=⟨(.struct [(0,12),(1,12),(2,164),(3,165),(4,5),(5,5),(6,166),(7,167),(8,168),(9,169),(10,170)]),11,48,[.int .u64 0, .int .u64 0, .int .u32 0, .int .u8 0, .int .u8 0, .int .u8 0, .int .u8 0, .nilfn, .nilp, .int .i32 0, .int .i32 0]⟩
def td172:TD:=⟨(.struct [(0,12),(1,12),(2,164),(3,165),(4,5),(5,5),(6,166),(7,167),(8,168),(9,169),(10,170)]),11,48,[.int .u64 0, .int .u64 0, .int .u32 0, .int .u8 0, .int .u8 0, .int .u8 0, .int .u8 0, .nilfn, .nilp, .int .i32 0, .int .i32 0]⟩
def td173:TD:=⟨.unsafeP,1,8,[.nilp]⟩
def glob1:List AV:=[.int .u8 128, .int .u8 191, .int .u8 160, .int .u8 191, .int .u8 128, .int .u8 159, .int .u8 144, .int .u8 191, .int .u8 128, .int .u8 143, .int .u8 0, .int .u8 0, .int .u8 0, .int .u8 0, .int .u8 0, .int .u8 0, .int .u8 0, .int .u8 0, .int .u8 0, .int .u8 0, .int .u8 0, .int .u8 0, .int .u8 0, .int .u8 0, .int .u8 0, .int .u8 0, .int .u8 0, .int .u8 0, .int .u8 0, .int .u8 0, .int .u8 0, .int .u8 0]
def glob0:List AV:=Go.Pinned.utf8FirstZ.map fun (n:Nat)=>AV.int .u8 (n:Int)
noncomputable def tab:List (TypeId × TD):=[(1,td1),(2,td2),(3,td3),(4,td4),(5,td5),(6,td6),(7,td7),(8,td8),(9,td9),(10,td10),(11,td11),(12,td12),(13,td13),(14,td14),(15,td15),(16,td16),(17,td17),(18,td18),(19,td19),(20,td20),(21,td21),(22,td22),(23,td23),(24,td24),(25,td25),(26,td26),(27,td27),(28,td28),(29,td29),(30,td30),(32,td32),(34,td34),(35,td35),(36,td36),(37,td37),(38,td38),(39,td39),(40,td40),(41,td41),(42,td42),(43,td43),(44,td44),(45,td45),(46,td46),(47,td47),(48,td48),(50,td50),(51,td51),(52,td52),(53,td53),(54,td54),(55,td55),(56,td56),(57,td57),(58,td58),(59,td59),(60,td60),(61,td61),(62,td62),(63,td63),(64,td64),(65,td65),(66,td66),(67,td67),(68,td68),(69,td69),(70,td70),(71,td71),(72,td72),(73,td73),(74,td74),(75,td75),(76,td76),(77,td77),(78,td78),(79,td79),(80,td80),(81,td81),(82,td82),(83,td83),(84,td84),(85,td85),(86,td86),(87,td87),(88,td88),(89,td89),(90,td90),(91,td91),(92,td92),(93,td93),(94,td94),(95,td95),(96,td96),(97,td97),(98,td98),(99,td99),(100,td100),(101,td101),(102,td102),(103,td103),(104,td104),(105,td105),(106,td106),(107,td107),(108,td108),(109,td109),(110,td110),(111,td111),(112,td112),(113,td113),(114,td114),(115,td115),(116,td116),(118,td118),(119,td119),(120,td120),(121,td121),(122,td122),(123,td123),(125,td125),(127,td127),(128,td128),(129,td129),(130,td130),(131,td131),(132,td132),(133,td133),(134,td134),(136,td136),(137,td137),(138,td138),(139,td139),(140,td140),(141,td141),(142,td142),(143,td143),(144,td144),(145,td145),(146,td146),(147,td147),(148,td148),(149,td149),(150,td150),(151,td151),(152,td152),(153,td153),(154,td154),(155,td155),(156,td156),(157,td157),(158,td158),(159,td159),(160,td160),(161,td161),(162,td162),(163,td163),(164,td164),(165,td165),(166,td166),(167,td167),(168,td168),(169,td169),(170,td170),(171,td171),(172,td172),(173,td173)]
noncomputable def fns:List (FuncId × Func):=[(3,Tryz.f3),(4,Tryz.f4),(5,Tryz.f5),(8,Tryz.f8),(9,Tryz.f9),(12,Tryz.f12),(13,Tryz.f13),(14,Tryz.f14),(15,Tryz.f15),(21,Tryz.f21),(22,Tryz.f22),(23,Tryz.f23),(24,Tryz.f24),(26,Tryz.f26),(27,Tryz.f27),(28,Tryz.f28),(29,Tryz.f29),(46,Tryz.f46),(47,Tryz.f47),(48,Tryz.f48),(49,Tryz.f49),(50,Tryz.f50),(51,Tryz.f51),(52,Tryz.f52),(53,Tryz.f53),(54,Tryz.f54),(55,Tryz.f55),(76,Tryz.f76),(77,Tryz.f77),(78,Tryz.f78),(79,Tryz.f79),(80,Tryz.f80),(81,Tryz.f81),(82,Tryz.f82),(83,Tryz.f83),(84,Tryz.f84),(85,Tryz.f85),(86,Tryz.f86),(101,Tryz.f101),(102,Tryz.f102),(6,Tryz.f6),(7,Tryz.f7),(10,Tryz.f10),(11,Tryz.f11),(16,Tryz.f16),(17,Tryz.f17),(18,Tryz.f18),(19,Tryz.f19),(20,Tryz.f20),(25,Tryz.f25),(30,Tryz.f30),(31,Tryz.f31),(32,Tryz.f32),(33,Tryz.f33),(34,Tryz.f34),(35,Tryz.f35),(36,Tryz.f36),(37,Tryz.f37),(38,Tryz.f38),(39,Tryz.f39),(40,Tryz.f40),(41,Tryz.f41),(42,Tryz.f42),(43,Tryz.f43),(44,Tryz.f44),(45,Tryz.f45),(56,Tryz.f56),(57,Tryz.f57),(58,Tryz.f58),(59,Tryz.f59),(60,Tryz.f60),(61,Tryz.f61),(62,Tryz.f62),(63,Tryz.f63),(64,Tryz.f64),(65,Tryz.f65),(66,Tryz.f66),(67,Tryz.f67),(68,Tryz.f68),(69,Tryz.f69),(70,Tryz.f70),(71,Tryz.f71),(72,Tryz.f72),(73,Tryz.f73),(74,Tryz.f74),(75,Tryz.f75),(87,Tryz.f87),(88,Tryz.f88),(89,Tryz.f89),(90,Tryz.f90),(91,Tryz.f91),(92,Tryz.f92),(93,Tryz.f93),(94,Tryz.f94),(95,Tryz.f95),(96,Tryz.f96),(97,Tryz.f97),(98,Tryz.f98),(99,Tryz.f99),(100,Tryz.f100),(103,Tryz.f103),(104,Tryz.f104),(105,Tryz.f105),(106,Tryz.f106),(107,Tryz.f107),(108,Tryz.f108),(109,Tryz.f109),(110,Tryz.f110),(111,Tryz.f111),(112,Tryz.f112)]
noncomputable def notes:List (FuncId × a0o):=[
 (3,{ keeps:=[],stops:=[],muts:=[],acts:=[] }),
 (4,{ keeps:=[],stops:=[],muts:=[],acts:=[] }),
 (5,{ keeps:=[],stops:=[],muts:=[],acts:=[] }),
 (8,{ keeps:=[],stops:=[],muts:=[],acts:=[] }),
 (9,{ keeps:=[],stops:=[],muts:=[],acts:=[] }),
 (12,{ keeps:=[],stops:=[],muts:=[],acts:=[] }),
 (13,{ keeps:=[([0,0,1,0,1,1],[0,3,4])],stops:=[[0,0,1,0,1,1]],muts:=[],acts:=[] }),
 (14,{ keeps:=[([0,0,1,0,1,1],[0,3,4])],stops:=[[0,0,1,0,1,1]],muts:=[],acts:=[] }),
 (15,{ keeps:=[([0,0,1,0,1,1],[0,3,4])],stops:=[[0,0,1,0,1,1]],muts:=[],acts:=[] }),
 (21,{ keeps:=[],stops:=[],muts:=[],acts:=[] }),
 (22,{ keeps:=[([1,0,1,1],[0,1,33]),([0,0,1,0,1,1,1],[0,1,6])],stops:=[[1,0,1,1],[0,0,1,0,1,1,1]],muts:=[],acts:=[] }),
 (23,{ keeps:=[([1,0,1,1],[0,1,37]),([0,0,1,0,1,1,1],[0,1,6])],stops:=[[1,0,1,1],[0,0,1,0,1,1,1]],muts:=[],acts:=[] }),
 (24,{ keeps:=[([1,0,1,1],[0,1,37]),([0,0,1,0,1,1,1],[0,1,6])],stops:=[[1,0,1,1],[0,0,1,0,1,1,1]],muts:=[],acts:=[] }),
 (26,{ keeps:=[],stops:=[],muts:=[],acts:=[] }),
 (27,{ keeps:=[],stops:=[],muts:=[],acts:=[] }),
 (28,{ keeps:=[],stops:=[],muts:=[],acts:=[] }),
 (29,{ keeps:=[],stops:=[],muts:=[],acts:=[] }),
 (46,{ keeps:=[([0,0,1,0,1,1],[0,1,5])],stops:=[[0,0,1,0,1,1]],muts:=[],acts:=[] }),
 (47,{ keeps:=[],stops:=[],muts:=[],acts:=[] }),
 (48,{ keeps:=[],stops:=[],muts:=[],acts:=[] }),
 (49,{ keeps:=[],stops:=[],muts:=[],acts:=[] }),
 (50,{ keeps:=[],stops:=[],muts:=[],acts:=[] }),
 (51,{ keeps:=[],stops:=[],muts:=[],acts:=[] }),
 (52,{ keeps:=[],stops:=[],muts:=[],acts:=[] }),
 (53,{ keeps:=[],stops:=[],muts:=[],acts:=[] }),
 (54,{ keeps:=[([0,0,1,0,1,1],[0,3,4])],stops:=[[0,0,1,0,1,1]],muts:=[],acts:=[] }),
 (55,{ keeps:=[],stops:=[],muts:=[],acts:=[] }),
 (76,{ keeps:=[([0,0,1,0,1,1],[0,1,5])],stops:=[[0,0,1,0,1,1]],muts:=[],acts:=[] }),
 (77,{ keeps:=[([0,0,1,0,1,1],[0,1,5])],stops:=[[0,0,1,0,1,1]],muts:=[],acts:=[] }),
 (78,{ keeps:=[([0,0,1,0,1,1],[0,1,5])],stops:=[[0,0,1,0,1,1]],muts:=[],acts:=[] }),
 (79,{ keeps:=[],stops:=[],muts:=[],acts:=[] }),
 (80,{ keeps:=[([0,0,1,0,1,1],[0,1,5])],stops:=[[0,0,1,0,1,1]],muts:=[],acts:=[] }),
 (81,{ keeps:=[([0,0,1,0,1,1],[0,1,5])],stops:=[[0,0,1,0,1,1]],muts:=[],acts:=[] }),
 (82,{ keeps:=[([1,0,1,1],[0,1,37]),([0,0,1,0,1,1,1],[0,1,6])],stops:=[[1,0,1,1],[0,0,1,0,1,1,1]],muts:=[],acts:=[] }),
 (83,{ keeps:=[],stops:=[],muts:=[],acts:=[] }),
 (84,{ keeps:=[],stops:=[],muts:=[],acts:=[] }),
 (85,{ keeps:=[],stops:=[],muts:=[],acts:=[] }),
 (86,{ keeps:=[],stops:=[],muts:=[],acts:=[] }),
 (101,{ keeps:=[],stops:=[],muts:=[],acts:=[] }),
 (102,{ keeps:=[],stops:=[],muts:=[],acts:=[] }),
 (6,{ keeps:=[([1,0,1,1,1],[1,5,32]),([0,0,1,0,1,1,1,1,1,1],[1,5,48,49])],stops:=[[1,0,1,1,1],[0,0,1,0,1,1,1,1,1,1]],muts:=[(12,21)],acts:=[] }),
 (7,{ keeps:=[([1,0,1,1,1],[1,5,27]),([0,0,1,0,1,1,1,1,1,1,1],[1,5]),([1,1,1,1],[1,5])],stops:=[[1,0,1,1,1],[0,0,1,0,1,1,1,1,1,1,1],[1,1,1,1]],muts:=[],acts:=[] }),
 (10,{ keeps:=[],stops:=[],muts:=[],acts:=[] }),
 (11,{ keeps:=[([0,0,1,0,1,1],[0,1,5])],stops:=[[0,0,1,0,1,1]],muts:=[],acts:=[] }),
 (16,{ keeps:=[([0,0,1,0,1],[0,16,17,18]),([1,1,0,0,1,1,0,0,1,0,1],[0,4,16,17,18,29]),([0,0,1,0,1,1],[0,38,39,40]),([1,1,0,0,1,1,0,0,1,0,1,1],[0,6,38,39,40,59]),([0,0,1,0,1,1,1],[68,69,70]),([1,1,0,0,1,1,0,0,1,0,1,1,1],[8,68,69,70,87])],stops:=[[0,0,1,0,1],[1,1,0,0,1,1,0,0,1,0,1],[0,0,1,0,1,1],[1,1,0,0,1,1,0,0,1,0,1,1],[0,0,1,0,1,1,1],[1,1,0,0,1,1,0,0,1,0,1,1,1]],muts:=[],acts:=[] }),
 (17,{ keeps:=[([1,0,0,1],[0,8]),([0,0,1,0,1,1],[0,43,44]),([1,1,1,0,0,1,1,1],[0,86]),([1,0,0,1,1,1],[0,64]),([0,0,1,0,1,1,1,1],[0,103,104,105]),([1,1,0,0,1,1,0,0,1,0,1,1,1,1],[0,6,103,104,105,139])],stops:=[[1,0,0,1],[0,0,1,0,1,1],[1,1,1,0,0,1,1,1],[1,0,0,1,1,1],[0,0,1,0,1,1,1,1],[1,1,0,0,1,1,0,0,1,0,1,1,1,1]],muts:=[],acts:=[] }),
 (18,{ keeps:=[([0,0,1,0,1],[0,2,3]),([1,0,0,1,0,0,1,0,1],[0,2,3,27]),([0,0,1,0,1,1],[0,2,4]),([1,0,0,1,0,0,1,0,1,1],[0,2,4,51]),([0,0,1,1,1,1],[0,2,5]),([1,0,0,1,0,0,1,1,1,1],[0,2,5,82])],stops:=[[0,0,1,0,1],[1,0,0,1,0,0,1,0,1],[0,0,1,0,1,1],[1,0,0,1,0,0,1,0,1,1],[0,0,1,1,1,1],[1,0,0,1,0,0,1,1,1,1]],muts:=[],acts:=[] }),
 (19,{ keeps:=[],stops:=[],muts:=[],acts:=[] }),
 (20,{ keeps:=[([0,0,1,0,1,1,1,1,1,1,1],[0,2,3]),([1,0,0,0,1,0,1,1,1,1,1,1,1],[0,2,3,68]),([1,0,1,1,1,1,1,1,1,1],[0,2,3,128]),([1,0,1,1,1,1,1,1,1,1,1],[0,2,141]),([0,0,1,1,1,1,1,1,1,1,1,1,1],[0,2,5]),([1,0,0,1,0,0,1,1,1,1,1,1,1,1,1,1,1],[0,2,5,178]),([1,1,0,0,1,1,1,1,1,1,1,1,1,1,1],[0,2,5]),([1,1,1,1,1,1,1,1,1,1],[0,2]),([1,1,1,1,1,1,1,1,1],[0,2,3]),([1,1,1,1],[0,2,3]),([1,1,1],[0,2,3])],stops:=[[0,0,1,0,1,1,1,1,1,1,1],[1,0,0,0,1,0,1,1,1,1,1,1,1],[1,0,1,1,1,1,1,1,1,1],[1,0,1,1,1,1,1,1,1,1,1],[0,0,1,1,1,1,1,1,1,1,1,1,1],[1,0,0,1,0,0,1,1,1,1,1,1,1,1,1,1,1],[1,1,0,0,1,1,1,1,1,1,1,1,1,1,1],[1,1,1,1,1,1,1,1,1,1],[1,1,1,1,1,1,1,1,1],[1,1,1,1],[1,1,1]],muts:=[(7,1)],acts:=[] }),
 (25,{ keeps:=[],stops:=[],muts:=[(1,7)],acts:=[] }),
 (30,{ keeps:=[],stops:=[],muts:=[],acts:=[] }),
 (31,{ keeps:=[([0,0,1,0,1,1,1],[0,7,27,28]),([0,0,1,0,1,1,1,1,1],[0,7,44,45])],stops:=[[0,0,1,0,1,1,1],[0,0,1,0,1,1,1,1,1]],muts:=[],acts:=[] }),
 (32,{ keeps:=[],stops:=[],muts:=[],acts:=[] }),
 (33,{ keeps:=[([0,0,1,0,1,1],[0,1,2,15,16,17]),([1,1,1,1,1,1,1,0,0,1,1,1],[0,1,2,71])],stops:=[[0,0,1,0,1,1],[1,1,1,1,1,1,1,0,0,1,1,1]],muts:=[],acts:=[] }),
 (34,{ keeps:=[],stops:=[],muts:=[],acts:=[] }),
 (35,{ keeps:=[([1,1,1,0,0,1,1],[0,3,20])],stops:=[[1,1,1,0,0,1,1]],muts:=[],acts:=[] }),
 (36,{ keeps:=[],stops:=[],muts:=[],acts:=[] }),
 (37,{ keeps:=[],stops:=[],muts:=[],acts:=[] }),
 (38,{ keeps:=[([0,0,1,0,1,1,1],[0,1,2,7,8]),([0,0,1,0,1,1,1,1],[0,1,2,7,9]),([1,0,1,1,1,1,1,0,0,1,0,0,1,0,1,1,1,1],[0,1,2,7,9,12,91]),([1,1,1,1,1,1,1,0,0,1,0,0,1,0,1,1,1,1],[0,1,2,7,9,110])],stops:=[[0,0,1,0,1,1,1],[0,0,1,0,1,1,1,1],[1,0,1,1,1,1,1,0,0,1,0,0,1,0,1,1,1,1],[1,1,1,1,1,1,1,0,0,1,0,0,1,0,1,1,1,1]],muts:=[],acts:=[(19,19)] }),
 (39,{ keeps:=[],stops:=[],muts:=[],acts:=[] }),
 (40,{ keeps:=[([1,0,1,1],[0,3,9,73]),([1,1,1,0,1,0,1,1,1],[0,3,9,75,87]),([0,0,1,0,1,1,1,1,1],[0,9,10,12]),([1,1,0,0,1,0,1,1,1,1,1],[0,9,10,12]),([1,1,1,1],[0,3,9])],stops:=[[1,0,1,1],[1,1,1,0,1,0,1,1,1],[0,0,1,0,1,1,1,1,1],[1,1,0,0,1,0,1,1,1,1,1],[1,1,1,1]],muts:=[],acts:=[] }),
 (41,{ keeps:=[([0,0,1,0,1,1],[0,5,6,7])],stops:=[[0,0,1,0,1,1]],muts:=[],acts:=[] }),
 (42,{ keeps:=[([1,0,1,0,1,1,1,1,1,0,1,0,1,1,1],[0,3,6,151]),([1,0,0,1,1,1,1,1,1,1,0,1,0,1,1,1],[0,6,185]),([1,1,1,1,1,0,1,0,1,1,1],[0,3,6,32,73]),([1,1,1,1],[])],stops:=[[1,0,1,0,1,1,1,1,1,0,1,0,1,1,1],[1,0,0,1,1,1,1,1,1,1,0,1,0,1,1,1],[1,1,1,1,1,0,1,0,1,1,1],[1,1,1,1]],muts:=[(7,6),(8,6)],acts:=[] }),
 (43,{ keeps:=[([0,0,1,0,1,1],[0,3,4,5]),([1,0,0,1,0,0,1,0,1,1],[0,3,4,5,64]),([0,0,1,0,1,1,1,1,1,1,1,1],[0,3,4,6,7,8]),([1,0,0,0,1,0,1,1,1,1,1,1,1,1],[0,3,4,6,7,8,126]),([1,1,1,1,1,1,1,1],[0,3,4,6,7]),([1,1,1,1,1,1,1],[0,3,4,6,7]),([1,1,1,1,1,1],[0,3,4,6,7])],stops:=[[0,0,1,0,1,1],[1,0,0,1,0,0,1,0,1,1],[0,0,1,0,1,1,1,1,1,1,1,1],[1,0,0,0,1,0,1,1,1,1,1,1,1,1],[1,1,1,1,1,1,1,1],[1,1,1,1,1,1,1],[1,1,1,1,1,1]],muts:=[],acts:=[] }),
 (44,{ keeps:=[([0,0,1,0,1,1,1,1,1],[0,3,4]),([1,1,0,0,1,0,0,1,0,1,1,1,1,1],[0,3,4]),([1,0,0,1,0,0,1,0,1,1,1,1,1],[0,3,4])],stops:=[[0,0,1,0,1,1,1,1,1],[1,1,0,0,1,0,0,1,0,1,1,1,1,1],[1,0,0,1,0,0,1,0,1,1,1,1,1]],muts:=[],acts:=[] }),
 (45,{ keeps:=[],stops:=[],muts:=[],acts:=[] }),
 (56,{ keeps:=[([0,0,1,0,1],[0,9])],stops:=[[0,0,1,0,1]],muts:=[],acts:=[] }),
 (57,{ keeps:=[([1,0,1,1,1,1,0,0,1,1,1],[0,1,5,6,7,8,37]),([1,1,1,1,1,1,1,0,0,1,1,1],[0,1,5,6,7,8,77]),([1,1,1,1,1,0,0,1,1,1],[0,1,5,6,7,8,37]),([1,0,1,0,1,1,1,1,1],[0,1,5,6,8,9,102,103]),([1,1,1,1,1,1,1],[9]),([1,1,1,1,1,1],[0,1,5,6,8,9])],stops:=[[1,0,1,1,1,1,0,0,1,1,1],[1,1,1,1,1,1,1,0,0,1,1,1],[1,1,1,1,1,0,0,1,1,1],[1,0,1,0,1,1,1,1,1],[1,1,1,1,1,1,1],[1,1,1,1,1,1]],muts:=[],acts:=[] }),
 (58,{ keeps:=[],stops:=[],muts:=[],acts:=[] }),
 (59,{ keeps:=[([1,0,1,1],[0,5,7,20]),([0,0,1,0,1,1,1],[0,5,7,22,23,24]),([1,1,1,1,1,1,1,1,1,1,1,1,1,1,1,1,1,0,1,0,1,1,1,1],[5,7,47,229]),([1,1,1,1,1,1,1,1,1,1,1,1,1,1,1,0,1,0,1,1,1,1],[5,7,47,215])],stops:=[[1,0,1,1],[0,0,1,0,1,1,1],[1,1,1,1,1,1,1,1,1,1,1,1,1,1,1,1,1,0,1,0,1,1,1,1],[1,1,1,1,1,1,1,1,1,1,1,1,1,1,1,0,1,0,1,1,1,1]],muts:=[],acts:=[(12,10),(14,10),(16,6),(18,6),(20,14),(22,10),(24,10),(27,10),(32,10)] }),
 (60,{ keeps:=[([0,0,1,0,1,0,1,1,1,1,1,1,1,0,1,0,1],[3,46,47,48]),([1,0,1,0,1],[0,9,10])],stops:=[[0,0,1,0,1,0,1,1,1,1,1,1,1,0,1,0,1],[1,0,1,0,1]],muts:=[],acts:=[] }),
 (61,{ keeps:=[([1,1,0,1,1,1,1,1,0,1,0,1,1],[100]),([1,1,1,1,1,0,1,0,1,1],[0,1,2,24,56]),([1,1,1],[])],stops:=[[1,1,0,1,1,1,1,1,0,1,0,1,1],[1,1,1,1,1,0,1,0,1,1],[1,1,1]],muts:=[],acts:=[] }),
 (62,{ keeps:=[([0,0,1,0,1,1],[0,5,10,11,12]),([1,1,0,0,1,1,0,0,1,0,1,1],[0,5,10,11,12,66])],stops:=[[0,0,1,0,1,1],[1,1,0,0,1,1,0,0,1,0,1,1]],muts:=[],acts:=[] }),
 (63,{ keeps:=[([0,0,1,0,1,1],[0,19,20,21])],stops:=[[0,0,1,0,1,1]],muts:=[],acts:=[] }),
 (64,{ keeps:=[([0,0,1,0],[0,1,2,10,11,12]),([1,1,1,0,0,1,1,0,0,1,0],[0,1,2,7,8,10,11,12]),([1,1,0,1,1,1,1,1,0,1,1],[0,1,139]),([1,1,1,0,1,1],[0,1,2,66,85])],stops:=[[0,0,1,0],[1,1,1,0,0,1,1,0,0,1,0],[1,1,0,1,1,1,1,1,0,1,1],[1,1,1,0,1,1]],muts:=[],acts:=[] }),
 (65,{ keeps:=[([0,0,0,1,1],[0,4])],stops:=[[0,0,0,1,1]],muts:=[],acts:=[] }),
 (66,{ keeps:=[([1,0,1],[1,2,3,4,5,18]),([1,0,1,1,1,0,0,1,1],[43]),([1,0,1,1,1,1,1,0,0,1,1],[56]),([1,0,1,1,1,1,1,1,1,0,0,1,1],[68]),([1,0,1,1,1,1,1,1,1,1,1,0,0,1,1],[82]),([1,1,1,0,0,1,1],[1,2,3,4,5,26]),([1,1,1],[])],stops:=[[1,0,1],[1,0,1,1,1,0,0,1,1],[1,0,1,1,1,1,1,0,0,1,1],[1,0,1,1,1,1,1,1,1,0,0,1,1],[1,0,1,1,1,1,1,1,1,1,1,0,0,1,1],[1,1,1,0,0,1,1],[1,1,1]],muts:=[],acts:=[] }),
 (67,{ keeps:=[([1,1,1,1,1,0,0,1],[0,31]),([1,1,1,0,0,1],[0,12]),([1,0,0,1],[0,5])],stops:=[[1,1,1,1,1,0,0,1],[1,1,1,0,0,1],[1,0,0,1]],muts:=[],acts:=[] }),
 (68,{ keeps:=[],stops:=[],muts:=[],acts:=[] }),
 (69,{ keeps:=[([1,0,1],[0,1,2,19])],stops:=[[1,0,1]],muts:=[],acts:=[] }),
 (70,{ keeps:=[([0,0,1,0,1],[0,1,2,8])],stops:=[[0,0,1,0,1]],muts:=[],acts:=[] }),
 (71,{ keeps:=[([1,1,1,1,1,1,1,0,1,0,1],[7,20]),([1,1,1,0,1,0,1],[7,15]),([1,0,1,0,1],[7,8])],stops:=[[1,1,1,1,1,1,1,0,1,0,1],[1,1,1,0,1,0,1],[1,0,1,0,1]],muts:=[],acts:=[] }),
 (72,{ keeps:=[],stops:=[],muts:=[],acts:=[] }),
 (73,{ keeps:=[([1,0,1,0,1],[1,5,6])],stops:=[[1,0,1,0,1]],muts:=[],acts:=[] }),
 (74,{ keeps:=[],stops:=[],muts:=[],acts:=[] }),
 (75,{ keeps:=[([1,0,1,1],[1,3,11]),([1,0,1,1,1],[1,3,34]),([1,1,1,1],[3]),([1,1,1],[1,3])],stops:=[[1,0,1,1],[1,0,1,1,1],[1,1,1,1],[1,1,1]],muts:=[],acts:=[] }),
 (87,{ keeps:=[([1,0,1],[0,10])],stops:=[[1,0,1]],muts:=[],acts:=[] }),
 (88,{ keeps:=[([1,1,1,1,1,0,0,1],[0,15]),([1,0,0,1],[0,4])],stops:=[[1,1,1,1,1,0,0,1],[1,0,0,1]],muts:=[],acts:=[] }),
 (89,{ keeps:=[([1,0,1,1,1,1,0,0,1],[1,24]),([1,1,1,1,1,0,0,1],[1,24]),([1,0,0,1],[1,3])],stops:=[[1,0,1,1,1,1,0,0,1],[1,1,1,1,1,0,0,1],[1,0,0,1]],muts:=[],acts:=[] }),
 (90,{ keeps:=[],stops:=[],muts:=[],acts:=[] }),
 (91,{ keeps:=[([1,1],[0,1,2])],stops:=[[1,1]],muts:=[],acts:=[] }),
 (92,{ keeps:=[([0,0,1,0,1],[0,1,2,9,10]),([1,1,1,1,1,0,0,1,1,0,0,1,0,1],[0,1,2,9,10,69]),([1,1,1,0,0,1,1,0,0,1,0,1],[0,1,2,7,9,10])],stops:=[[0,0,1,0,1],[1,1,1,1,1,0,0,1,1,0,0,1,0,1],[1,1,1,0,0,1,1,0,0,1,0,1]],muts:=[],acts:=[] }),
 (93,{ keeps:=[([0,0,1,0,1],[1,6,7,8])],stops:=[[0,0,1,0,1]],muts:=[],acts:=[] }),
 (94,{ keeps:=[],stops:=[],muts:=[],acts:=[] }),
 (95,{ keeps:=[],stops:=[],muts:=[],acts:=[] }),
 (96,{ keeps:=[([0,0,1,0,1,0,1,0,1,0,1],[3,20,21,22]),([1,1,1,0,0,1,0,1,0,1,0,1,0,1],[3,20,21,22])],stops:=[[0,0,1,0,1,0,1,0,1,0,1],[1,1,1,0,0,1,0,1,0,1,0,1,0,1]],muts:=[],acts:=[] }),
 (97,{ keeps:=[([1,0,1,1,1],[0,1,5,22]),([1,0,0,1,0,1,1,1,1],[60]),([1,0,1,1,1,1],[0,1,5,40]),([1,0,0,1,0,1,1,1,1,1],[104]),([1,0,1,1,1,1,1],[0,1,5,84])],stops:=[[1,0,1,1,1],[1,0,0,1,0,1,1,1,1],[1,0,1,1,1,1],[1,0,0,1,0,1,1,1,1,1],[1,0,1,1,1,1,1]],muts:=[],acts:=[] }),
 (98,{ keeps:=[([1,0,1,1],[1,30]),([0,0,1,0,1,1,1],[1,3]),([1,0,0,1,0,0,1,0,1,1,1],[1,3,75])],stops:=[[1,0,1,1],[0,0,1,0,1,1,1],[1,0,0,1,0,0,1,0,1,1,1]],muts:=[],acts:=[] }),
 (99,{ keeps:=[],stops:=[],muts:=[],acts:=[] }),
 (100,{ keeps:=[([0,0,1,0,1,1],[0,3,4])],stops:=[[0,0,1,0,1,1]],muts:=[],acts:=[] }),
 (103,{ keeps:=[([1,0,1,1,1,1,1,1,1,1,1,1],[0,5,8,10,57]),([1,0,1,1,1,1,1,1,1,1,1,1,1,1,1],[0,5,8,10,11,75]),([1,0,1,1,1,1,1,1,1,1,1,1,1,1,1,1,1,1],[5,10,11,12,98])],stops:=[[1,0,1,1,1,1,1,1,1,1,1,1],[1,0,1,1,1,1,1,1,1,1,1,1,1,1,1],[1,0,1,1,1,1,1,1,1,1,1,1,1,1,1,1,1,1]],muts:=[],acts:=[] }),
 (104,{ keeps:=[([1,1,1,0,0,1],[0,6])],stops:=[[1,1,1,0,0,1]],muts:=[],acts:=[] }),
 (105,{ keeps:=[([0,0,1,0,1,1],[0,34,35,36]),([1,1,0,0,1,1,0,0,1,0,1,1],[0,34,35,36,69])],stops:=[[0,0,1,0,1,1],[1,1,0,0,1,1,0,0,1,0,1,1]],muts:=[],acts:=[] }),
 (106,{ keeps:=[],stops:=[],muts:=[],acts:=[] }),
 (107,{ keeps:=[],stops:=[],muts:=[],acts:=[] }),
 (108,{ keeps:=[([1,0,1],[0,1,24]),([0,0,1,0,1,1],[0,1,5]),([1,1,0,0,1,0,0,1,0,1,1],[0,1,5,52])],stops:=[[1,0,1],[0,0,1,0,1,1],[1,1,0,0,1,0,0,1,0,1,1]],muts:=[],acts:=[] }),
 (109,{ keeps:=[],stops:=[],muts:=[],acts:=[] }),
 (110,{ keeps:=[],stops:=[],muts:=[],acts:=[] }),
 (111,{ keeps:=[([0,0,1,0,1],[0,1,9,10]),([1,1,1,1,0,0,1,1,0,0,1,0,1],[0,1,9,10,40]),([1,1,1,0,0,1,1,0,0,1,0,1],[0,1,5,6,7,9,10])],stops:=[[0,0,1,0,1],[1,1,1,1,0,0,1,1,0,0,1,0,1],[1,1,1,0,0,1,1,0,0,1,0,1]],muts:=[],acts:=[] }),
 (112,{ keeps:=[],stops:=[],muts:=[],acts:=[] })]
noncomputable def ap:P2:={ fns:=fns,tab:=tab,eqs:=[(52,[.b, .b, .i, .i, .i]),(67,[.i, .i, .i, .b, .b]),(99,[.i, .i]),(109,[.i, .i, .i]),(133,[.s, .s])],notes:=notes,globs:=[(1,glob1),(0,glob0)],prims:=[],bld:=99999,u8:=5,draws:=true,tips:=[26,52,84,86],raws:=[17,18,20,33,42,43,64,73] }
end Go.Proofs.YtcgepgahgihojaaGreatDoor
namespace Go.Proofs.YtcgepgahgihojaaGreatDoor
open Go.St
set_option linter.unusedVariables false
def ay (x:AV):Nat→List AV
 | 0=>[]
 | n + 1=>x :: ay x n
noncomputable def Rn (f:Nat) (todo:List AItem) (env:List AV) (x:AV) (k:Nat) (st:Sto):Option Res:=Run ap { f:=f,todo:=todo,env:=env ++ ay x k,dfr:=[],rc:=none,st:=st }
theorem rU {c:Cfg} {x:Option Res} (h:unroll ap 1000 true c = x):Run ap c = x:=(Run_unroll ap 1000 c).trans h
noncomputable section
def z8.b (a0:AV) (st:Sto):Option Res:=Rn 3 [cI ap 3 []] [a0] (.tup []) 49 st
def A3.b (a0:AV) (st:Sto):Option Res:=Rn 4 [cI ap 4 []] [a0] (.tup []) 4 st
def A5.b (a0:AV) (st:Sto):Option Res:=Rn 5 [cI ap 5 []] [a0] (.tup []) 15 st
def D9.b (a0:Int) (st:Sto):Option Res:=Rn 8 [cI ap 8 []] [(.int .i64 a0),(.tup []),(.tup []),(.tup [])] .any 0 st
def A6.b (a0:AV) (a1:AV) (st:Sto):Option Res:=Rn 9 [cI ap 9 []] [a0,a1] (.tup []) 29 st
def A9.b (a0:AV) (st:Sto):Option Res:=Rn 12 [cI ap 12 []] [a0] (.tup []) 11 st
def r6.b (a0:AV) (st:Sto):Option Res:=Rn 13 [cI ap 13 []] [a0] (.tup []) 25 st
def r6.F0 (t0:AV) (t3:AV) (t4:Int) (st:Sto):Option Res:=Rn 13 [cI ap 13 [0,0,1,0,1,1],lI ap 13 [0,1,0,1,1], .blk 0,cI ap 13 [1,1,1]] [t0, .any, .any,t3,(.int .i64 t4)] .any 21 st
def p2.b (a0:AV) (st:Sto):Option Res:=Rn 14 [cI ap 14 []] [a0] (.tup []) 27 st
def p2.F0 (t0:AV) (t3:AV) (t4:Int) (st:Sto):Option Res:=Rn 14 [cI ap 14 [0,0,1,0,1,1],lI ap 14 [0,1,0,1,1], .blk 0,cI ap 14 [1,1,1]] [t0, .any, .any,t3,(.int .i64 t4)] .any 23 st
def p8.b (a0:AV) (st:Sto):Option Res:=Rn 15 [cI ap 15 []] [a0] (.tup []) 27 st
def p8.F0 (t0:AV) (t3:AV) (t4:Int) (st:Sto):Option Res:=Rn 15 [cI ap 15 [0,0,1,0,1,1],lI ap 15 [0,1,0,1,1], .blk 0,cI ap 15 [1,1,1]] [t0, .any, .any,t3,(.int .i64 t4)] .any 23 st
def B1.b (a0:AV) (a1:AV) (st:Sto):Option Res:=Rn 21 [cI ap 21 []] [a0,a1] (.tup []) 29 st
def l8.b (a0:AV) (a1:AV) (st:Sto):Option Res:=Rn 22 [cI ap 22 []] [a0,a1] (.tup []) 48 st
def l8.F2 (t0:AV) (t1:AV) (t33:Bool) (st:Sto):Option Res:=Rn 22 [cI ap 22 [1,0,1,1],cI ap 22 [1,1,1]] [t0,t1, .any, .any, .any, .any, .any, .any, .any, .any, .any, .any, .any, .any, .any, .any, .any, .any, .any, .any, .any, .any, .any, .any, .any, .any, .any, .any, .any, .any, .any, .any, .any,(.bool t33)] .any 16 st
def l8.F1 (t0:AV) (t1:AV) (t6:Int) (st:Sto):Option Res:=Rn 22 [cI ap 22 [0,0,1,0,1,1,1],lI ap 22 [0,1,0,1,1,1], .blk 0,cI ap 22 [1,1,1,1]] [t0,t1, .any, .any, .any, .any,(.int .i64 t6)] .any 43 st
def l6.b (a0:AV) (a1:AV) (st:Sto):Option Res:=Rn 23 [cI ap 23 []] [a0,a1] (.tup []) 52 st
def l6.F2 (t0:AV) (t1:AV) (t37:Bool) (st:Sto):Option Res:=Rn 23 [cI ap 23 [1,0,1,1],cI ap 23 [1,1,1]] [t0,t1, .any, .any, .any, .any, .any, .any, .any, .any, .any, .any, .any, .any, .any, .any, .any, .any, .any, .any, .any, .any, .any, .any, .any, .any, .any, .any, .any, .any, .any, .any, .any, .any, .any, .any, .any,(.bool t37)] .any 16 st
def l6.F1 (t0:AV) (t1:AV) (t6:Int) (st:Sto):Option Res:=Rn 23 [cI ap 23 [0,0,1,0,1,1,1],lI ap 23 [0,1,0,1,1,1], .blk 0,cI ap 23 [1,1,1,1]] [t0,t1, .any, .any, .any, .any,(.int .i64 t6)] .any 47 st
def l5.b (a0:AV) (a1:AV) (st:Sto):Option Res:=Rn 24 [cI ap 24 []] [a0,a1] (.tup []) 52 st
def l5.F2 (t0:AV) (t1:AV) (t37:Bool) (st:Sto):Option Res:=Rn 24 [cI ap 24 [1,0,1,1],cI ap 24 [1,1,1]] [t0,t1, .any, .any, .any, .any, .any, .any, .any, .any, .any, .any, .any, .any, .any, .any, .any, .any, .any, .any, .any, .any, .any, .any, .any, .any, .any, .any, .any, .any, .any, .any, .any, .any, .any, .any, .any,(.bool t37)] .any 16 st
def l5.F1 (t0:AV) (t1:AV) (t6:Int) (st:Sto):Option Res:=Rn 24 [cI ap 24 [0,0,1,0,1,1,1],lI ap 24 [0,1,0,1,1,1], .blk 0,cI ap 24 [1,1,1,1]] [t0,t1, .any, .any, .any, .any,(.int .i64 t6)] .any 47 st
def B2.b (a0:AV) (st:Sto):Option Res:=Rn 26 [cI ap 26 []] [a0] (.tup []) 5 st
def B3.b (a0:AV) (st:Sto):Option Res:=Rn 27 [cI ap 27 []] [a0] (.tup []) 13 st
def A7.b (a0:AV) (st:Sto):Option Res:=Rn 28 [cI ap 28 []] [a0] (.tup []) 11 st
def B4.b (a0:AV) (st:Sto):Option Res:=Rn 29 [cI ap 29 []] [a0] (.tup []) 11 st
def r7.b (a0:AV) (a1:AV) (st:Sto):Option Res:=Rn 46 [cI ap 46 []] [a0,a1] (.tup []) 24 st
def r7.F0 (t0:AV) (t1:AV) (t5:Int) (st:Sto):Option Res:=Rn 46 [cI ap 46 [0,0,1,0,1,1],lI ap 46 [0,1,0,1,1], .blk 0,cI ap 46 [1,1,1]] [t0,t1, .any, .any, .any,(.int .i64 t5)] .any 20 st
def B5.b (a0:AV) (a1:AV) (st:Sto):Option Res:=Rn 47 [cI ap 47 []] [a0,a1] (.tup []) 31 st
def C3.b (a0:AV) (a1:AV) (st:Sto):Option Res:=Rn 48 [cI ap 48 []] [a0,a1] (.tup []) 29 st
def C4.b (a0:AV) (a1:AV) (st:Sto):Option Res:=Rn 49 [cI ap 49 []] [a0,a1] (.tup []) 29 st
def B6.b (a0:AV) (a1:AV) (st:Sto):Option Res:=Rn 50 [cI ap 50 []] [a0,a1] (.tup []) 22 st
def B7.b (a0:AV) (a1:AV) (st:Sto):Option Res:=Rn 51 [cI ap 51 []] [a0,a1] (.tup []) 22 st
def B8.b (a0:AV) (st:Sto):Option Res:=Rn 52 [cI ap 52 []] [a0] (.tup []) 5 st
def A4.b (a0:AV) (st:Sto):Option Res:=Rn 53 [cI ap 53 []] [a0] (.tup []) 13 st
def w9.b (a0:AV) (st:Sto):Option Res:=Rn 54 [cI ap 54 []] [a0] (.tup []) 27 st
def w9.F0 (t0:AV) (t3:AV) (t4:Int) (st:Sto):Option Res:=Rn 54 [cI ap 54 [0,0,1,0,1,1],lI ap 54 [0,1,0,1,1], .blk 0,cI ap 54 [1,1,1]] [t0, .any, .any,t3,(.int .i64 t4)] .any 23 st
def C5.b (a0:AV) (st:Sto):Option Res:=Rn 55 [cI ap 55 []] [a0] (.tup []) 11 st
def r8.b (a0:AV) (a1:AV) (st:Sto):Option Res:=Rn 76 [cI ap 76 []] [a0,a1] (.tup []) 24 st
def r8.F0 (t0:AV) (t1:AV) (t5:Int) (st:Sto):Option Res:=Rn 76 [cI ap 76 [0,0,1,0,1,1],lI ap 76 [0,1,0,1,1], .blk 0,cI ap 76 [1,1,1]] [t0,t1, .any, .any, .any,(.int .i64 t5)] .any 20 st
def r9.b (a0:AV) (a1:AV) (st:Sto):Option Res:=Rn 77 [cI ap 77 []] [a0,a1] (.tup []) 24 st
def r9.F0 (t0:AV) (t1:AV) (t5:Int) (st:Sto):Option Res:=Rn 77 [cI ap 77 [0,0,1,0,1,1],lI ap 77 [0,1,0,1,1], .blk 0,cI ap 77 [1,1,1]] [t0,t1, .any, .any, .any,(.int .i64 t5)] .any 20 st
def y2.b (a0:AV) (a1:AV) (st:Sto):Option Res:=Rn 78 [cI ap 78 []] [a0,a1] (.tup []) 25 st
def y2.F0 (t0:AV) (t1:AV) (t5:Int) (st:Sto):Option Res:=Rn 78 [cI ap 78 [0,0,1,0,1,1],lI ap 78 [0,1,0,1,1], .blk 0,cI ap 78 [1,1,1]] [t0,t1, .any, .any, .any,(.int .i64 t5)] .any 21 st
def B9.b (a0:AV) (a1:AV) (st:Sto):Option Res:=Rn 79 [cI ap 79 []] [a0,a1] (.tup []) 31 st
def z7.b (a0:AV) (a1:AV) (st:Sto):Option Res:=Rn 80 [cI ap 80 []] [a0,a1] (.tup []) 25 st
def z7.F0 (t0:AV) (t1:AV) (t5:Int) (st:Sto):Option Res:=Rn 80 [cI ap 80 [0,0,1,0,1,1],lI ap 80 [0,1,0,1,1], .blk 0,cI ap 80 [1,1,1]] [t0,t1, .any, .any, .any,(.int .i64 t5)] .any 21 st
def w6.b (a0:AV) (a1:AV) (st:Sto):Option Res:=Rn 81 [cI ap 81 []] [a0,a1] (.tup []) 24 st
def w6.F0 (t0:AV) (t1:AV) (t5:Int) (st:Sto):Option Res:=Rn 81 [cI ap 81 [0,0,1,0,1,1],lI ap 81 [0,1,0,1,1], .blk 0,cI ap 81 [1,1,1]] [t0,t1, .any, .any, .any,(.int .i64 t5)] .any 20 st
def o7.b (a0:AV) (a1:AV) (st:Sto):Option Res:=Rn 82 [cI ap 82 []] [a0,a1] (.tup []) 52 st
def o7.F2 (t0:AV) (t1:AV) (t37:Bool) (st:Sto):Option Res:=Rn 82 [cI ap 82 [1,0,1,1],cI ap 82 [1,1,1]] [t0,t1, .any, .any, .any, .any, .any, .any, .any, .any, .any, .any, .any, .any, .any, .any, .any, .any, .any, .any, .any, .any, .any, .any, .any, .any, .any, .any, .any, .any, .any, .any, .any, .any, .any, .any, .any,(.bool t37)] .any 16 st
def o7.F1 (t0:AV) (t1:AV) (t6:Int) (st:Sto):Option Res:=Rn 82 [cI ap 82 [0,0,1,0,1,1,1],lI ap 82 [0,1,0,1,1,1], .blk 0,cI ap 82 [1,1,1,1]] [t0,t1, .any, .any, .any, .any,(.int .i64 t6)] .any 47 st
def C6.b (a0:AV) (a1:AV) (st:Sto):Option Res:=Rn 83 [cI ap 83 []] [a0,a1] (.tup []) 29 st
def A1.b (a0:AV) (st:Sto):Option Res:=Rn 84 [cI ap 84 []] [a0] (.tup []) 5 st
def C9.b (a0:AV) (st:Sto):Option Res:=Rn 85 [cI ap 85 []] [a0] (.tup []) 7 st
def C7.b (a0:AV) (st:Sto):Option Res:=Rn 86 [cI ap 86 []] [a0] (.tup []) 5 st
def D0.b (a0:AV) (a1:AV) (st:Sto):Option Res:=Rn 101 [cI ap 101 []] [a0,a1] (.tup []) 36 st
def D1.b (a0:AV) (a1:AV) (st:Sto):Option Res:=Rn 102 [cI ap 102 []] [a0,a1] (.tup []) 36 st
def p7.b (a0:AV) (st:Sto):Option Res:=Rn 6 [cI ap 6 []] [a0] (.tup []) 86 st
def p7.G6 (t1:Nat) (t5:Nat) (t32:Bool) (st:Sto):Option Res:=Rn 6 [cI ap 6 [1,0,1,1,1],cI ap 6 [1,1,1,1]] [.any,(.mp t1 0 0), .any, .any, .any,(.mp t5 0 0), .any, .any, .any, .any, .any, .any, .any, .any, .any, .any, .any, .any, .any, .any, .any, .any, .any, .any, .any, .any, .any, .any, .any, .any, .any, .any,(.bool t32)] .any 54 st
def p7.K1 (t1:Nat) (t5:Nat) (t48:Int) (t49:Int) (st:Sto):Option Res:=Rn 6 [cI ap 6 [0,0,1,0,1,1,1,1,1,1],lI ap 6 [0,1,0,1,1,1,1,1,1], .blk 0,cI ap 6 [1,1,1,1,1,1,1]] [.any,(.mp t1 0 0), .any, .any, .any,(.mp t5 0 0), .any, .any, .any, .any, .any, .any, .any, .any, .any, .any, .any, .any, .any, .any, .any, .any, .any, .any, .any, .any, .any, .any, .any, .any, .any, .any, .any, .any, .any, .any, .any, .any, .any, .any, .any, .any, .any, .any, .any, .any, .any, .any,(.int .i64 t48),(.int .i64 t49)] .any 37 st
def i9.b (a0:AV) (st:Sto):Option Res:=Rn 7 [cI ap 7 []] [a0] (.tup []) 92 st
def i9.G6 (t1:Nat) (t5:Nat) (t27:Bool) (st:Sto):Option Res:=Rn 7 [cI ap 7 [1,0,1,1,1],cI ap 7 [1,1,1,1]] [.any,(.mp t1 0 0), .any, .any, .any,(.mp t5 0 0), .any, .any, .any, .any, .any, .any, .any, .any, .any, .any, .any, .any, .any, .any, .any, .any, .any, .any, .any, .any, .any,(.bool t27)] .any 65 st
def i9.F8 (t1:Nat) (t5:Nat) (st:Sto):Option Res:=Rn 7 [cI ap 7 [1,1,1,1]] [.any,(.mp t1 0 0), .any, .any, .any,(.mp t5 0 0)] .any 87 st
def i9.G4 (t1:Nat) (t5:Nat) (st:Sto):Option Res:=Rn 7 [cI ap 7 [0,0,1,0,1,1,1,1,1,1,1],lI ap 7 [0,1,0,1,1,1,1,1,1,1], .blk 0,cI ap 7 [1,1,1,1,1,1,1,1]] [.any,(.mp t1 0 0), .any, .any, .any,(.mp t5 0 0)] .any 87 st
def stencillaw22_awake.b  (st:Sto):Option Res:=Rn 10 [cI ap 10 []] [] (.tup []) 57 st
def w7.b (a0:AV) (a1:Int) (st:Sto):Option Res:=Rn 11 [cI ap 11 []] [a0,(.int .i64 a1)] (.tup []) 24 st
def w7.F0 (t0:AV) (t1:Int) (t5:Int) (st:Sto):Option Res:=Rn 11 [cI ap 11 [0,0,1,0,1,1],lI ap 11 [0,1,0,1,1], .blk 0,cI ap 11 [1,1,1]] [t0,(.int .i64 t1), .any, .any, .any,(.int .i64 t5)] .any 20 st
def d7.b (a0:AV) (st:Sto):Option Res:=Rn 16 [cI ap 16 []] [a0] (.tup []) 89 st
def d7.F4 (t0:AV) (t16:AV) (t17:Int) (t18:Int) (st:Sto):Option Res:=Rn 16 [cI ap 16 [0,0,1,0,1],lI ap 16 [0,1,0,1], .blk 0,cI ap 16 [1,1]] [t0, .any, .any, .any, .any, .any, .any, .any, .any, .any, .any, .any, .any, .any, .any, .any,t16,(.int .i64 t17),(.int .i64 t18)] .any 71 st
def d7.L6 (t0:AV) (t4:Int) (t16:AV) (t17:Int) (t18:Int) (t29:Bool) (st:Sto):Option Res:=Rn 16 [cI ap 16 [1,1,0,0,1,1,0,0,1,0,1], .blk 1,cI ap 16 [1,1,1,0,0,1,0,1],lI ap 16 [0,1,0,1], .blk 0,cI ap 16 [1,1]] [t0, .any, .any, .any,(.int .i64 t4), .any, .any, .any, .any, .any, .any, .any, .any, .any, .any, .any,t16,(.int .i64 t17),(.int .i64 t18), .any, .any, .any, .any, .any, .any, .any, .any, .any, .any,(.bool t29)] .any 60 st
def d7.F0 (t0:AV) (t38:AV) (t39:Int) (t40:Int) (st:Sto):Option Res:=Rn 16 [cI ap 16 [0,0,1,0,1,1],lI ap 16 [0,1,0,1,1], .blk 2,cI ap 16 [1,1,1]] [t0, .any, .any, .any, .any, .any, .any, .any, .any, .any, .any, .any, .any, .any, .any, .any, .any, .any, .any, .any, .any, .any, .any, .any, .any, .any, .any, .any, .any, .any, .any, .any, .any, .any, .any, .any, .any, .any,t38,(.int .i64 t39),(.int .i64 t40)] .any 49 st
def d7.F3 (t0:AV) (t6:Int) (t38:AV) (t39:Int) (t40:Int) (t59:Bool) (st:Sto):Option Res:=Rn 16 [cI ap 16 [1,1,0,0,1,1,0,0,1,0,1,1], .blk 3,cI ap 16 [1,1,1,0,0,1,0,1,1],lI ap 16 [0,1,0,1,1], .blk 2,cI ap 16 [1,1,1]] [t0, .any, .any, .any, .any, .any,(.int .i64 t6), .any, .any, .any, .any, .any, .any, .any, .any, .any, .any, .any, .any, .any, .any, .any, .any, .any, .any, .any, .any, .any, .any, .any, .any, .any, .any, .any, .any, .any, .any, .any,t38,(.int .i64 t39),(.int .i64 t40), .any, .any, .any, .any, .any, .any, .any, .any, .any, .any, .any, .any, .any, .any, .any, .any, .any, .any,(.bool t59)] .any 30 st
def d7.F1 (t68:AV) (t69:Int) (t70:Int) (st:Sto):Option Res:=Rn 16 [cI ap 16 [0,0,1,0,1,1,1],lI ap 16 [0,1,0,1,1,1], .blk 4,cI ap 16 [1,1,1,1]] [.any, .any, .any, .any, .any, .any, .any, .any, .any, .any, .any, .any, .any, .any, .any, .any, .any, .any, .any, .any, .any, .any, .any, .any, .any, .any, .any, .any, .any, .any, .any, .any, .any, .any, .any, .any, .any, .any, .any, .any, .any, .any, .any, .any, .any, .any, .any, .any, .any, .any, .any, .any, .any, .any, .any, .any, .any, .any, .any, .any, .any, .any, .any, .any, .any, .any, .any, .any,t68,(.int .i64 t69),(.int .i64 t70)] .any 19 st
def d7.J7 (t8:Int) (t68:AV) (t69:Int) (t70:Int) (t87:Bool) (st:Sto):Option Res:=Rn 16 [cI ap 16 [1,1,0,0,1,1,0,0,1,0,1,1,1], .blk 5,cI ap 16 [1,1,1,0,0,1,0,1,1,1],lI ap 16 [0,1,0,1,1,1], .blk 4,cI ap 16 [1,1,1,1]] [.any, .any, .any, .any, .any, .any, .any, .any,(.int .i64 t8), .any, .any, .any, .any, .any, .any, .any, .any, .any, .any, .any, .any, .any, .any, .any, .any, .any, .any, .any, .any, .any, .any, .any, .any, .any, .any, .any, .any, .any, .any, .any, .any, .any, .any, .any, .any, .any, .any, .any, .any, .any, .any, .any, .any, .any, .any, .any, .any, .any, .any, .any, .any, .any, .any, .any, .any, .any, .any, .any,t68,(.int .i64 t69),(.int .i64 t70), .any, .any, .any, .any, .any, .any, .any, .any, .any, .any, .any, .any, .any, .any, .any, .any,(.bool t87), .any, .any] .any 0 st
def g7.b (a0:AV) (st:Sto):Option Res:=Rn 17 [cI ap 17 []] [a0] (.tup []) 141 st
def g7.I0 (t0:AV) (t8:Bool) (st:Sto):Option Res:=Rn 17 [cI ap 17 [1,0,0,1], .blk 0,cI ap 17 [1,1]] [t0, .any, .any, .any, .any, .any, .any, .any,(.bool t8)] .any 133 st
def g7.F0 (t0:AV) (t43:Int) (t44:Int) (st:Sto):Option Res:=Rn 17 [cI ap 17 [0,0,1,0,1,1],lI ap 17 [0,1,0,1,1], .blk 1,cI ap 17 [1,1,1]] [t0, .any, .any, .any, .any, .any, .any, .any, .any, .any, .any, .any, .any, .any, .any, .any, .any, .any, .any, .any, .any, .any, .any, .any, .any, .any, .any, .any, .any, .any, .any, .any, .any, .any, .any, .any, .any, .any, .any, .any, .any, .any, .any,(.int .i64 t43),(.int .i64 t44)] .any 97 st
def g7.N9 (t0:AV) (t64:Bool) (st:Sto):Option Res:=Rn 17 [cI ap 17 [1,0,0,1,1,1], .blk 3,cI ap 17 [1,1,1,1]] [t0, .any, .any, .any, .any, .any, .any, .any, .any, .any, .any, .any, .any, .any, .any, .any, .any, .any, .any, .any, .any, .any, .any, .any, .any, .any, .any, .any, .any, .any, .any, .any, .any, .any, .any, .any, .any, .any, .any, .any, .any, .any, .any, .any, .any, .any, .any, .any, .any, .any, .any, .any, .any, .any, .any, .any, .any, .any, .any, .any, .any, .any, .any, .any,(.bool t64)] .any 77 st
def g7.N3 (t0:AV) (t86:Bool) (st:Sto):Option Res:=Rn 17 [cI ap 17 [1,1,1,0,0,1,1,1], .blk 3,cI ap 17 [1,1,1,1]] [t0, .any, .any, .any, .any, .any, .any, .any, .any, .any, .any, .any, .any, .any, .any, .any, .any, .any, .any, .any, .any, .any, .any, .any, .any, .any, .any, .any, .any, .any, .any, .any, .any, .any, .any, .any, .any, .any, .any, .any, .any, .any, .any, .any, .any, .any, .any, .any, .any, .any, .any, .any, .any, .any, .any, .any, .any, .any, .any, .any, .any, .any, .any, .any, .any, .any, .any, .any, .any, .any, .any, .any, .any, .any, .any, .any, .any, .any, .any, .any, .any, .any, .any, .any, .any, .any,(.bool t86)] .any 55 st
def g7.H0 (t0:AV) (t103:AV) (t104:Int) (t105:Int) (st:Sto):Option Res:=Rn 17 [cI ap 17 [0,0,1,0,1,1,1,1],lI ap 17 [0,1,0,1,1,1,1], .blk 4,cI ap 17 [1,1,1,1,1]] [t0, .any, .any, .any, .any, .any, .any, .any, .any, .any, .any, .any, .any, .any, .any, .any, .any, .any, .any, .any, .any, .any, .any, .any, .any, .any, .any, .any, .any, .any, .any, .any, .any, .any, .any, .any, .any, .any, .any, .any, .any, .any, .any, .any, .any, .any, .any, .any, .any, .any, .any, .any, .any, .any, .any, .any, .any, .any, .any, .any, .any, .any, .any, .any, .any, .any, .any, .any, .any, .any, .any, .any, .any, .any, .any, .any, .any, .any, .any, .any, .any, .any, .any, .any, .any, .any, .any, .any, .any, .any, .any, .any, .any, .any, .any, .any, .any, .any, .any, .any, .any, .any, .any,t103,(.int .i64 t104),(.int .i64 t105)] .any 36 st
def g7.J2 (t0:AV) (t6:Int) (t103:AV) (t104:Int) (t105:Int) (t139:Bool) (st:Sto):Option Res:=Rn 17 [cI ap 17 [1,1,0,0,1,1,0,0,1,0,1,1,1,1], .blk 5,cI ap 17 [1,1,1,0,0,1,0,1,1,1,1],lI ap 17 [0,1,0,1,1,1,1], .blk 4,cI ap 17 [1,1,1,1,1]] [t0, .any, .any, .any, .any, .any,(.int .i64 t6), .any, .any, .any, .any, .any, .any, .any, .any, .any, .any, .any, .any, .any, .any, .any, .any, .any, .any, .any, .any, .any, .any, .any, .any, .any, .any, .any, .any, .any, .any, .any, .any, .any, .any, .any, .any, .any, .any, .any, .any, .any, .any, .any, .any, .any, .any, .any, .any, .any, .any, .any, .any, .any, .any, .any, .any, .any, .any, .any, .any, .any, .any, .any, .any, .any, .any, .any, .any, .any, .any, .any, .any, .any, .any, .any, .any, .any, .any, .any, .any, .any, .any, .any, .any, .any, .any, .any, .any, .any, .any, .any, .any, .any, .any, .any, .any,t103,(.int .i64 t104),(.int .i64 t105), .any, .any, .any, .any, .any, .any, .any, .any, .any, .any, .any, .any, .any, .any, .any, .any, .any, .any, .any, .any, .any, .any, .any, .any, .any, .any, .any, .any, .any, .any, .any, .any, .any,(.bool t139), .any, .any] .any 0 st
def c8.b (a0:AV) (st:Sto):Option Res:=Rn 18 [cI ap 18 []] [a0] (.tup []) 85 st
def c8.F4 (t0:AV) (t2:Nat) (t3:Int) (st:Sto):Option Res:=Rn 18 [cI ap 18 [0,0,1,0,1],lI ap 18 [0,1,0,1], .blk 0,cI ap 18 [1,1]] [t0, .any,(.mp t2 0 0),(.int .i64 t3)] .any 82 st
def c8.M8 (t0:AV) (t2:Nat) (t3:Int) (t27:Bool) (st:Sto):Option Res:=Rn 18 [cI ap 18 [1,0,0,1,0,0,1,0,1], .blk 1,cI ap 18 [1,1,0,0,1,0,1],lI ap 18 [0,1,0,1], .blk 0,cI ap 18 [1,1]] [t0, .any,(.mp t2 0 0),(.int .i64 t3), .any, .any, .any, .any, .any, .any, .any, .any, .any, .any, .any, .any, .any, .any, .any, .any, .any, .any, .any, .any, .any, .any, .any,(.bool t27)] .any 58 st
def c8.F0 (t0:AV) (t2:Nat) (t4:Int) (st:Sto):Option Res:=Rn 18 [cI ap 18 [0,0,1,0,1,1],lI ap 18 [0,1,0,1,1], .blk 2,cI ap 18 [1,1,1]] [t0, .any,(.mp t2 0 0), .any,(.int .i64 t4)] .any 81 st
def c8.H2 (t0:AV) (t2:Nat) (t4:Int) (t51:Bool) (st:Sto):Option Res:=Rn 18 [cI ap 18 [1,0,0,1,0,0,1,0,1,1], .blk 3,cI ap 18 [1,1,0,0,1,0,1,1],lI ap 18 [0,1,0,1,1], .blk 2,cI ap 18 [1,1,1]] [t0, .any,(.mp t2 0 0), .any,(.int .i64 t4), .any, .any, .any, .any, .any, .any, .any, .any, .any, .any, .any, .any, .any, .any, .any, .any, .any, .any, .any, .any, .any, .any, .any, .any, .any, .any, .any, .any, .any, .any, .any, .any, .any, .any, .any, .any, .any, .any, .any, .any, .any, .any, .any, .any, .any, .any,(.bool t51)] .any 34 st
def c8.N6 (t0:AV) (t2:Nat) (t5:Int) (st:Sto):Option Res:=Rn 18 [cI ap 18 [0,0,1,1,1,1],lI ap 18 [0,1,1,1,1], .blk 4] [t0, .any,(.mp t2 0 0), .any, .any,(.int .i64 t5)] .any 80 st
def c8.L2 (t0:AV) (t2:Nat) (t5:Int) (t82:Bool) (st:Sto):Option Res:=Rn 18 [cI ap 18 [1,0,0,1,0,0,1,1,1,1], .blk 5,cI ap 18 [1,1,0,0,1,1,1,1],lI ap 18 [0,1,1,1,1], .blk 4] [t0, .any,(.mp t2 0 0), .any, .any,(.int .i64 t5), .any, .any, .any, .any, .any, .any, .any, .any, .any, .any, .any, .any, .any, .any, .any, .any, .any, .any, .any, .any, .any, .any, .any, .any, .any, .any, .any, .any, .any, .any, .any, .any, .any, .any, .any, .any, .any, .any, .any, .any, .any, .any, .any, .any, .any, .any, .any, .any, .any, .any, .any, .any, .any, .any, .any, .any, .any, .any, .any, .any, .any, .any, .any, .any, .any, .any, .any, .any, .any, .any, .any, .any, .any, .any, .any, .any,(.bool t82), .any, .any, .any] .any 0 st
def A2.b (a0:AV) (a1:Int) (a2:Int) (st:Sto):Option Res:=Rn 19 [cI ap 19 []] [a0,(.int .i64 a1),(.int .i64 a2)] (.tup []) 16 st
def b8.b (a0:AV) (st:Sto):Option Res:=Rn 20 [cI ap 20 []] [a0] (.tup []) 181 st
def b8.I9 (t0:AV) (t2:Nat) (t3:Nat) (st:Sto):Option Res:=Rn 20 [cI ap 20 [1,1,1]] [t0, .any,(.mp t2 0 0),(.mp t3 0 0)] .any 178 st
def b8.F8 (t0:AV) (t2:Nat) (t3:Nat) (st:Sto):Option Res:=Rn 20 [cI ap 20 [1,1,1,1]] [t0, .any,(.mp t2 0 0),(.mp t3 0 0)] .any 178 st
def b8.G4 (t0:AV) (t2:Nat) (t3:Nat) (st:Sto):Option Res:=Rn 20 [cI ap 20 [0,0,1,0,1,1,1,1,1,1,1],lI ap 20 [0,1,0,1,1,1,1,1,1,1], .blk 0,cI ap 20 [1,1,1,1,1,1,1,1]] [t0, .any,(.mp t2 0 0),(.mp t3 0 0)] .any 178 st
def b8.J6 (t0:AV) (t2:Nat) (t3:Nat) (t68:Bool) (st:Sto):Option Res:=Rn 20 [cI ap 20 [1,0,0,0,1,0,1,1,1,1,1,1,1],cI ap 20 [1,0,0,1,0,1,1,1,1,1,1,1],lI ap 20 [0,1,0,1,1,1,1,1,1,1], .blk 0,cI ap 20 [1,1,1,1,1,1,1,1]] [t0, .any,(.mp t2 0 0),(.mp t3 0 0), .any, .any, .any, .any, .any, .any, .any, .any, .any, .any, .any, .any, .any, .any, .any, .any, .any, .any, .any, .any, .any, .any, .any, .any, .any, .any, .any, .any, .any, .any, .any, .any, .any, .any, .any, .any, .any, .any, .any, .any, .any, .any, .any, .any, .any, .any, .any, .any, .any, .any, .any, .any, .any, .any, .any, .any, .any, .any, .any, .any, .any, .any, .any, .any,(.bool t68)] .any 113 st
def b8.M2 (t0:AV) (t2:Nat) (t3:Nat) (t128:Bool) (st:Sto):Option Res:=Rn 20 [cI ap 20 [1,0,1,1,1,1,1,1,1,1],cI ap 20 [1,1,1,1,1,1,1,1,1]] [t0, .any,(.mp t2 0 0),(.mp t3 0 0), .any, .any, .any, .any, .any, .any, .any, .any, .any, .any, .any, .any, .any, .any, .any, .any, .any, .any, .any, .any, .any, .any, .any, .any, .any, .any, .any, .any, .any, .any, .any, .any, .any, .any, .any, .any, .any, .any, .any, .any, .any, .any, .any, .any, .any, .any, .any, .any, .any, .any, .any, .any, .any, .any, .any, .any, .any, .any, .any, .any, .any, .any, .any, .any, .any, .any, .any, .any, .any, .any, .any, .any, .any, .any, .any, .any, .any, .any, .any, .any, .any, .any, .any, .any, .any, .any, .any, .any, .any, .any, .any, .any, .any, .any, .any, .any, .any, .any, .any, .any, .any, .any, .any, .any, .any, .any, .any, .any, .any, .any, .any, .any, .any, .any, .any, .any, .any, .any, .any, .any, .any, .any, .any, .any,(.bool t128)] .any 53 st
def b8.N2 (t0:AV) (t2:Nat) (t3:Nat) (st:Sto):Option Res:=Rn 20 [cI ap 20 [1,1,1,1,1,1,1,1,1]] [t0, .any,(.mp t2 0 0),(.mp t3 0 0)] .any 178 st
def b8.L7 (t0:AV) (t2:Nat) (t141:Bool) (st:Sto):Option Res:=Rn 20 [cI ap 20 [1,0,1,1,1,1,1,1,1,1,1],cI ap 20 [1,1,1,1,1,1,1,1,1,1]] [t0, .any,(.mp t2 0 0), .any, .any, .any, .any, .any, .any, .any, .any, .any, .any, .any, .any, .any, .any, .any, .any, .any, .any, .any, .any, .any, .any, .any, .any, .any, .any, .any, .any, .any, .any, .any, .any, .any, .any, .any, .any, .any, .any, .any, .any, .any, .any, .any, .any, .any, .any, .any, .any, .any, .any, .any, .any, .any, .any, .any, .any, .any, .any, .any, .any, .any, .any, .any, .any, .any, .any, .any, .any, .any, .any, .any, .any, .any, .any, .any, .any, .any, .any, .any, .any, .any, .any, .any, .any, .any, .any, .any, .any, .any, .any, .any, .any, .any, .any, .any, .any, .any, .any, .any, .any, .any, .any, .any, .any, .any, .any, .any, .any, .any, .any, .any, .any, .any, .any, .any, .any, .any, .any, .any, .any, .any, .any, .any, .any, .any, .any, .any, .any, .any, .any, .any, .any, .any, .any, .any, .any, .any, .any,(.bool t141)] .any 40 st
def b8.M3 (t0:AV) (t2:Nat) (st:Sto):Option Res:=Rn 20 [cI ap 20 [1,1,1,1,1,1,1,1,1,1]] [t0, .any,(.mp t2 0 0)] .any 179 st
def b8.J9 (t0:AV) (t2:Nat) (t5:Int) (st:Sto):Option Res:=Rn 20 [cI ap 20 [0,0,1,1,1,1,1,1,1,1,1,1,1],lI ap 20 [0,1,1,1,1,1,1,1,1,1,1,1], .blk 2] [t0, .any,(.mp t2 0 0), .any, .any,(.int .i64 t5)] .any 176 st
def b8.I1 (t0:AV) (t2:Nat) (t5:Int) (t178:Bool) (st:Sto):Option Res:=Rn 20 [cI ap 20 [1,0,0,1,0,0,1,1,1,1,1,1,1,1,1,1,1], .blk 3,cI ap 20 [1,1,0,0,1,1,1,1,1,1,1,1,1,1,1],lI ap 20 [0,1,1,1,1,1,1,1,1,1,1,1], .blk 2] [t0, .any,(.mp t2 0 0), .any, .any,(.int .i64 t5), .any, .any, .any, .any, .any, .any, .any, .any, .any, .any, .any, .any, .any, .any, .any, .any, .any, .any, .any, .any, .any, .any, .any, .any, .any, .any, .any, .any, .any, .any, .any, .any, .any, .any, .any, .any, .any, .any, .any, .any, .any, .any, .any, .any, .any, .any, .any, .any, .any, .any, .any, .any, .any, .any, .any, .any, .any, .any, .any, .any, .any, .any, .any, .any, .any, .any, .any, .any, .any, .any, .any, .any, .any, .any, .any, .any, .any, .any, .any, .any, .any, .any, .any, .any, .any, .any, .any, .any, .any, .any, .any, .any, .any, .any, .any, .any, .any, .any, .any, .any, .any, .any, .any, .any, .any, .any, .any, .any, .any, .any, .any, .any, .any, .any, .any, .any, .any, .any, .any, .any, .any, .any, .any, .any, .any, .any, .any, .any, .any, .any, .any, .any, .any, .any, .any, .any, .any, .any, .any, .any, .any, .any, .any, .any, .any, .any, .any, .any, .any, .any, .any, .any, .any, .any, .any, .any, .any, .any, .any, .any, .any, .any, .any, .any, .any, .any, .any, .any, .any, .any, .any, .any,(.bool t178), .any, .any, .any] .any 0 st
def b8.J8 (t0:AV) (t2:Nat) (t5:Int) (st:Sto):Option Res:=Rn 20 [cI ap 20 [1,1,0,0,1,1,1,1,1,1,1,1,1,1,1],lI ap 20 [0,1,1,1,1,1,1,1,1,1,1,1], .blk 2] [t0, .any,(.mp t2 0 0), .any, .any,(.int .i64 t5)] .any 176 st
def stencillaw22_small.b  (st:Sto):Option Res:=Rn 25 [cI ap 25 []] [] (.tup []) 10 st
def E6.b (a0:ByteArray) (st:Sto):Option Res:=Rn 30 [cI ap 30 []] [(.str a0)] (.tup []) 16 st
def y6.b (a0:AV) (a1:Int) (a2:Int) (st:Sto):Option Res:=Rn 31 [cI ap 31 []] [a0,(.int .i64 a1),(.int .i64 a2)] (.tup []) 61 st
def y6.F1 (t0:AV) (t7:Nat) (t27:Int) (t28:Int) (st:Sto):Option Res:=Rn 31 [cI ap 31 [0,0,1,0,1,1,1],lI ap 31 [0,1,0,1,1,1], .blk 0,cI ap 31 [1,1,1,1]] [t0, .any, .any, .any, .any, .any, .any,(.mp t7 0 0), .any, .any, .any, .any, .any, .any, .any, .any, .any, .any, .any, .any, .any, .any, .any, .any, .any, .any, .any,(.int .i64 t27),(.int .i64 t28)] .any 35 st
def y6.F9 (t0:AV) (t7:Nat) (t44:Int) (t45:Int) (st:Sto):Option Res:=Rn 31 [cI ap 31 [0,0,1,0,1,1,1,1,1],lI ap 31 [0,1,0,1,1,1,1,1], .blk 2,cI ap 31 [1,1,1,1,1,1]] [t0, .any, .any, .any, .any, .any, .any,(.mp t7 0 0), .any, .any, .any, .any, .any, .any, .any, .any, .any, .any, .any, .any, .any, .any, .any, .any, .any, .any, .any, .any, .any, .any, .any, .any, .any, .any, .any, .any, .any, .any, .any, .any, .any, .any, .any, .any,(.int .i64 t44),(.int .i64 t45)] .any 18 st
def E4.b (a0:AV) (st:Sto):Option Res:=Rn 32 [cI ap 32 []] [a0] (.tup []) 5 st
def j9.b (a0:AV) (a1:Int) (a2:AV) (st:Sto):Option Res:=Rn 33 [cI ap 33 []] [a0,(.int .i64 a1),a2] (.tup []) 86 st
def j9.F0 (t0:AV) (t1:Int) (t2:AV) (t15:AV) (t16:Int) (t17:Int) (st:Sto):Option Res:=Rn 33 [cI ap 33 [0,0,1,0,1,1],lI ap 33 [0,1,0,1,1], .blk 0,cI ap 33 [1,1,1]] [t0,(.int .i64 t1),t2, .any, .any, .any, .any, .any, .any, .any, .any, .any, .any, .any, .any,t15,(.int .i64 t16),(.int .i64 t17)] .any 71 st
def j9.G3 (t0:AV) (t1:Int) (t2:AV) (t71:Bool) (st:Sto):Option Res:=Rn 33 [cI ap 33 [1,1,1,1,1,1,1,0,0,1,1,1], .blk 2,cI ap 33 [1,1,1,1]] [t0,(.int .i64 t1),t2, .any, .any, .any, .any, .any, .any, .any, .any, .any, .any, .any, .any, .any, .any, .any, .any, .any, .any, .any, .any, .any, .any, .any, .any, .any, .any, .any, .any, .any, .any, .any, .any, .any, .any, .any, .any, .any, .any, .any, .any, .any, .any, .any, .any, .any, .any, .any, .any, .any, .any, .any, .any, .any, .any, .any, .any, .any, .any, .any, .any, .any, .any, .any, .any, .any, .any, .any, .any,(.bool t71)] .any 17 st
def D3.b (a0:AV) (st:Sto):Option Res:=Rn 34 [cI ap 34 []] [a0] (.tup []) 13 st
def y5.b (a0:AV) (st:Sto):Option Res:=Rn 35 [cI ap 35 []] [a0] (.tup []) 38 st
def y5.K0 (t0:AV) (t3:AV) (t20:Bool) (st:Sto):Option Res:=Rn 35 [cI ap 35 [1,1,1,0,0,1,1], .blk 0,cI ap 35 [1,1,1]] [t0, .any, .any,t3, .any, .any, .any, .any, .any, .any, .any, .any, .any, .any, .any, .any, .any, .any, .any, .any,(.bool t20)] .any 18 st
def E3.b (a0:Int) (a1:Int) (st:Sto):Option Res:=Rn 36 [cI ap 36 []] [(.int .i64 a0),(.int .i64 a1)] (.tup []) 10 st
def D6.b (a0:ByteArray) (st:Sto):Option Res:=Rn 37 [cI ap 37 []] [(.str a0)] (.tup []) 14 st
def g5.b (a0:AV) (a1:Int) (a2:Int) (st:Sto):Option Res:=Rn 38 [cI ap 38 []] [a0,(.int .i64 a1),(.int .i64 a2)] (.tup []) 114 st
def g5.F1 (t0:AV) (t1:Int) (t2:Int) (t7:AV) (t8:Int) (st:Sto):Option Res:=Rn 38 [cI ap 38 [0,0,1,0,1,1,1],lI ap 38 [0,1,0,1,1,1], .blk 0,cI ap 38 [1,1,1,1]] [t0,(.int .i64 t1),(.int .i64 t2), .any, .any, .any, .any,t7,(.int .i64 t8)] .any 108 st
def g5.H0 (t0:AV) (t1:Int) (t2:Int) (t7:AV) (t9:Int) (st:Sto):Option Res:=Rn 38 [cI ap 38 [0,0,1,0,1,1,1,1],lI ap 38 [0,1,0,1,1,1,1], .blk 2,cI ap 38 [1,1,1,1,1]] [t0,(.int .i64 t1),(.int .i64 t2), .any, .any, .any, .any,t7, .any,(.int .i64 t9)] .any 107 st
def g5.F5 (t0:AV) (t1:Int) (t2:Int) (t7:AV) (t9:Int) (t12:AV) (t91:Bool) (st:Sto):Option Res:=Rn 38 [cI ap 38 [1,0,1,1,1,1,1,0,0,1,0,0,1,0,1,1,1,1],cI ap 38 [1,1,1,1,1,1,0,0,1,0,0,1,0,1,1,1,1], .blk 3,cI ap 38 [1,1,0,0,1,0,1,1,1,1],lI ap 38 [0,1,0,1,1,1,1], .blk 2,cI ap 38 [1,1,1,1,1]] [t0,(.int .i64 t1),(.int .i64 t2), .any, .any, .any, .any,t7, .any,(.int .i64 t9), .any, .any,t12, .any, .any, .any, .any, .any, .any, .any, .any, .any, .any, .any, .any, .any, .any, .any, .any, .any, .any, .any, .any, .any, .any, .any, .any, .any, .any, .any, .any, .any, .any, .any, .any, .any, .any, .any, .any, .any, .any, .any, .any, .any, .any, .any, .any, .any, .any, .any, .any, .any, .any, .any, .any, .any, .any, .any, .any, .any, .any, .any, .any, .any, .any, .any, .any, .any, .any, .any, .any, .any, .any, .any, .any, .any, .any, .any, .any, .any, .any,(.bool t91)] .any 25 st
def g5.G5 (t0:AV) (t1:Int) (t2:Int) (t7:AV) (t9:Int) (t110:Bool) (st:Sto):Option Res:=Rn 38 [cI ap 38 [1,1,1,1,1,1,1,0,0,1,0,0,1,0,1,1,1,1], .blk 3,cI ap 38 [1,1,0,0,1,0,1,1,1,1],lI ap 38 [0,1,0,1,1,1,1], .blk 2,cI ap 38 [1,1,1,1,1]] [t0,(.int .i64 t1),(.int .i64 t2), .any, .any, .any, .any,t7, .any,(.int .i64 t9), .any, .any, .any, .any, .any, .any, .any, .any, .any, .any, .any, .any, .any, .any, .any, .any, .any, .any, .any, .any, .any, .any, .any, .any, .any, .any, .any, .any, .any, .any, .any, .any, .any, .any, .any, .any, .any, .any, .any, .any, .any, .any, .any, .any, .any, .any, .any, .any, .any, .any, .any, .any, .any, .any, .any, .any, .any, .any, .any, .any, .any, .any, .any, .any, .any, .any, .any, .any, .any, .any, .any, .any, .any, .any, .any, .any, .any, .any, .any, .any, .any, .any, .any, .any, .any, .any, .any, .any, .any, .any, .any, .any, .any, .any, .any, .any, .any, .any, .any, .any,(.bool t110)] .any 6 st
def D4.b (a0:AV) (st:Sto):Option Res:=Rn 39 [cI ap 39 []] [a0] (.tup []) 10 st
def b9.b (a0:AV) (a1:AV) (st:Sto):Option Res:=Rn 40 [cI ap 40 []] [a0,a1] (.tup []) 152 st
def b9.F2 (t0:AV) (t3:Nat) (t9:AV) (t73:Bool) (st:Sto):Option Res:=Rn 40 [cI ap 40 [1,0,1,1],cI ap 40 [1,1,1]] [t0, .any, .any,(.mp t3 0 0), .any, .any, .any, .any, .any,t9, .any, .any, .any, .any, .any, .any, .any, .any, .any, .any, .any, .any, .any, .any, .any, .any, .any, .any, .any, .any, .any, .any, .any, .any, .any, .any, .any, .any, .any, .any, .any, .any, .any, .any, .any, .any, .any, .any, .any, .any, .any, .any, .any, .any, .any, .any, .any, .any, .any, .any, .any, .any, .any, .any, .any, .any, .any, .any, .any, .any, .any, .any, .any,(.bool t73)] .any 80 st
def b9.F8 (t0:AV) (t3:Nat) (t9:AV) (st:Sto):Option Res:=Rn 40 [cI ap 40 [1,1,1,1]] [t0, .any, .any,(.mp t3 0 0), .any, .any, .any, .any, .any,t9] .any 144 st
def b9.N1 (t0:AV) (t3:Nat) (t9:AV) (t75:AV) (t87:Bool) (st:Sto):Option Res:=Rn 40 [cI ap 40 [1,1,1,0,1,0,1,1,1], .blk 0,cI ap 40 [1,1,1,1]] [t0, .any, .any,(.mp t3 0 0), .any, .any, .any, .any, .any,t9, .any, .any, .any, .any, .any, .any, .any, .any, .any, .any, .any, .any, .any, .any, .any, .any, .any, .any, .any, .any, .any, .any, .any, .any, .any, .any, .any, .any, .any, .any, .any, .any, .any, .any, .any, .any, .any, .any, .any, .any, .any, .any, .any, .any, .any, .any, .any, .any, .any, .any, .any, .any, .any, .any, .any, .any, .any, .any, .any, .any, .any, .any, .any, .any, .any,t75, .any, .any, .any, .any, .any, .any, .any, .any, .any, .any, .any,(.bool t87)] .any 66 st
def b9.F9 (t0:AV) (t9:AV) (t10:AV) (t12:Int) (st:Sto):Option Res:=Rn 40 [cI ap 40 [0,0,1,0,1,1,1,1,1],lI ap 40 [0,1,0,1,1,1,1,1], .blk 1,cI ap 40 [1,1,1,1,1,1]] [t0, .any, .any, .any, .any, .any, .any, .any, .any,t9,t10, .any,(.int .i64 t12)] .any 141 st
def b9.L4 (t0:AV) (t9:Bool) (t10:AV) (t12:Int) (st:Sto):Option Res:=Rn 40 [cI ap 40 [1,1,0,0,1,0,1,1,1,1,1],lI ap 40 [0,1,0,1,1,1,1,1], .blk 1,cI ap 40 [1,1,1,1,1,1]] [t0, .any, .any, .any, .any, .any, .any, .any, .any,(.bool t9),t10, .any,(.int .i64 t12)] .any 141 st
def p9.b (a0:AV) (a1:AV) (st:Sto):Option Res:=Rn 41 [cI ap 41 []] [a0,a1] (.tup []) 45 st
def p9.F0 (t0:AV) (t5:AV) (t6:AV) (t7:Int) (st:Sto):Option Res:=Rn 41 [cI ap 41 [0,0,1,0,1,1],lI ap 41 [0,1,0,1,1], .blk 0,cI ap 41 [1,1,1]] [t0, .any, .any, .any, .any,t5,t6,(.int .i64 t7)] .any 39 st
def c9.b (a0:AV) (a1:AV) (st:Sto):Option Res:=Rn 42 [cI ap 42 []] [a0,a1] (.tup []) 260 st
def c9.K3 (t0:AV) (t3:Nat) (t6:Int) (t32:AV) (t73:Bool) (st:Sto):Option Res:=Rn 42 [cI ap 42 [1,1,1,1,1,0,1,0,1,1,1], .blk 0,cI ap 42 [1,1,1,1]] [t0, .any, .any,(.mp t3 0 0), .any, .any,(.int .i64 t6), .any, .any, .any, .any, .any, .any, .any, .any, .any, .any, .any, .any, .any, .any, .any, .any, .any, .any, .any, .any, .any, .any, .any, .any, .any,t32, .any, .any, .any, .any, .any, .any, .any, .any, .any, .any, .any, .any, .any, .any, .any, .any, .any, .any, .any, .any, .any, .any, .any, .any, .any, .any, .any, .any, .any, .any, .any, .any, .any, .any, .any, .any, .any, .any, .any, .any,(.bool t73)] .any 188 st
def c9.G8 (t0:AV) (t3:Nat) (t6:Int) (t151:Bool) (st:Sto):Option Res:=Rn 42 [cI ap 42 [1,0,1,0,1,1,1,1,1,0,1,0,1,1,1],cI ap 42 [1,1,0,1,1,1,1,1,0,1,0,1,1,1], .blk 0,cI ap 42 [1,1,1,1]] [t0, .any, .any,(.mp t3 0 0), .any, .any,(.int .i64 t6), .any, .any, .any, .any, .any, .any, .any, .any, .any, .any, .any, .any, .any, .any, .any, .any, .any, .any, .any, .any, .any, .any, .any, .any, .any, .any, .any, .any, .any, .any, .any, .any, .any, .any, .any, .any, .any, .any, .any, .any, .any, .any, .any, .any, .any, .any, .any, .any, .any, .any, .any, .any, .any, .any, .any, .any, .any, .any, .any, .any, .any, .any, .any, .any, .any, .any, .any, .any, .any, .any, .any, .any, .any, .any, .any, .any, .any, .any, .any, .any, .any, .any, .any, .any, .any, .any, .any, .any, .any, .any, .any, .any, .any, .any, .any, .any, .any, .any, .any, .any, .any, .any, .any, .any, .any, .any, .any, .any, .any, .any, .any, .any, .any, .any, .any, .any, .any, .any, .any, .any, .any, .any, .any, .any, .any, .any, .any, .any, .any, .any, .any, .any, .any, .any, .any, .any, .any, .any, .any, .any, .any, .any, .any, .any,(.bool t151)] .any 110 st
def c9.H5 (t0:AV) (t6:Int) (t185:Bool) (st:Sto):Option Res:=Rn 42 [cI ap 42 [1,0,0,1,1,1,1,1,1,1,0,1,0,1,1,1],cI ap 42 [1,0,1,1,1,1,1,1,1,0,1,0,1,1,1], .blk 0,cI ap 42 [1,1,1,1]] [t0, .any, .any, .any, .any, .any,(.int .i64 t6), .any, .any, .any, .any, .any, .any, .any, .any, .any, .any, .any, .any, .any, .any, .any, .any, .any, .any, .any, .any, .any, .any, .any, .any, .any, .any, .any, .any, .any, .any, .any, .any, .any, .any, .any, .any, .any, .any, .any, .any, .any, .any, .any, .any, .any, .any, .any, .any, .any, .any, .any, .any, .any, .any, .any, .any, .any, .any, .any, .any, .any, .any, .any, .any, .any, .any, .any, .any, .any, .any, .any, .any, .any, .any, .any, .any, .any, .any, .any, .any, .any, .any, .any, .any, .any, .any, .any, .any, .any, .any, .any, .any, .any, .any, .any, .any, .any, .any, .any, .any, .any, .any, .any, .any, .any, .any, .any, .any, .any, .any, .any, .any, .any, .any, .any, .any, .any, .any, .any, .any, .any, .any, .any, .any, .any, .any, .any, .any, .any, .any, .any, .any, .any, .any, .any, .any, .any, .any, .any, .any, .any, .any, .any, .any, .any, .any, .any, .any, .any, .any, .any, .any, .any, .any, .any, .any, .any, .any, .any, .any, .any, .any, .any, .any, .any, .any, .any, .any, .any, .any, .any, .any, .any, .any, .any, .any, .any, .any,(.bool t185)] .any 76 st
def c9.F8  (st:Sto):Option Res:=Rn 42 [cI ap 42 [1,1,1,1]] [] .any 262 st
def c7.b (a0:AV) (a1:AV) (st:Sto):Option Res:=Rn 43 [cI ap 43 []] [a0,a1] (.tup []) 188 st
def c7.F0 (t0:AV) (t3:Nat) (t4:AV) (t5:Int) (st:Sto):Option Res:=Rn 43 [cI ap 43 [0,0,1,0,1,1],lI ap 43 [0,1,0,1,1], .blk 0,cI ap 43 [1,1,1]] [t0, .any, .any,(.mp t3 0 0),t4,(.int .i64 t5)] .any 184 st
def c7.H2 (t0:AV) (t3:Nat) (t4:AV) (t5:Int) (t64:Bool) (st:Sto):Option Res:=Rn 43 [cI ap 43 [1,0,0,1,0,0,1,0,1,1], .blk 1,cI ap 43 [1,1,0,0,1,0,1,1],lI ap 43 [0,1,0,1,1], .blk 0,cI ap 43 [1,1,1]] [t0, .any, .any,(.mp t3 0 0),t4,(.int .i64 t5), .any, .any, .any, .any, .any, .any, .any, .any, .any, .any, .any, .any, .any, .any, .any, .any, .any, .any, .any, .any, .any, .any, .any, .any, .any, .any, .any, .any, .any, .any, .any, .any, .any, .any, .any, .any, .any, .any, .any, .any, .any, .any, .any, .any, .any, .any, .any, .any, .any, .any, .any, .any, .any, .any, .any, .any, .any, .any,(.bool t64)] .any 125 st
def c7.I5 (t0:AV) (t3:Nat) (t4:AV) (t6:Int) (t7:AV) (st:Sto):Option Res:=Rn 43 [cI ap 43 [1,1,1,1,1,1]] [t0, .any, .any,(.mp t3 0 0),t4, .any,(.int .i64 t6),t7] .any 182 st
def c7.J3 (t0:AV) (t3:Nat) (t4:AV) (t6:Int) (t7:AV) (st:Sto):Option Res:=Rn 43 [cI ap 43 [1,1,1,1,1,1,1]] [t0, .any, .any,(.mp t3 0 0),t4, .any,(.int .i64 t6),t7] .any 182 st
def c7.M0 (t0:AV) (t3:Nat) (t4:AV) (t6:Int) (t7:AV) (st:Sto):Option Res:=Rn 43 [cI ap 43 [1,1,1,1,1,1,1,1]] [t0, .any, .any,(.mp t3 0 0),t4, .any,(.int .i64 t6),t7] .any 182 st
def c7.I4 (t0:AV) (t3:Nat) (t4:AV) (t6:Int) (t7:AV) (t8:Int) (st:Sto):Option Res:=Rn 43 [cI ap 43 [0,0,1,0,1,1,1,1,1,1,1,1],lI ap 43 [0,1,0,1,1,1,1,1,1,1,1], .blk 3,cI ap 43 [1,1,1,1,1,1,1,1,1]] [t0, .any, .any,(.mp t3 0 0),t4, .any,(.int .i64 t6),t7,(.int .i64 t8)] .any 181 st
def c7.H9 (t0:AV) (t3:Nat) (t4:AV) (t6:Int) (t7:AV) (t8:Int) (t126:Bool) (st:Sto):Option Res:=Rn 43 [cI ap 43 [1,0,0,0,1,0,1,1,1,1,1,1,1,1],cI ap 43 [1,0,0,1,0,1,1,1,1,1,1,1,1],lI ap 43 [0,1,0,1,1,1,1,1,1,1,1], .blk 3,cI ap 43 [1,1,1,1,1,1,1,1,1]] [t0, .any, .any,(.mp t3 0 0),t4, .any,(.int .i64 t6),t7,(.int .i64 t8), .any, .any, .any, .any, .any, .any, .any, .any, .any, .any, .any, .any, .any, .any, .any, .any, .any, .any, .any, .any, .any, .any, .any, .any, .any, .any, .any, .any, .any, .any, .any, .any, .any, .any, .any, .any, .any, .any, .any, .any, .any, .any, .any, .any, .any, .any, .any, .any, .any, .any, .any, .any, .any, .any, .any, .any, .any, .any, .any, .any, .any, .any, .any, .any, .any, .any, .any, .any, .any, .any, .any, .any, .any, .any, .any, .any, .any, .any, .any, .any, .any, .any, .any, .any, .any, .any, .any, .any, .any, .any, .any, .any, .any, .any, .any, .any, .any, .any, .any, .any, .any, .any, .any, .any, .any, .any, .any, .any, .any, .any, .any, .any, .any, .any, .any, .any, .any,(.bool t126)] .any 63 st
def j5.b (a0:AV) (st:Sto):Option Res:=Rn 44 [cI ap 44 []] [a0] (.tup []) 49 st
def j5.F9 (t0:AV) (t3:Int) (t4:Int) (st:Sto):Option Res:=Rn 44 [cI ap 44 [0,0,1,0,1,1,1,1,1],lI ap 44 [0,1,0,1,1,1,1,1], .blk 0,cI ap 44 [1,1,1,1,1,1]] [t0, .any, .any,(.int .i64 t3),(.int .i64 t4)] .any 45 st
def j5.K9 (t0:AV) (t3:Int) (t4:Int) (st:Sto):Option Res:=Rn 44 [cI ap 44 [1,0,0,1,0,0,1,0,1,1,1,1,1], .blk 1,cI ap 44 [1,1,0,0,1,0,1,1,1,1,1],lI ap 44 [0,1,0,1,1,1,1,1], .blk 0,cI ap 44 [1,1,1,1,1,1]] [t0, .any, .any,(.int .i64 t3),(.int .i64 t4)] .any 45 st
def j5.K6 (t0:AV) (t3:Int) (t4:Int) (st:Sto):Option Res:=Rn 44 [cI ap 44 [1,1,0,0,1,0,0,1,0,1,1,1,1,1], .blk 1,cI ap 44 [1,1,0,0,1,0,1,1,1,1,1],lI ap 44 [0,1,0,1,1,1,1,1], .blk 0,cI ap 44 [1,1,1,1,1,1]] [t0, .any, .any,(.int .i64 t3),(.int .i64 t4)] .any 45 st
def E0.b (a0:Int) (a1:Int) (st:Sto):Option Res:=Rn 45 [cI ap 45 []] [(.int .i64 a0),(.int .i64 a1)] (.tup []) 10 st
def A8.b (a0:ByteArray) (st:Sto):Option Res:=Rn 56 [cI ap 56 []] [(.str a0)] (.tup []) 25 st
def A8.F4 (t0:ByteArray) (t9:AV) (st:Sto):Option Res:=Rn 56 [cI ap 56 [0,0,1,0,1],lI ap 56 [0,1,0,1], .blk 0,cI ap 56 [1,1]] [(.str t0), .any, .any, .any, .any, .any, .any, .any, .any,t9] .any 16 st
def d8.b (a0:AV) (a1:Int) (st:Sto):Option Res:=Rn 57 [cI ap 57 []] [a0,(.int .i64 a1)] (.tup []) 139 st
def d8.J1 (t0:AV) (t1:Int) (t5:Nat) (t6:AV) (t7:AV) (t8:AV) (t37:Bool) (st:Sto):Option Res:=Rn 57 [cI ap 57 [1,0,1,1,1,1,0,0,1,1,1],cI ap 57 [1,1,1,1,1,0,0,1,1,1], .blk 0,cI ap 57 [1,1,1,1]] [t0,(.int .i64 t1), .any, .any, .any,(.mp t5 0 0),t6,t7,t8, .any, .any, .any, .any, .any, .any, .any, .any, .any, .any, .any, .any, .any, .any, .any, .any, .any, .any, .any, .any, .any, .any, .any, .any, .any, .any, .any, .any,(.bool t37)] .any 103 st
def d8.I6 (t0:AV) (t1:Int) (t5:Nat) (t6:AV) (t7:AV) (t8:AV) (t37:Bool) (st:Sto):Option Res:=Rn 57 [cI ap 57 [1,1,1,1,1,0,0,1,1,1], .blk 0,cI ap 57 [1,1,1,1]] [t0,(.int .i64 t1), .any, .any, .any,(.mp t5 0 0),t6,t7,t8, .any, .any, .any, .any, .any, .any, .any, .any, .any, .any, .any, .any, .any, .any, .any, .any, .any, .any, .any, .any, .any, .any, .any, .any, .any, .any, .any, .any,(.bool t37)] .any 103 st
def d8.G3 (t0:AV) (t1:Int) (t5:Nat) (t6:AV) (t7:AV) (t8:AV) (t77:Bool) (st:Sto):Option Res:=Rn 57 [cI ap 57 [1,1,1,1,1,1,1,0,0,1,1,1], .blk 0,cI ap 57 [1,1,1,1]] [t0,(.int .i64 t1), .any, .any, .any,(.mp t5 0 0),t6,t7,t8, .any, .any, .any, .any, .any, .any, .any, .any, .any, .any, .any, .any, .any, .any, .any, .any, .any, .any, .any, .any, .any, .any, .any, .any, .any, .any, .any, .any, .any, .any, .any, .any, .any, .any, .any, .any, .any, .any, .any, .any, .any, .any, .any, .any, .any, .any, .any, .any, .any, .any, .any, .any, .any, .any, .any, .any, .any, .any, .any, .any, .any, .any, .any, .any, .any, .any, .any, .any,(.bool t77)] .any 63 st
def d8.M7 (t0:AV) (t1:Int) (t5:Nat) (t6:AV) (t8:AV) (t9:Bool) (t102:AV) (t103:Bool) (st:Sto):Option Res:=Rn 57 [cI ap 57 [1,0,1,0,1,1,1,1,1], .blk 1,cI ap 57 [1,1,1,1,1,1]] [t0,(.int .i64 t1), .any, .any, .any,(.mp t5 0 0),t6, .any,t8,(.bool t9), .any, .any, .any, .any, .any, .any, .any, .any, .any, .any, .any, .any, .any, .any, .any, .any, .any, .any, .any, .any, .any, .any, .any, .any, .any, .any, .any, .any, .any, .any, .any, .any, .any, .any, .any, .any, .any, .any, .any, .any, .any, .any, .any, .any, .any, .any, .any, .any, .any, .any, .any, .any, .any, .any, .any, .any, .any, .any, .any, .any, .any, .any, .any, .any, .any, .any, .any, .any, .any, .any, .any, .any, .any, .any, .any, .any, .any, .any, .any, .any, .any, .any, .any, .any, .any, .any, .any, .any, .any, .any, .any, .any,t102,(.bool t103)] .any 37 st
def d8.I5 (t0:AV) (t1:Int) (t5:Nat) (t6:AV) (t8:AV) (t9:AV) (st:Sto):Option Res:=Rn 57 [cI ap 57 [1,1,1,1,1,1]] [t0,(.int .i64 t1), .any, .any, .any,(.mp t5 0 0),t6, .any,t8,t9] .any 131 st
def d8.J3 (t9:AV) (st:Sto):Option Res:=Rn 57 [cI ap 57 [1,1,1,1,1,1,1]] [.any, .any, .any, .any, .any, .any, .any, .any, .any,t9] .any 131 st
def E2.b (a0:AV) (st:Sto):Option Res:=Rn 58 [cI ap 58 []] [a0] (.tup []) 10 st
def i7.b (a0:AV) (a1:Int) (a2:AV) (st:Sto):Option Res:=Rn 59 [cI ap 59 []] [a0,(.int .i64 a1),a2] (.tup []) 244 st
def i7.F2 (t0:AV) (t5:Nat) (t7:AV) (t20:Bool) (st:Sto):Option Res:=Rn 59 [cI ap 59 [1,0,1,1],cI ap 59 [1,1,1]] [t0, .any, .any, .any, .any,(.mp t5 0 0), .any,t7, .any, .any, .any, .any, .any, .any, .any, .any, .any, .any, .any, .any,(.bool t20)] .any 226 st
def i7.F1 (t0:AV) (t5:Nat) (t7:AV) (t22:AV) (t23:Int) (t24:Int) (st:Sto):Option Res:=Rn 59 [cI ap 59 [0,0,1,0,1,1,1],lI ap 59 [0,1,0,1,1,1], .blk 0,cI ap 59 [1,1,1,1]] [t0, .any, .any, .any, .any,(.mp t5 0 0), .any,t7, .any, .any, .any, .any, .any, .any, .any, .any, .any, .any, .any, .any, .any, .any,t22,(.int .i64 t23),(.int .i64 t24)] .any 222 st
def i7.H7 (t5:Nat) (t7:AV) (t47:AV) (t215:Bool) (st:Sto):Option Res:=Rn 59 [cI ap 59 [1,1,1,1,1,1,1,1,1,1,1,1,1,1,1,0,1,0,1,1,1,1], .blk 2,cI ap 59 [1,1,1,1,1]] [.any, .any, .any, .any, .any,(.mp t5 0 0), .any,t7, .any, .any, .any, .any, .any, .any, .any, .any, .any, .any, .any, .any, .any, .any, .any, .any, .any, .any, .any, .any, .any, .any, .any, .any, .any, .any, .any, .any, .any, .any, .any, .any, .any, .any, .any, .any, .any, .any, .any,t47, .any, .any, .any, .any, .any, .any, .any, .any, .any, .any, .any, .any, .any, .any, .any, .any, .any, .any, .any, .any, .any, .any, .any, .any, .any, .any, .any, .any, .any, .any, .any, .any, .any, .any, .any, .any, .any, .any, .any, .any, .any, .any, .any, .any, .any, .any, .any, .any, .any, .any, .any, .any, .any, .any, .any, .any, .any, .any, .any, .any, .any, .any, .any, .any, .any, .any, .any, .any, .any, .any, .any, .any, .any, .any, .any, .any, .any, .any, .any, .any, .any, .any, .any, .any, .any, .any, .any, .any, .any, .any, .any, .any, .any, .any, .any, .any, .any, .any, .any, .any, .any, .any, .any, .any, .any, .any, .any, .any, .any, .any, .any, .any, .any, .any, .any, .any, .any, .any, .any, .any, .any, .any, .any, .any, .any, .any, .any, .any, .any, .any, .any, .any, .any, .any, .any, .any, .any, .any, .any, .any, .any, .any, .any, .any, .any, .any, .any, .any, .any, .any, .any, .any, .any, .any, .any, .any, .any, .any, .any, .any, .any, .any, .any, .any, .any, .any, .any,(.bool t215)] .any 31 st
def i7.H3 (t5:Nat) (t7:AV) (t47:AV) (t229:Bool) (st:Sto):Option Res:=Rn 59 [cI ap 59 [1,1,1,1,1,1,1,1,1,1,1,1,1,1,1,1,1,0,1,0,1,1,1,1], .blk 2,cI ap 59 [1,1,1,1,1]] [.any, .any, .any, .any, .any,(.mp t5 0 0), .any,t7, .any, .any, .any, .any, .any, .any, .any, .any, .any, .any, .any, .any, .any, .any, .any, .any, .any, .any, .any, .any, .any, .any, .any, .any, .any, .any, .any, .any, .any, .any, .any, .any, .any, .any, .any, .any, .any, .any, .any,t47, .any, .any, .any, .any, .any, .any, .any, .any, .any, .any, .any, .any, .any, .any, .any, .any, .any, .any, .any, .any, .any, .any, .any, .any, .any, .any, .any, .any, .any, .any, .any, .any, .any, .any, .any, .any, .any, .any, .any, .any, .any, .any, .any, .any, .any, .any, .any, .any, .any, .any, .any, .any, .any, .any, .any, .any, .any, .any, .any, .any, .any, .any, .any, .any, .any, .any, .any, .any, .any, .any, .any, .any, .any, .any, .any, .any, .any, .any, .any, .any, .any, .any, .any, .any, .any, .any, .any, .any, .any, .any, .any, .any, .any, .any, .any, .any, .any, .any, .any, .any, .any, .any, .any, .any, .any, .any, .any, .any, .any, .any, .any, .any, .any, .any, .any, .any, .any, .any, .any, .any, .any, .any, .any, .any, .any, .any, .any, .any, .any, .any, .any, .any, .any, .any, .any, .any, .any, .any, .any, .any, .any, .any, .any, .any, .any, .any, .any, .any, .any, .any, .any, .any, .any, .any, .any, .any, .any, .any, .any, .any, .any, .any, .any, .any, .any, .any, .any, .any, .any, .any, .any, .any, .any, .any, .any, .any, .any, .any, .any, .any, .any,(.bool t229)] .any 17 st
def p1.b (a0:AV) (st:Sto):Option Res:=Rn 60 [cI ap 60 []] [a0] (.tup []) 58 st
def p1.G9 (t0:AV) (t9:AV) (t10:Bool) (st:Sto):Option Res:=Rn 60 [cI ap 60 [1,0,1,0,1], .blk 0,cI ap 60 [1,1]] [t0, .any, .any, .any, .any, .any, .any, .any, .any,t9,(.bool t10)] .any 48 st
def p1.I3 (t3:AV) (t46:AV) (t47:Int) (t48:Int) (st:Sto):Option Res:=Rn 60 [cI ap 60 [0,0,1,0,1,0,1,1,1,1,1,1,1,0,1,0,1],lI ap 60 [0,1,0,1,0,1,1,1,1,1,1,1,0,1,0,1], .blk 1,cI ap 60 [1,1,0,1,1,1,1,1,1,1,0,1,0,1], .blk 0,cI ap 60 [1,1]] [.any, .any, .any,t3, .any, .any, .any, .any, .any, .any, .any, .any, .any, .any, .any, .any, .any, .any, .any, .any, .any, .any, .any, .any, .any, .any, .any, .any, .any, .any, .any, .any, .any, .any, .any, .any, .any, .any, .any, .any, .any, .any, .any, .any, .any, .any,t46,(.int .i64 t47),(.int .i64 t48)] .any 10 st
def j4.b (a0:AV) (a1:Int) (a2:AV) (st:Sto):Option Res:=Rn 61 [cI ap 61 []] [a0,(.int .i64 a1),a2] (.tup []) 124 st
def j4.M4 (t0:AV) (t1:Int) (t2:AV) (t24:AV) (t56:Bool) (st:Sto):Option Res:=Rn 61 [cI ap 61 [1,1,1,1,1,0,1,0,1,1], .blk 0,cI ap 61 [1,1,1]] [t0,(.int .i64 t1),t2, .any, .any, .any, .any, .any, .any, .any, .any, .any, .any, .any, .any, .any, .any, .any, .any, .any, .any, .any, .any, .any,t24, .any, .any, .any, .any, .any, .any, .any, .any, .any, .any, .any, .any, .any, .any, .any, .any, .any, .any, .any, .any, .any, .any, .any, .any, .any, .any, .any, .any, .any, .any, .any,(.bool t56)] .any 70 st
def j4.I8 (t100:Bool) (st:Sto):Option Res:=Rn 61 [cI ap 61 [1,1,0,1,1,1,1,1,0,1,0,1,1], .blk 0,cI ap 61 [1,1,1]] [.any, .any, .any, .any, .any, .any, .any, .any, .any, .any, .any, .any, .any, .any, .any, .any, .any, .any, .any, .any, .any, .any, .any, .any, .any, .any, .any, .any, .any, .any, .any, .any, .any, .any, .any, .any, .any, .any, .any, .any, .any, .any, .any, .any, .any, .any, .any, .any, .any, .any, .any, .any, .any, .any, .any, .any, .any, .any, .any, .any, .any, .any, .any, .any, .any, .any, .any, .any, .any, .any, .any, .any, .any, .any, .any, .any, .any, .any, .any, .any, .any, .any, .any, .any, .any, .any, .any, .any, .any, .any, .any, .any, .any, .any, .any, .any, .any, .any, .any, .any,(.bool t100)] .any 26 st
def j4.I9  (st:Sto):Option Res:=Rn 61 [cI ap 61 [1,1,1]] [] .any 127 st
def l9.b (a0:AV) (a1:AV) (st:Sto):Option Res:=Rn 62 [cI ap 62 []] [a0,a1] (.tup []) 66 st
def l9.F0 (t0:AV) (t5:AV) (t10:AV) (t11:Int) (t12:Int) (st:Sto):Option Res:=Rn 62 [cI ap 62 [0,0,1,0,1,1],lI ap 62 [0,1,0,1,1], .blk 0,cI ap 62 [1,1,1]] [t0, .any, .any, .any, .any,t5, .any, .any, .any, .any,t10,(.int .i64 t11),(.int .i64 t12)] .any 55 st
def l9.F3 (t0:AV) (t5:AV) (t10:AV) (t11:Int) (t12:Int) (t66:Bool) (st:Sto):Option Res:=Rn 62 [cI ap 62 [1,1,0,0,1,1,0,0,1,0,1,1], .blk 1,cI ap 62 [1,1,1,0,0,1,0,1,1],lI ap 62 [0,1,0,1,1], .blk 0,cI ap 62 [1,1,1]] [t0, .any, .any, .any, .any,t5, .any, .any, .any, .any,t10,(.int .i64 t11),(.int .i64 t12), .any, .any, .any, .any, .any, .any, .any, .any, .any, .any, .any, .any, .any, .any, .any, .any, .any, .any, .any, .any, .any, .any, .any, .any, .any, .any, .any, .any, .any, .any, .any, .any, .any, .any, .any, .any, .any, .any, .any, .any, .any, .any, .any, .any, .any, .any, .any, .any, .any, .any, .any, .any, .any,(.bool t66), .any] .any 0 st
def w5.b (a0:AV) (a1:AV) (st:Sto):Option Res:=Rn 63 [cI ap 63 []] [a0,a1] (.tup []) 32 st
def w5.F0 (t0:AV) (t19:AV) (t20:Int) (t21:Int) (st:Sto):Option Res:=Rn 63 [cI ap 63 [0,0,1,0,1,1],lI ap 63 [0,1,0,1,1], .blk 0,cI ap 63 [1,1,1]] [t0, .any, .any, .any, .any, .any, .any, .any, .any, .any, .any, .any, .any, .any, .any, .any, .any, .any, .any,t19,(.int .i64 t20),(.int .i64 t21)] .any 12 st
def i6.b (a0:AV) (a1:Int) (a2:AV) (st:Sto):Option Res:=Rn 64 [cI ap 64 []] [a0,(.int .i64 a1),a2] (.tup []) 179 st
def i6.N7 (t0:AV) (t1:Int) (t2:AV) (t10:AV) (t11:Int) (t12:Int) (st:Sto):Option Res:=Rn 64 [cI ap 64 [0,0,1,0],lI ap 64 [0,1,0], .blk 0,cI ap 64 [1]] [t0,(.int .i64 t1),t2, .any, .any, .any, .any, .any, .any, .any,t10,(.int .i64 t11),(.int .i64 t12)] .any 169 st
def i6.L3 (t0:AV) (t1:Int) (t2:AV) (t7:Nat) (t8:Nat) (t10:AV) (t11:Int) (t12:Int) (st:Sto):Option Res:=Rn 64 [cI ap 64 [1,1,1,0,0,1,1,0,0,1,0], .blk 1,cI ap 64 [1,1,1,0,0,1,0],lI ap 64 [0,1,0], .blk 0,cI ap 64 [1]] [t0,(.int .i64 t1),t2, .any, .any, .any, .any,(.mp t7 0 0),(.mp t8 0 0), .any,t10,(.int .i64 t11),(.int .i64 t12)] .any 169 st
def i6.M6 (t0:AV) (t1:Int) (t2:AV) (t66:AV) (t85:Bool) (st:Sto):Option Res:=Rn 64 [cI ap 64 [1,1,1,0,1,1], .blk 2] [t0,(.int .i64 t1),t2, .any, .any, .any, .any, .any, .any, .any, .any, .any, .any, .any, .any, .any, .any, .any, .any, .any, .any, .any, .any, .any, .any, .any, .any, .any, .any, .any, .any, .any, .any, .any, .any, .any, .any, .any, .any, .any, .any, .any, .any, .any, .any, .any, .any, .any, .any, .any, .any, .any, .any, .any, .any, .any, .any, .any, .any, .any, .any, .any, .any, .any, .any, .any,t66, .any, .any, .any, .any, .any, .any, .any, .any, .any, .any, .any, .any, .any, .any, .any, .any, .any, .any,(.bool t85)] .any 96 st
def i6.L8 (t0:AV) (t1:Int) (t139:Bool) (st:Sto):Option Res:=Rn 64 [cI ap 64 [1,1,0,1,1,1,1,1,0,1,1], .blk 2] [t0,(.int .i64 t1), .any, .any, .any, .any, .any, .any, .any, .any, .any, .any, .any, .any, .any, .any, .any, .any, .any, .any, .any, .any, .any, .any, .any, .any, .any, .any, .any, .any, .any, .any, .any, .any, .any, .any, .any, .any, .any, .any, .any, .any, .any, .any, .any, .any, .any, .any, .any, .any, .any, .any, .any, .any, .any, .any, .any, .any, .any, .any, .any, .any, .any, .any, .any, .any, .any, .any, .any, .any, .any, .any, .any, .any, .any, .any, .any, .any, .any, .any, .any, .any, .any, .any, .any, .any, .any, .any, .any, .any, .any, .any, .any, .any, .any, .any, .any, .any, .any, .any, .any, .any, .any, .any, .any, .any, .any, .any, .any, .any, .any, .any, .any, .any, .any, .any, .any, .any, .any, .any, .any, .any, .any, .any, .any, .any, .any, .any, .any, .any, .any, .any, .any, .any, .any, .any, .any, .any, .any,(.bool t139)] .any 42 st
def y3.b (a0:ByteArray) (st:Sto):Option Res:=Rn 65 [cI ap 65 []] [(.str a0)] (.tup []) 18 st
def y3.N8 (t0:ByteArray) (t4:Int) (st:Sto):Option Res:=Rn 65 [cI ap 65 [0,0,0,1,1],lI ap 65 [0,0,1,1], .blk 0,cI ap 65 [1,1,1]] [(.str t0), .any, .any, .any,(.int .i64 t4)] .any 14 st
def d9.b (a0:AV) (a1:Int) (a2:Int) (a3:Int) (a4:Int) (st:Sto):Option Res:=Rn 66 [cI ap 66 []] [a0,(.int .i64 a1),(.int .i64 a2),(.int .i64 a3),(.int .i64 a4)] (.tup []) 78 st
def d9.I7 (t1:Int) (t2:Int) (t3:Int) (t4:Int) (t5:Nat) (t18:Bool) (st:Sto):Option Res:=Rn 66 [cI ap 66 [1,0,1],cI ap 66 [1,1]] [.any,(.int .i64 t1),(.int .i64 t2),(.int .i64 t3),(.int .i64 t4),(.mp t5 0 0), .any, .any, .any, .any, .any, .any, .any, .any, .any, .any, .any, .any,(.bool t18)] .any 64 st
def d9.K0 (t1:Int) (t2:Int) (t3:Int) (t4:Int) (t5:Nat) (t26:Bool) (st:Sto):Option Res:=Rn 66 [cI ap 66 [1,1,1,0,0,1,1], .blk 0,cI ap 66 [1,1,1]] [.any,(.int .i64 t1),(.int .i64 t2),(.int .i64 t3),(.int .i64 t4),(.mp t5 0 0), .any, .any, .any, .any, .any, .any, .any, .any, .any, .any, .any, .any, .any, .any, .any, .any, .any, .any, .any, .any,(.bool t26)] .any 56 st
def d9.M9 (t43:Bool) (st:Sto):Option Res:=Rn 66 [cI ap 66 [1,0,1,1,1,0,0,1,1], .blk 0,cI ap 66 [1,1,1]] [.any, .any, .any, .any, .any, .any, .any, .any, .any, .any, .any, .any, .any, .any, .any, .any, .any, .any, .any, .any, .any, .any, .any, .any, .any, .any, .any, .any, .any, .any, .any, .any, .any, .any, .any, .any, .any, .any, .any, .any, .any, .any, .any,(.bool t43)] .any 39 st
def d9.L9 (t56:Bool) (st:Sto):Option Res:=Rn 66 [cI ap 66 [1,0,1,1,1,1,1,0,0,1,1], .blk 0,cI ap 66 [1,1,1]] [.any, .any, .any, .any, .any, .any, .any, .any, .any, .any, .any, .any, .any, .any, .any, .any, .any, .any, .any, .any, .any, .any, .any, .any, .any, .any, .any, .any, .any, .any, .any, .any, .any, .any, .any, .any, .any, .any, .any, .any, .any, .any, .any, .any, .any, .any, .any, .any, .any, .any, .any, .any, .any, .any, .any, .any,(.bool t56)] .any 26 st
def d9.K8 (t68:Bool) (st:Sto):Option Res:=Rn 66 [cI ap 66 [1,0,1,1,1,1,1,1,1,0,0,1,1], .blk 0,cI ap 66 [1,1,1]] [.any, .any, .any, .any, .any, .any, .any, .any, .any, .any, .any, .any, .any, .any, .any, .any, .any, .any, .any, .any, .any, .any, .any, .any, .any, .any, .any, .any, .any, .any, .any, .any, .any, .any, .any, .any, .any, .any, .any, .any, .any, .any, .any, .any, .any, .any, .any, .any, .any, .any, .any, .any, .any, .any, .any, .any, .any, .any, .any, .any, .any, .any, .any, .any, .any, .any, .any, .any,(.bool t68)] .any 14 st
def d9.J5 (t82:Bool) (st:Sto):Option Res:=Rn 66 [cI ap 66 [1,0,1,1,1,1,1,1,1,1,1,0,0,1,1], .blk 0,cI ap 66 [1,1,1]] [.any, .any, .any, .any, .any, .any, .any, .any, .any, .any, .any, .any, .any, .any, .any, .any, .any, .any, .any, .any, .any, .any, .any, .any, .any, .any, .any, .any, .any, .any, .any, .any, .any, .any, .any, .any, .any, .any, .any, .any, .any, .any, .any, .any, .any, .any, .any, .any, .any, .any, .any, .any, .any, .any, .any, .any, .any, .any, .any, .any, .any, .any, .any, .any, .any, .any, .any, .any, .any, .any, .any, .any, .any, .any, .any, .any, .any, .any, .any, .any, .any, .any,(.bool t82)] .any 0 st
def d9.I9  (st:Sto):Option Res:=Rn 66 [cI ap 66 [1,1,1]] [] .any 83 st
def i8.b (a0:Int) (st:Sto):Option Res:=Rn 67 [cI ap 67 []] [(.int .i64 a0)] (.tup []) 43 st
def i8.I0 (t0:Int) (t5:Bool) (st:Sto):Option Res:=Rn 67 [cI ap 67 [1,0,0,1], .blk 0,cI ap 67 [1,1]] [(.int .i64 t0), .any, .any, .any, .any,(.bool t5)] .any 38 st
def i8.H8 (t0:Int) (t12:Bool) (st:Sto):Option Res:=Rn 67 [cI ap 67 [1,1,1,0,0,1], .blk 0,cI ap 67 [1,1]] [(.int .i64 t0), .any, .any, .any, .any, .any, .any, .any, .any, .any, .any, .any,(.bool t12)] .any 31 st
def i8.F7 (t0:Int) (t31:Bool) (st:Sto):Option Res:=Rn 67 [cI ap 67 [1,1,1,1,1,0,0,1], .blk 0,cI ap 67 [1,1]] [(.int .i64 t0), .any, .any, .any, .any, .any, .any, .any, .any, .any, .any, .any, .any, .any, .any, .any, .any, .any, .any, .any, .any, .any, .any, .any, .any, .any, .any, .any, .any, .any, .any,(.bool t31)] .any 12 st
def D2.b (a0:Int) (st:Sto):Option Res:=Rn 68 [cI ap 68 []] [(.int .i64 a0)] (.tup []) 16 st
def y9.b (a0:AV) (a1:Int) (a2:Int) (st:Sto):Option Res:=Rn 69 [cI ap 69 []] [a0,(.int .i64 a1),(.int .i64 a2)] (.tup []) 21 st
def y9.I7 (t0:AV) (t1:Int) (t2:Int) (t19:Bool) (st:Sto):Option Res:=Rn 69 [cI ap 69 [1,0,1],cI ap 69 [1,1]] [t0,(.int .i64 t1),(.int .i64 t2), .any, .any, .any, .any, .any, .any, .any, .any, .any, .any, .any, .any, .any, .any, .any, .any,(.bool t19)] .any 4 st
def y7.b (a0:AV) (a1:Int) (a2:Int) (st:Sto):Option Res:=Rn 70 [cI ap 70 []] [a0,(.int .i64 a1),(.int .i64 a2)] (.tup []) 46 st
def y7.F4 (t0:AV) (t1:AV) (t2:Int) (t8:Int) (st:Sto):Option Res:=Rn 70 [cI ap 70 [0,0,1,0,1],lI ap 70 [0,1,0,1], .blk 0,cI ap 70 [1,1]] [t0,t1,(.int .i64 t2), .any, .any, .any, .any, .any,(.int .i64 t8)] .any 40 st
def j7.b (a0:Int) (st:Sto):Option Res:=Rn 71 [cI ap 71 []] [(.int .i64 a0)] (.tup []) 24 st
def j7.G9 (t7:Int) (t8:Bool) (st:Sto):Option Res:=Rn 71 [cI ap 71 [1,0,1,0,1], .blk 0,cI ap 71 [1,1]] [.any, .any, .any, .any, .any, .any, .any,(.int .i64 t7),(.bool t8)] .any 16 st
def j7.N5 (t7:Int) (t15:Bool) (st:Sto):Option Res:=Rn 71 [cI ap 71 [1,1,1,0,1,0,1], .blk 0,cI ap 71 [1,1]] [.any, .any, .any, .any, .any, .any, .any,(.int .i64 t7), .any, .any, .any, .any, .any, .any, .any,(.bool t15)] .any 9 st
def j7.L5 (t7:Int) (t20:Bool) (st:Sto):Option Res:=Rn 71 [cI ap 71 [1,1,1,1,1,1,1,0,1,0,1], .blk 0,cI ap 71 [1,1]] [.any, .any, .any, .any, .any, .any, .any,(.int .i64 t7), .any, .any, .any, .any, .any, .any, .any, .any, .any, .any, .any, .any,(.bool t20)] .any 4 st
def C1.b (a0:AV) (a1:Int) (st:Sto):Option Res:=Rn 72 [cI ap 72 []] [a0,(.int .i64 a1)] (.tup []) 22 st
def w8.b (a0:AV) (st:Sto):Option Res:=Rn 73 [cI ap 73 []] [a0] (.tup []) 35 st
def w8.G9 (t1:Nat) (t5:AV) (t6:Bool) (st:Sto):Option Res:=Rn 73 [cI ap 73 [1,0,1,0,1], .blk 0,cI ap 73 [1,1]] [.any,(.mp t1 0 0), .any, .any, .any,t5,(.bool t6)] .any 29 st
def D5.b (a0:AV) (st:Sto):Option Res:=Rn 74 [cI ap 74 []] [a0] (.tup []) 7 st
def i4.b (a0:AV) (st:Sto):Option Res:=Rn 75 [cI ap 75 []] [a0] (.tup []) 40 st
def i4.F2 (t1:Nat) (t11:Bool) (st:Sto):Option Res:=Rn 75 [cI ap 75 [1,0,1,1],cI ap 75 [1,1,1]] [.any,(.mp t1 0 0), .any, .nils, .any, .any, .any, .any, .any, .any, .any,(.bool t11)] .any 29 st
def i4.I9 (t1:Nat) (t3:AV) (st:Sto):Option Res:=Rn 75 [cI ap 75 [1,1,1]] [.any,(.mp t1 0 0), .any,t3] .any 37 st
def i4.G6 (t1:Nat) (t3:AV) (t34:Bool) (st:Sto):Option Res:=Rn 75 [cI ap 75 [1,0,1,1,1],cI ap 75 [1,1,1,1]] [.any,(.mp t1 0 0), .any,t3, .any, .any, .any, .any, .any, .any, .any, .any, .any, .any, .any, .any, .any, .any, .any, .any, .any, .any, .any, .any, .any, .any, .any, .any, .any, .any, .any, .any, .any, .any,(.bool t34)] .any 6 st
def i4.F8 (t3:AV) (st:Sto):Option Res:=Rn 75 [cI ap 75 [1,1,1,1]] [.any, .any, .any,t3] .any 37 st
def k0.b (a0:ByteArray) (st:Sto):Option Res:=Rn 87 [cI ap 87 []] [(.str a0)] (.tup []) 18 st
def k0.I7 (t0:ByteArray) (t10:Bool) (st:Sto):Option Res:=Rn 87 [cI ap 87 [1,0,1],cI ap 87 [1,1]] [(.str t0), .any, .any, .any, .any, .any, .any, .any, .any, .any,(.bool t10)] .any 8 st
def y4.b (a0:Int) (st:Sto):Option Res:=Rn 88 [cI ap 88 []] [(.int .i64 a0)] (.tup []) 24 st
def y4.I0 (t0:Int) (t4:Bool) (st:Sto):Option Res:=Rn 88 [cI ap 88 [1,0,0,1], .blk 0,cI ap 88 [1,1]] [(.int .i64 t0), .any, .any, .any,(.bool t4)] .any 20 st
def y4.F7 (t0:Int) (t15:Bool) (st:Sto):Option Res:=Rn 88 [cI ap 88 [1,1,1,1,1,0,0,1], .blk 0,cI ap 88 [1,1]] [(.int .i64 t0), .any, .any, .any, .any, .any, .any, .any, .any, .any, .any, .any, .any, .any, .any,(.bool t15)] .any 9 st
def y1.b (a0:AV) (st:Sto):Option Res:=Rn 89 [cI ap 89 []] [a0] (.tup []) 38 st
def y1.I0 (t1:Nat) (t3:Bool) (st:Sto):Option Res:=Rn 89 [cI ap 89 [1,0,0,1], .blk 0,cI ap 89 [1,1]] [.any,(.mp t1 0 0), .any,(.bool t3)] .any 35 st
def y1.M1 (t1:Nat) (t24:Bool) (st:Sto):Option Res:=Rn 89 [cI ap 89 [1,0,1,1,1,1,0,0,1],cI ap 89 [1,1,1,1,1,0,0,1], .blk 0,cI ap 89 [1,1]] [.any,(.mp t1 0 0), .any, .any, .any, .any, .any, .any, .any, .any, .any, .any, .any, .any, .any, .any, .any, .any, .any, .any, .any, .any, .any, .any,(.bool t24)] .any 14 st
def y1.F7 (t1:Nat) (t24:AV) (st:Sto):Option Res:=Rn 89 [cI ap 89 [1,1,1,1,1,0,0,1], .blk 0,cI ap 89 [1,1]] [.any,(.mp t1 0 0), .any, .any, .any, .any, .any, .any, .any, .any, .any, .any, .any, .any, .any, .any, .any, .any, .any, .any, .any, .any, .any, .any,t24] .any 14 st
def E8.b (a0:Int) (st:Sto):Option Res:=Rn 90 [cI ap 90 []] [(.int .i64 a0)] (.tup []) 8 st
def z6.b (a0:AV) (a1:Int) (a2:Int) (st:Sto):Option Res:=Rn 91 [cI ap 91 []] [a0,(.int .i64 a1),(.int .i64 a2)] (.tup []) 28 st
def z6.p11 (t0:AV) (t1:Int) (t2:Int) (st:Sto):Option Res:=Rn 91 [cI ap 91 [1,1]] [t0,(.int .i64 t1),(.int .i64 t2)] .any 28 st
def p6.b (a0:AV) (a1:Int) (a2:AV) (st:Sto):Option Res:=Rn 92 [cI ap 92 []] [a0,(.int .i64 a1),a2] (.tup []) 68 st
def p6.F4 (t0:AV) (t1:Int) (t2:AV) (t9:Int) (t10:Int) (st:Sto):Option Res:=Rn 92 [cI ap 92 [0,0,1,0,1],lI ap 92 [0,1,0,1], .blk 0,cI ap 92 [1,1]] [t0,(.int .i64 t1),t2, .any, .any, .any, .any, .any, .any,(.int .i64 t9),(.int .i64 t10)] .any 60 st
def p6.G7 (t0:AV) (t1:Int) (t2:AV) (t7:Int) (t9:Int) (t10:Int) (st:Sto):Option Res:=Rn 92 [cI ap 92 [1,1,1,0,0,1,1,0,0,1,0,1], .blk 1,cI ap 92 [1,1,1,0,0,1,0,1],lI ap 92 [0,1,0,1], .blk 0,cI ap 92 [1,1]] [t0,(.int .i64 t1),t2, .any, .any, .any, .any,(.int .i64 t7), .any,(.int .i64 t9),(.int .i64 t10)] .any 60 st
def p6.K5 (t0:AV) (t1:Int) (t2:AV) (t9:Int) (t10:Int) (t69:Bool) (st:Sto):Option Res:=Rn 92 [cI ap 92 [1,1,1,1,1,0,0,1,1,0,0,1,0,1], .blk 1,cI ap 92 [1,1,1,0,0,1,0,1],lI ap 92 [0,1,0,1], .blk 0,cI ap 92 [1,1]] [t0,(.int .i64 t1),t2, .any, .any, .any, .any, .any, .any,(.int .i64 t9),(.int .i64 t10), .any, .any, .any, .any, .any, .any, .any, .any, .any, .any, .any, .any, .any, .any, .any, .any, .any, .any, .any, .any, .any, .any, .any, .any, .any, .any, .any, .any, .any, .any, .any, .any, .any, .any, .any, .any, .any, .any, .any, .any, .any, .any, .any, .any, .any, .any, .any, .any, .any, .any, .any, .any, .any, .any, .any, .any, .any, .any,(.bool t69), .any] .any 0 st
def y0.b (a0:AV) (c0:AV) (st:Sto):Option Res:=Rn 93 [cI ap 93 []] [a0,c0] (.tup []) 26 st
def y0.F4 (t1:AV) (t6:AV) (t7:Int) (t8:Int) (st:Sto):Option Res:=Rn 93 [cI ap 93 [0,0,1,0,1],lI ap 93 [0,1,0,1], .blk 0,cI ap 93 [1,1]] [.any,t1, .any, .any, .any, .any,t6,(.int .i64 t7),(.int .i64 t8)] .any 19 st
def C8.b (a0:AV) (a1:Int) (a2:Bool) (st:Sto):Option Res:=Rn 94 [cI ap 94 []] [a0,(.int .i64 a1),(.bool a2)] (.tup []) 31 st
def E5.b (a0:AV) (st:Sto):Option Res:=Rn 95 [cI ap 95 []] [a0] (.tup []) 5 st
def o8.b (a0:AV) (st:Sto):Option Res:=Rn 96 [cI ap 96 []] [a0] (.tup []) 55 st
def o8.J0 (t3:AV) (t20:AV) (t21:Int) (t22:Int) (st:Sto):Option Res:=Rn 96 [cI ap 96 [0,0,1,0,1,0,1,0,1,0,1],lI ap 96 [0,1,0,1,0,1,0,1,0,1], .blk 1,cI ap 96 [1,1,0,1,0,1,0,1], .blk 0,cI ap 96 [1,1]] [.any, .any, .any,t3, .any, .any, .any, .any, .any, .any, .any, .any, .any, .any, .any, .any, .any, .any, .any, .any,t20,(.int .i64 t21),(.int .i64 t22)] .any 33 st
def o8.K4 (t3:AV) (t20:AV) (t21:Int) (t22:Int) (st:Sto):Option Res:=Rn 96 [cI ap 96 [1,1,1,0,0,1,0,1,0,1,0,1,0,1],lI ap 96 [0,1,0,1,0,1,0,1,0,1], .blk 1,cI ap 96 [1,1,0,1,0,1,0,1], .blk 0,cI ap 96 [1,1]] [.any, .any, .any,t3, .any, .any, .any, .any, .any, .any, .any, .any, .any, .any, .any, .any, .any, .any, .any, .any,t20,(.int .i64 t21),(.int .i64 t22)] .any 33 st
def g8.b (a0:ByteArray) (a1:Int) (st:Sto):Option Res:=Rn 97 [cI ap 97 []] [(.str a0),(.int .i64 a1)] (.tup []) 103 st
def g8.G6 (t0:ByteArray) (t1:Int) (t5:Int) (t22:Bool) (st:Sto):Option Res:=Rn 97 [cI ap 97 [1,0,1,1,1],cI ap 97 [1,1,1,1]] [(.str t0),(.int .i64 t1), .any, .any, .any,(.int .u8 t5), .any, .any, .any, .any, .any, .any, .any, .any, .any, .any, .any, .any, .any, .any, .any, .any,(.bool t22)] .any 82 st
def g8.N4 (t0:ByteArray) (t1:Int) (t5:Int) (t40:Bool) (st:Sto):Option Res:=Rn 97 [cI ap 97 [1,0,1,1,1,1],cI ap 97 [1,1,1,1,1]] [(.str t0),(.int .i64 t1), .any, .any, .any,(.int .u8 t5), .any, .any, .any, .any, .any, .any, .any, .any, .any, .any, .any, .any, .any, .any, .any, .any, .any, .any, .any, .any, .any, .any, .any, .any, .any, .any, .any, .any, .any, .any, .any, .any, .any, .any,(.bool t40)] .any 64 st
def g8.L1 (t60:Bool) (st:Sto):Option Res:=Rn 97 [cI ap 97 [1,0,0,1,0,1,1,1,1],cI ap 97 [1,0,1,0,1,1,1,1],cI ap 97 [1,1,1,1,1]] [.any, .any, .any, .any, .any, .any, .any, .any, .any, .any, .any, .any, .any, .any, .any, .any, .any, .any, .any, .any, .any, .any, .any, .any, .any, .any, .any, .any, .any, .any, .any, .any, .any, .any, .any, .any, .any, .any, .any, .any, .any, .any, .any, .any, .any, .any, .any, .any, .any, .any, .any, .any, .any, .any, .any, .any, .any, .any, .any, .any,(.bool t60)] .any 44 st
def g8.M5 (t0:ByteArray) (t1:Int) (t5:Int) (t84:Bool) (st:Sto):Option Res:=Rn 97 [cI ap 97 [1,0,1,1,1,1,1],cI ap 97 [1,1,1,1,1,1]] [(.str t0),(.int .i64 t1), .any, .any, .any,(.int .u8 t5), .any, .any, .any, .any, .any, .any, .any, .any, .any, .any, .any, .any, .any, .any, .any, .any, .any, .any, .any, .any, .any, .any, .any, .any, .any, .any, .any, .any, .any, .any, .any, .any, .any, .any, .any, .any, .any, .any, .any, .any, .any, .any, .any, .any, .any, .any, .any, .any, .any, .any, .any, .any, .any, .any, .any, .any, .any, .any, .any, .any, .any, .any, .any, .any, .any, .any, .any, .any, .any, .any, .any, .any, .any, .any, .any, .any, .any, .any,(.bool t84)] .any 20 st
def g8.K7 (t104:Bool) (st:Sto):Option Res:=Rn 97 [cI ap 97 [1,0,0,1,0,1,1,1,1,1],cI ap 97 [1,0,1,0,1,1,1,1,1],cI ap 97 [1,1,1,1,1,1]] [.any, .any, .any, .any, .any, .any, .any, .any, .any, .any, .any, .any, .any, .any, .any, .any, .any, .any, .any, .any, .any, .any, .any, .any, .any, .any, .any, .any, .any, .any, .any, .any, .any, .any, .any, .any, .any, .any, .any, .any, .any, .any, .any, .any, .any, .any, .any, .any, .any, .any, .any, .any, .any, .any, .any, .any, .any, .any, .any, .any, .any, .any, .any, .any, .any, .any, .any, .any, .any, .any, .any, .any, .any, .any, .any, .any, .any, .any, .any, .any, .any, .any, .any, .any, .any, .any, .any, .any, .any, .any, .any, .any, .any, .any, .any, .any, .any, .any, .any, .any, .any, .any, .any, .any,(.bool t104)] .any 0 st
def j8.b (a0:AV) (st:Sto):Option Res:=Rn 98 [cI ap 98 []] [a0] (.tup []) 75 st
def j8.F2 (t1:Nat) (t30:Bool) (st:Sto):Option Res:=Rn 98 [cI ap 98 [1,0,1,1],cI ap 98 [1,1,1]] [.any,(.mp t1 0 0), .any, .any, .any, .any, .any, .any, .any, .any, .any, .any, .any, .any, .any, .any, .any, .any, .any, .any, .any, .any, .any, .any, .any, .any, .any, .any, .any, .any,(.bool t30)] .any 45 st
def j8.F1 (t1:Nat) (t3:Int) (st:Sto):Option Res:=Rn 98 [cI ap 98 [0,0,1,0,1,1,1],lI ap 98 [0,1,0,1,1,1], .blk 0,cI ap 98 [1,1,1,1]] [.any,(.mp t1 0 0), .any,(.int .i64 t3)] .any 72 st
def j8.K2 (t1:Nat) (t3:Int) (t75:Bool) (st:Sto):Option Res:=Rn 98 [cI ap 98 [1,0,0,1,0,0,1,0,1,1,1], .blk 1,cI ap 98 [1,1,0,0,1,0,1,1,1],lI ap 98 [0,1,0,1,1,1], .blk 0,cI ap 98 [1,1,1,1]] [.any,(.mp t1 0 0), .any,(.int .i64 t3), .any, .any, .any, .any, .any, .any, .any, .any, .any, .any, .any, .any, .any, .any, .any, .any, .any, .any, .any, .any, .any, .any, .any, .any, .any, .any, .any, .any, .any, .any, .any, .any, .any, .any, .any, .any, .any, .any, .any, .any, .any, .any, .any, .any, .any, .any, .any, .any, .any, .any, .any, .any, .any, .any, .any, .any, .any, .any, .any, .any, .any, .any, .any, .any, .any, .any, .any, .any, .any, .any, .any,(.bool t75)] .any 0 st
def E1.b (a0:ByteArray) (st:Sto):Option Res:=Rn 99 [cI ap 99 []] [(.str a0)] (.tup []) 4 st
def y8.b (a0:AV) (st:Sto):Option Res:=Rn 100 [cI ap 100 []] [a0] (.tup []) 20 st
def y8.F0 (t0:AV) (t3:Int) (t4:Int) (st:Sto):Option Res:=Rn 100 [cI ap 100 [0,0,1,0,1,1],lI ap 100 [0,1,0,1,1], .blk 0,cI ap 100 [1,1,1]] [t0, .any, .any,(.int .i64 t3),(.int .i64 t4)] .any 16 st
def d6.b (a0:ByteArray) (st:Sto):Option Res:=Rn 103 [cI ap 103 []] [(.str a0)] (.tup []) 116 st
def d6.L0 (t0:ByteArray) (t5:Int) (t8:Int) (t10:Int) (t57:Bool) (st:Sto):Option Res:=Rn 103 [cI ap 103 [1,0,1,1,1,1,1,1,1,1,1,1],cI ap 103 [1,1,1,1,1,1,1,1,1,1,1]] [(.str t0), .any, .any, .any, .any,(.int .u8 t5), .any, .any,(.int .i64 t8), .any,(.int .u8 t10), .any, .any, .any, .any, .any, .any, .any, .any, .any, .any, .any, .any, .any, .any, .any, .any, .any, .any, .any, .any, .any, .any, .any, .any, .any, .any, .any, .any, .any, .any, .any, .any, .any, .any, .any, .any, .any, .any, .any, .any, .any, .any, .any, .any, .any, .any,(.bool t57)] .any 59 st
def d6.I2 (t0:ByteArray) (t5:Int) (t8:Int) (t10:Int) (t11:Int) (t75:Bool) (st:Sto):Option Res:=Rn 103 [cI ap 103 [1,0,1,1,1,1,1,1,1,1,1,1,1,1,1],cI ap 103 [1,1,1,1,1,1,1,1,1,1,1,1,1,1]] [(.str t0), .any, .any, .any, .any,(.int .u8 t5), .any, .any,(.int .i64 t8), .any,(.int .u8 t10),(.int .u8 t11), .any, .any, .any, .any, .any, .any, .any, .any, .any, .any, .any, .any, .any, .any, .any, .any, .any, .any, .any, .any, .any, .any, .any, .any, .any, .any, .any, .any, .any, .any, .any, .any, .any, .any, .any, .any, .any, .any, .any, .any, .any, .any, .any, .any, .any, .any, .any, .any, .any, .any, .any, .any, .any, .any, .any, .any, .any, .any, .any, .any, .any, .any, .any,(.bool t75)] .any 41 st
def d6.J4 (t5:Int) (t10:Int) (t11:Int) (t12:Int) (t98:Bool) (st:Sto):Option Res:=Rn 103 [cI ap 103 [1,0,1,1,1,1,1,1,1,1,1,1,1,1,1,1,1,1],cI ap 103 [1,1,1,1,1,1,1,1,1,1,1,1,1,1,1,1,1]] [.any, .any, .any, .any, .any,(.int .u8 t5), .any, .any, .any, .any,(.int .u8 t10),(.int .u8 t11),(.int .u8 t12), .any, .any, .any, .any, .any, .any, .any, .any, .any, .any, .any, .any, .any, .any, .any, .any, .any, .any, .any, .any, .any, .any, .any, .any, .any, .any, .any, .any, .any, .any, .any, .any, .any, .any, .any, .any, .any, .any, .any, .any, .any, .any, .any, .any, .any, .any, .any, .any, .any, .any, .any, .any, .any, .any, .any, .any, .any, .any, .any, .any, .any, .any, .any, .any, .any, .any, .any, .any, .any, .any, .any, .any, .any, .any, .any, .any, .any, .any, .any, .any, .any, .any, .any, .any, .any,(.bool t98)] .any 18 st
def z9.b (a0:Int) (st:Sto):Option Res:=Rn 104 [cI ap 104 []] [(.int .i64 a0)] (.tup []) 15 st
def z9.H8 (t0:Int) (t6:Bool) (st:Sto):Option Res:=Rn 104 [cI ap 104 [1,1,1,0,0,1], .blk 0,cI ap 104 [1,1]] [(.int .i64 t0), .any, .any, .any, .any, .any,(.bool t6)] .any 9 st
def o9.b (a0:AV) (st:Sto):Option Res:=Rn 105 [cI ap 105 []] [a0] (.tup []) 82 st
def o9.F0 (t0:AV) (t34:AV) (t35:Int) (t36:Int) (st:Sto):Option Res:=Rn 105 [cI ap 105 [0,0,1,0,1,1],lI ap 105 [0,1,0,1,1], .blk 0,cI ap 105 [1,1,1]] [t0, .any, .any, .any, .any, .any, .any, .any, .any, .any, .any, .any, .any, .any, .any, .any, .any, .any, .any, .any, .any, .any, .any, .any, .any, .any, .any, .any, .any, .any, .any, .any, .any, .any,t34,(.int .i64 t35),(.int .i64 t36)] .any 46 st
def o9.F3 (t0:AV) (t34:AV) (t35:Int) (t36:Int) (t69:Bool) (st:Sto):Option Res:=Rn 105 [cI ap 105 [1,1,0,0,1,1,0,0,1,0,1,1], .blk 1,cI ap 105 [1,1,1,0,0,1,0,1,1],lI ap 105 [0,1,0,1,1], .blk 0,cI ap 105 [1,1,1]] [t0, .any, .any, .any, .any, .any, .any, .any, .any, .any, .any, .any, .any, .any, .any, .any, .any, .any, .any, .any, .any, .any, .any, .any, .any, .any, .any, .any, .any, .any, .any, .any, .any, .any,t34,(.int .i64 t35),(.int .i64 t36), .any, .any, .any, .any, .any, .any, .any, .any, .any, .any, .any, .any, .any, .any, .any, .any, .any, .any, .any, .any, .any, .any, .any, .any, .any, .any, .any, .any, .any, .any, .any, .any,(.bool t69)] .any 13 st
def E9.b (a0:ByteArray) (st:Sto):Option Res:=Rn 106 [cI ap 106 []] [(.str a0)] (.tup []) 4 st
def D7.b (a0:ByteArray) (a1:Int) (st:Sto):Option Res:=Rn 107 [cI ap 107 []] [(.str a0),(.int .i64 a1)] (.tup []) 19 st
def i5.b (a0:ByteArray) (a1:Int) (st:Sto):Option Res:=Rn 108 [cI ap 108 []] [(.str a0),(.int .u8 a1)] (.tup []) 51 st
def i5.I7 (t0:ByteArray) (t1:Int) (t24:Bool) (st:Sto):Option Res:=Rn 108 [cI ap 108 [1,0,1],cI ap 108 [1,1]] [(.str t0),(.int .u8 t1), .any, .any, .any, .any, .any, .any, .any, .any, .any, .any, .any, .any, .any, .any, .any, .any, .any, .any, .any, .any, .any, .any,(.bool t24)] .any 28 st
def i5.F0 (t0:ByteArray) (t1:Int) (t5:Int) (st:Sto):Option Res:=Rn 108 [cI ap 108 [0,0,1,0,1,1],lI ap 108 [0,1,0,1,1], .blk 0,cI ap 108 [1,1,1]] [(.str t0),(.int .u8 t1), .any, .any, .any,(.int .i64 t5)] .any 47 st
def i5.F6 (t0:ByteArray) (t1:Int) (t5:Int) (t52:Bool) (st:Sto):Option Res:=Rn 108 [cI ap 108 [1,1,0,0,1,0,0,1,0,1,1], .blk 1,cI ap 108 [1,1,0,0,1,0,1,1],lI ap 108 [0,1,0,1,1], .blk 0,cI ap 108 [1,1,1]] [(.str t0),(.int .u8 t1), .any, .any, .any,(.int .i64 t5), .any, .any, .any, .any, .any, .any, .any, .any, .any, .any, .any, .any, .any, .any, .any, .any, .any, .any, .any, .any, .any, .any, .any, .any, .any, .any, .any, .any, .any, .any, .any, .any, .any, .any, .any, .any, .any, .any, .any, .any, .any, .any, .any, .any, .any, .any,(.bool t52)] .any 0 st
def E7.b (a0:ByteArray) (st:Sto):Option Res:=Rn 109 [cI ap 109 []] [(.str a0)] (.tup []) 16 st
def C2.b (a0:ByteArray) (a1:ByteArray) (st:Sto):Option Res:=Rn 110 [cI ap 110 []] [(.str a0),(.str a1)] (.tup []) 18 st
def w4.b (a0:ByteArray) (a1:Int) (st:Sto):Option Res:=Rn 111 [cI ap 111 []] [(.str a0),(.int .u8 a1)] (.tup []) 48 st
def w4.F4 (t0:ByteArray) (t1:Int) (t9:Int) (t10:Int) (st:Sto):Option Res:=Rn 111 [cI ap 111 [0,0,1,0,1],lI ap 111 [0,1,0,1], .blk 0,cI ap 111 [1,1]] [(.str t0),(.int .u8 t1), .any, .any, .any, .any, .any, .any, .any,(.int .i64 t9),(.int .i64 t10)] .any 39 st
def w4.G7 (t0:ByteArray) (t1:Int) (t5:Int) (t6:Int) (t7:Bool) (t9:Int) (t10:Int) (st:Sto):Option Res:=Rn 111 [cI ap 111 [1,1,1,0,0,1,1,0,0,1,0,1], .blk 1,cI ap 111 [1,1,1,0,0,1,0,1],lI ap 111 [0,1,0,1], .blk 0,cI ap 111 [1,1]] [(.str t0),(.int .u8 t1), .any, .any, .any,(.int .i64 t5),(.int .u8 t6),(.bool t7), .any,(.int .i64 t9),(.int .i64 t10)] .any 39 st
def w4.H6 (t0:ByteArray) (t1:Int) (t9:Int) (t10:Int) (t40:Bool) (st:Sto):Option Res:=Rn 111 [cI ap 111 [1,1,1,1,0,0,1,1,0,0,1,0,1], .blk 1,cI ap 111 [1,1,1,0,0,1,0,1],lI ap 111 [0,1,0,1], .blk 0,cI ap 111 [1,1]] [(.str t0),(.int .u8 t1), .any, .any, .any, .any, .any, .any, .any,(.int .i64 t9),(.int .i64 t10), .any, .any, .any, .any, .any, .any, .any, .any, .any, .any, .any, .any, .any, .any, .any, .any, .any, .any, .any, .any, .any, .any, .any, .any, .any, .any, .any, .any, .any,(.bool t40)] .any 9 st
def D8.b (a0:ByteArray) (st:Sto):Option Res:=Rn 112 [cI ap 112 []] [(.str a0)] (.tup []) 5 st
end
end Go.Proofs.YtcgepgahgihojaaGreatDoor
